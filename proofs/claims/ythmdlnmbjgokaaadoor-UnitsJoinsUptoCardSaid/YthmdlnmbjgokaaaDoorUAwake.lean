/- lintellaw01.awake. -/
import Derived.Test.YthmdlnmbjgokaaaDoorURefText
namespace Go.Proofs.YthmdlnmbjgokaaaDoor
open Go.RowKit
set_option maxHeartbeats 4000000
set_option maxRecDepth 100000

def sA : ByteArray := ⟨#[97, 226, 130, 172]⟩
def sB : ByteArray := ⟨#[240, 159, 152, 128]⟩
def sC : ByteArray := ⟨#[216, 0]⟩
theorem ofA : ofU sA 4 0 = ([97, 8364], none) := by decide +kernel
theorem ofB : ofU sB 4 0 = ([55357, 56832], none) := by decide +kernel
theorem ofRA : ofR sA = #[.string ⟨#[0, 97, 32, 172]⟩, .int .i64 0, .int .i64 0] := by
  unfold ofR
  rw [show sA.size = 4 from rfl, ofA]
  rfl
theorem ofRB : ofR sB = #[.string ⟨#[216, 61, 222, 0]⟩, .int .i64 0, .int .i64 0] := by
  unfold ofR
  rw [show sB.size = 4 from rfl, ofB]
  rfl
theorem uB : U ⟨#[216, 61, 222, 0]⟩ = [55357, 56832] := by decide +kernel
theorem pfC : PF sC 0 = [(0, 55296)] := by decide +kernel
theorem textC : textB sC = ⟨#[239, 191, 189]⟩ := by
  unfold textB
  rw [pfC]
  decide +kernel

theorem awake_any (w : World) (hT : Lib.Utf8Tabs 0 1 w) :
    Calls Tryd.prog 10 #[] w fun e w' => e = .returned (.bool true) ∧ Below w.heap.size w w' := by
  have HA := ofRA
  have HB := ofRB
  have HC := textC
  have HU := uB
  unfold sA at HA
  unfold sB at HB
  unfold sC at HC
  go_enter Tryd.func10, Tryd.ntmps10
  go_wp2_with fail
  refine (of_any _ _ (by decide) hT).mono ?_
  rintro e w1 ⟨rfl, b1⟩
  rw [HA]
  have hT1 := Utf8Tabs_below hT b1
  simp only
  go_wp2_with fail
  refine (of_any _ _ (by decide) hT1).mono ?_
  rintro e w2 ⟨rfl, b2⟩
  rw [HB]
  have b12 := b1.trans (b2.mono b1.size)
  simp only
  go_wp2_with fail
  refine (unitsUnits_any _ _ (by decide)).mono ?_
  rintro e w3 ⟨v, rfl, hown, b3⟩
  rw [HU] at hown
  have hown : w3.ownsRow w2.heap.size 54 1 v 2 [.int .u16 55357, .int .u16 56832] := hown
  obtain ⟨A, c, rfl⟩ := own_form hown
  have hrd := Rd.of_own hown
  obtain ⟨ad, rfl, _, c0⟩ := hrd.at_ (k := 0) rfl
  obtain ⟨_, e1, _, c1⟩ := hrd.at_ (k := 1) rfl
  cases e1
  have c0 : w3.cell? ad = some (.int .u16 55357) := by simpa [Addr.add] using c0
  have c1 : w3.cell? ⟨ad.block, ad.off + 1, none⟩ = some (.int .u16 56832) := by simpa [Addr.add] using c1
  have b13 := b12.trans (b3.mono b12.size)
  simp only
  go_wp2_with fail
  refine (text_any _ _ (by decide)).mono ?_
  rintro e w4 ⟨rfl, b4⟩
  rw [HC]
  have b14 := b13.trans (b4.mono b13.size)
  simp only
  go_wp2_with fail
  go_ret
  exact ⟨rfl, b14⟩
end Go.Proofs.YthmdlnmbjgokaaaDoor
