/- The walks of units.Compare and cmp.Compare[string]. -/
import Derived.Test.YthmdlnmbjgokaaaDoorUPut
namespace Go.Proofs.YthmdlnmbjgokaaaDoor
open Go.RowKit
set_option maxHeartbeats 4000000
set_option maxRecDepth 100000

theorem isnan_any (a : ByteArray) (w : World) : Calls Tryd.prog 54 #[.string a] w fun e w' => e = .returned (.bool false) ∧ w = w' := by
  go_enter Tryd.func54, Tryd.ntmps54
  go_wp2_with fail
  go_ret
  exact ⟨by simp, rfl⟩
/-- what cmp.Compare answers -/
def cmpS (a b : ByteArray) : Int := if Op.bytesLess a.data.toList b.data.toList = true then -1 else if (a.data.toList == b.data.toList) = true then 0 else 1
theorem cmpS_any (a b : ByteArray) (w : World) : Calls Tryd.prog 47 #[.string a, .string b] w fun e w' => e = .returned (.int .i64 (cmpS a b)) ∧ w = w' := by
  have e1 : a.toList = a.data.toList := ByteArray.toList_eq a
  have e2 : b.toList = b.data.toList := ByteArray.toList_eq b
  unfold cmpS
  obtain ⟨x, hx⟩ : ∃ x, Op.bytesLess a.data.toList b.data.toList = x := ⟨_, rfl⟩
  obtain ⟨y, hy⟩ : ∃ y, (a.data.toList == b.data.toList) = y := ⟨_, rfl⟩
  have b1 : ∀ t, binOp .lss t (.string a) (.string b) = pure (.bool x) := fun t => by rw [binOp_string_lss, e1, e2, hx]
  have b2 : ∀ t, binOp .gtr t (.string a) (.string b) = pure (.bool !(x || y)) := fun t => by rw [binOp_string_gtr, e1, e2, hx, hy]
  rw [hx, hy]
  clear hx hy e1 e2
  cases x with
  | true =>
    go_enter Tryd.func47, Tryd.ntmps47
    go_wp2_with fail
    refine (isnan_any _ _).mono ?_
    rintro e w1 ⟨rfl, rfl⟩
    simp only
    go_wp2_with fail
    refine (isnan_any _ _).mono ?_
    rintro e w1 ⟨rfl, rfl⟩
    simp only
    go_wp2_with fail
    go_ret
    exact ⟨rfl, rfl⟩
  | false =>
    cases y with
    | true =>
      go_enter Tryd.func47, Tryd.ntmps47
      go_wp2_with fail
      refine (isnan_any _ _).mono ?_
      rintro e w1 ⟨rfl, rfl⟩
      simp only
      go_wp2_with fail
      refine (isnan_any _ _).mono ?_
      rintro e w1 ⟨rfl, rfl⟩
      simp only
      go_wp2_with fail
      go_ret
      exact ⟨rfl, rfl⟩
    | false =>
      go_enter Tryd.func47, Tryd.ntmps47
      go_wp2_with fail
      refine (isnan_any _ _).mono ?_
      rintro e w1 ⟨rfl, rfl⟩
      simp only
      go_wp2_with fail
      refine (isnan_any _ _).mono ?_
      rintro e w1 ⟨rfl, rfl⟩
      simp only
      go_wp2_with fail
      go_ret
      exact ⟨rfl, rfl⟩
theorem cmpU_any (s t : ByteArray) (w : World) (hs : s.size ≤ maxLen) (ht : t.size ≤ maxLen) : Calls Tryd.prog 30 #[.string s, .string t] w fun e w' => e = .returned (.int .i64 (cmpS (evenB s) (evenB t))) ∧ w = w' := by
  go_enter Tryd.func30, Tryd.ntmps30
  go_wp2_with fail
  refine (even_any s _ hs).mono ?_
  rintro e w1 ⟨rfl, rfl⟩
  simp only
  go_wp2_with fail
  refine (even_any t _ ht).mono ?_
  rintro e w1 ⟨rfl, rfl⟩
  simp only
  go_wp2_with fail
  refine (cmpS_any _ _ _).mono ?_
  rintro e w1 ⟨rfl, rfl⟩
  simp only
  go_wp2_with fail
  go_ret
  exact ⟨rfl, rfl⟩
end Go.Proofs.YthmdlnmbjgokaaaDoor
