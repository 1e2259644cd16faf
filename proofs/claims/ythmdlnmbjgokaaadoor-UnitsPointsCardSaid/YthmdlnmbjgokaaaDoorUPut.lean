/- The walks of units.put, even, unit, and of lintelref01.Even. -/
import Derived.Test.YthmdlnmbjgokaaaDoorUBuild
import Derived.Test.YthmdlnmbjgokaaaDoorUnitsA
import Derived.Test.YthmdlnmbjgokaaaDoorRefB
namespace Go.Proofs.YthmdlnmbjgokaaaDoor
open Go.RowKit
set_option maxHeartbeats 400000
set_option maxRecDepth 100000

theorem put_any (B b : Nat) (bs : List Value) (u : Int) (hu : 0 ≤ u ∧ u < 65536) (w : World) (h : Lib.IsBuilderF 65 5 B b bs w) (hlen : bs.length + 2 ≤ 140737488355328) (hBw : B ≤ w.heap.size) :
    Calls Tryd.prog 42 #[.pointer (some ⟨b, 0, none⟩), .int .u16 u] w fun e w' => e = .returned (.tuple #[]) ∧ (Lib.BuilderAtF 65 5 B b (.pointer (some ⟨b, 0, none⟩)) (bs ++ [.int .u8 (u / 256), .int .u8 (u % 256)]) w' ∧ Below B w w' ∧ Lib.OthersKept 5 (some b) w w') := by
  go_enter Tryd.func42, Tryd.ntmps42
  go_wp2_with fail
  refine (writeByte_any B b bs (u / 256) _ h (by omega) hBw).mono ?_
  rintro e w1 ⟨rfl, h1, b1, k1⟩
  have s1 := b1.size
  simp only
  go_wp2_with fail
  refine (writeByte_any B b _ (u % 256) _ (.inr h1) (by simp; omega) (by omega)).mono ?_
  rintro e w2 ⟨rfl, h2, b2, k2⟩
  simp only
  go_wp2_with fail
  go_end0
  refine ⟨rfl, ?_, b1.trans b2, k1.trans k2⟩
  simpa using h2

theorem and_even64 (x : Nat) (hx : x < 18446744073709551616) : x &&& 18446744073709551614 = x - x % 2 := by
  apply Nat.eq_of_testBit_eq
  intro i
  rw [Nat.testBit_and]
  cases i with
  | zero =>
    have h1 : Nat.testBit 18446744073709551614 0 = false := by decide
    have h2 : (x - x % 2).testBit 0 = false := by
      rw [Nat.testBit_zero]
      have : (x - x % 2) % 2 = 0 := by omega
      simp [this]
    rw [h1, h2, Bool.and_false]
  | succ i =>
    have h1 : Nat.testBit 18446744073709551614 (i + 1) = decide (i < 63) := by
      rw [Nat.testBit_succ, show 18446744073709551614 / 2 = 2 ^ 63 - 1 by decide, Nat.testBit_two_pow_sub_one]
    have h2 : (x - x % 2).testBit (i + 1) = x.testBit (i + 1) := by
      rw [Nat.testBit_succ, Nat.testBit_succ, show (x - x % 2) / 2 = x / 2 by omega]
    rw [h1, h2]
    by_cases hi : i < 63
    · simp [hi]
    · have : x.testBit (i + 1) = false := Nat.testBit_lt_two_pow (Nat.lt_of_lt_of_le hx (by
        have : 2 ^ 64 ≤ 2 ^ (i + 1) := Nat.pow_le_pow_right (by omega) (by omega)
        simpa using this))
      simp [hi, this]
theorem i64_andNot1 (x : Nat) (hx : x ≤ maxLen) : bits .andNot .i64 (x : Int) 1 = ((x / 2 * 2 : Nat) : Int) := by
  unfold maxLen at hx
  show IntKind.i64.wrap ((BitVec.ofInt 64 (x : Int) &&& ~~~BitVec.ofInt 64 1).toNat : Int) = _
  have h1 : (BitVec.ofInt 64 1).toNat = 1 := by decide
  have h2 : (BitVec.ofInt 64 (x : Int)).toNat = x := by
    rw [BitVec.ofInt_natCast, BitVec.toNat_ofNat]
    omega
  rw [BitVec.toNat_and, BitVec.toNat_not, h2, h1, show 2 ^ 64 - 1 - 1 = 18446744073709551614 by decide, and_even64 x (by omega), IntKind.wrap_i64]
  omega
theorem u16_join (x y : Nat) (hx : x < 256) (hy : y < 256) : bits .or .u16 ((x : Int) * 256) y = x * 256 + y :=
  bits_join .u16 16 (by decide) (fun n h0 h1 => by simp [IntKind.wrap, IntKind.bits, IntKind.signed]; omega) 8 ((x : Int) * 256) y (by omega) (by omega) (by omega) (by omega) (by omega) (by omega)

theorem even_any (s : ByteArray) (w : World) (hs : s.size ≤ maxLen) : Calls Tryd.prog 44 #[.string s] w fun e w' => e = .returned (.string (evenB s)) ∧ w' = w := by
  have h1 := i64_andNot1 s.size hs
  have h2 : ((s.size / 2 * 2 : Nat) : Int) ≤ s.size := by omega
  go_enter Tryd.func44, Tryd.ntmps44
  go_wp2_with fail
  go_ret
  exact ⟨by unfold evenB; congr 1, rfl⟩
theorem evenD_any (s : ByteArray) (w : World) (hs : s.size ≤ maxLen) : Calls Tryd.prog 20 #[.string s] w fun e w' => e = .returned (.string (evenB s)) ∧ w' = w := by
  have hs' := hs
  unfold maxLen at hs'
  have h1 : wrap64 (wrap64 ((s.size : Int) / 2) * 2) = ((s.size / 2 * 2 : Nat) : Int) := by
    unfold wrap64; omega
  have h2 : ((s.size / 2 * 2 : Nat) : Int) ≤ s.size := by omega
  go_enter Tryd.func20, Tryd.ntmps20
  go_wp2_with fail
  go_ret
  exact ⟨by unfold evenB; congr 1, rfl⟩
theorem unit_any (s : ByteArray) (k : Nat) (w : World) (hk : k < s.size / 2) (hs : s.size ≤ maxLen) : Calls Tryd.prog 45 #[.string s, .int .i64 k] w fun e w' => e = .returned (.int .u16 (unitAt s k)) ∧ w' = w.drew := by
  have i1 := run_index_str (P := Tryd.prog) Tryd.underlying9 s (2 * (k : Int)) (2 * k) (by simp) (by omega)
  have i2 := run_index_str (P := Tryd.prog) Tryd.underlying9 s (2 * (k : Int) + 1) (2 * k + 1) (by simp) (by omega)
  obtain ⟨x, hx⟩ : ∃ x : Nat, x = (s[2 * k]?.getD 0).toNat := ⟨_, rfl⟩
  obtain ⟨y, hy⟩ : ∃ y : Nat, y = (s[2 * k + 1]?.getD 0).toNat := ⟨_, rfl⟩
  have hx2 : (x : Int) < 256 := by have := UInt8.toNat_lt (s[2 * k]?.getD 0); omega
  have hy2 : (y : Int) < 256 := by have := UInt8.toNat_lt (s[2 * k + 1]?.getD 0); omega
  have hU : unitAt s k = x * 256 + y := by unfold unitAt; rw [hx, hy]
  rw [← hx] at i1
  rw [← hy] at i2
  have HU := Lib.hid hU
  clear hx hy hU
  unfold maxLen at hs
  go_enter Tryd.func45, Tryd.ntmps45
  go_wp2_with fail
  refine wp_region_lin (fun w' => w' = w.drew) [13] (.block 0 (.block 1 (.block 2 (.block 3 (.block 4 (.block 5 (.block 6 (.block 7 (.block 8 (.block 9 (.block 10 (.block 11 (.block 12 (.loop (.block 13 (.skip)))))))))))))))) (by kernel_rfl) (by kernel_rfl) (by kernel_rfl) (by kernel_rfl) (by kernel_rfl) rfl ?_
  have hj := u16_join x y (by omega) (by omega)
  repeat
    (refine lin_light (A1 := ?_) rfl rfl rfl rfl rfl (fun w' hS K hK => ?_) ?_ ?_
     rotate_left
     · obtain rfl := hS; go_step; exact hK
     · rfl)
  try refine lin_late ?_
  repeat
    (refine lin_light (A1 := ?_) rfl rfl rfl rfl rfl (fun w' hS K hK => ?_) ?_ ?_
     rotate_left
     · clear hS; go_step; exact hK
     · rfl)
  refine lin_end ?_
  go_wp2_with fail
  go_ret
  exact ⟨by rw [HU.out]; rfl, rfl⟩
end Go.Proofs.YthmdlnmbjgokaaaDoor
