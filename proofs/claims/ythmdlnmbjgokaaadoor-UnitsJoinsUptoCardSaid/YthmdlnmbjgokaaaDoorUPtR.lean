/- lintelref01.point: the plain law (point is the model's decode, but for errors). -/
import Derived.Test.YthmdlnmbjgokaaaDoorUOf
namespace Go.Proofs.YthmdlnmbjgokaaaDoor
open Go.RowKit
set_option maxHeartbeats 4000000
set_option maxRecDepth 100000

def pointN (n b0 b1 b2 b3 : Nat) : Nat × Nat := if Lib.decodeN n b0 b1 b2 b3 = (65533, 1) then (0, 0) else Lib.decodeN n b0 b1 b2 b3

section
variable {n b0 b1 b2 b3 : Nat}
theorem pointN_one (h : b0 < 128) : pointN n b0 b1 b2 b3 = (b0, 1) := by
  unfold pointN Lib.decodeN
  rw [if_pos h, if_neg (by intro h'; injection h' with h' _; omega)]
theorem pointN_bad (h : Lib.decodeN n b0 b1 b2 b3 = (65533, 1)) : pointN n b0 b1 b2 b3 = (0, 0) := by
  unfold pointN; rw [if_pos h]
theorem pointN_ok {r k : Nat} (h : Lib.decodeN n b0 b1 b2 b3 = (r, k)) (hk : k ≠ 1) : pointN n b0 b1 b2 b3 = (r, k) := by
  unfold pointN; rw [h, if_neg (by intro h'; injection h' with _ h'; omega)]
theorem pointN_other (h0 : b0 < 256) (h : (128 ≤ b0 ∧ b0 < 194) ∨ 244 < b0) : pointN n b0 b1 b2 b3 = (0, 0) := by
  apply pointN_bad
  unfold Lib.decodeN
  repeat' split
  all_goals first | rfl | (exfalso; omega)
theorem pointN_two (h : 194 ≤ b0 ∧ b0 ≤ 223) (hn : 2 ≤ n) (h1 : 128 ≤ b1 ∧ b1 ≤ 191) : pointN n b0 b1 b2 b3 = (64 * (b0 - 192) + b1 - 128, 2) := by
  apply pointN_ok _ (by decide)
  unfold Lib.decodeN
  repeat' split
  all_goals first | (exfalso; omega) | (apply Prod.ext <;> simp only <;> omega)
theorem pointN_two_bad (h : 194 ≤ b0 ∧ b0 ≤ 223) (h1 : n < 2 ∨ b1 < 128 ∨ 191 < b1) (hb1 : b1 < 256) : pointN n b0 b1 b2 b3 = (0, 0) := by
  apply pointN_bad
  unfold Lib.decodeN
  repeat' split
  all_goals first | rfl | (exfalso; omega)
theorem pointN_three (h : 224 ≤ b0 ∧ b0 ≤ 239) (hn : 3 ≤ n) (h1 : 128 ≤ b1 ∧ b1 ≤ 191) (h2 : 128 ≤ b2 ∧ b2 ≤ 191) (hr : 2048 ≤ 64 * (64 * (b0 - 224) + b1 - 128) + b2 - 128 ∧ (64 * (64 * (b0 - 224) + b1 - 128) + b2 - 128 < 55296 ∨ 57343 < 64 * (64 * (b0 - 224) + b1 - 128) + b2 - 128)) :
    pointN n b0 b1 b2 b3 = (64 * (64 * (b0 - 224) + b1 - 128) + b2 - 128, 3) := by
  apply pointN_ok _ (by decide)
  unfold Lib.decodeN
  repeat' split
  all_goals first | (exfalso; omega) | (apply Prod.ext <;> simp only <;> omega)
theorem pointN_three_bad (h : 224 ≤ b0 ∧ b0 ≤ 239) (hb1 : b1 < 256) (hb2 : b2 < 256) (hr : n < 3 ∨ (b1 < 128 ∨ 191 < b1) ∨ (b2 < 128 ∨ 191 < b2) ∨ (((128 ≤ b1 ∧ b1 ≤ 191) ∧ 128 ≤ b2 ∧ b2 ≤ 191) ∧ (64 * (64 * (b0 - 224) + b1 - 128) + b2 - 128 < 2048 ∨ (55296 ≤ 64 * (64 * (b0 - 224) + b1 - 128) + b2 - 128 ∧ 64 * (64 * (b0 - 224) + b1 - 128) + b2 - 128 ≤ 57343)))) :
    pointN n b0 b1 b2 b3 = (0, 0) := by
  apply pointN_bad
  unfold Lib.decodeN
  repeat' split
  all_goals first | rfl | (exfalso; omega)
theorem pointN_four (h : 240 ≤ b0 ∧ b0 ≤ 244) (hn : 4 ≤ n) (h1 : 128 ≤ b1 ∧ b1 ≤ 191) (h2 : 128 ≤ b2 ∧ b2 ≤ 191) (h3 : 128 ≤ b3 ∧ b3 ≤ 191) (hr : 65536 ≤ 64 * (64 * (64 * (b0 - 240) + b1 - 128) + b2 - 128) + b3 - 128 ∧ 64 * (64 * (64 * (b0 - 240) + b1 - 128) + b2 - 128) + b3 - 128 ≤ 1114111) :
    pointN n b0 b1 b2 b3 = (64 * (64 * (64 * (b0 - 240) + b1 - 128) + b2 - 128) + b3 - 128, 4) := by
  apply pointN_ok _ (by decide)
  unfold Lib.decodeN
  repeat' split
  all_goals first | (exfalso; omega) | (apply Prod.ext <;> simp only <;> omega)
theorem pointN_four_bad (h : 240 ≤ b0 ∧ b0 ≤ 244) (hb1 : b1 < 256) (hb2 : b2 < 256) (hb3 : b3 < 256) (hr : n < 4 ∨ (b1 < 128 ∨ 191 < b1) ∨ (b2 < 128 ∨ 191 < b2) ∨ (b3 < 128 ∨ 191 < b3) ∨ (((128 ≤ b1 ∧ b1 ≤ 191) ∧ (128 ≤ b2 ∧ b2 ≤ 191) ∧ 128 ≤ b3 ∧ b3 ≤ 191) ∧ (64 * (64 * (64 * (b0 - 240) + b1 - 128) + b2 - 128) + b3 - 128 < 65536 ∨ 1114111 < 64 * (64 * (64 * (b0 - 240) + b1 - 128) + b2 - 128) + b3 - 128))) :
    pointN n b0 b1 b2 b3 = (0, 0) := by
  apply pointN_bad
  unfold Lib.decodeN
  repeat' split
  all_goals first | rfl | (exfalso; omega)
end

theorem get!_getD (s : ByteArray) (i : Nat) : s.get! i = s[i]?.getD 0 := by
  rw [← Lib.getD_get!']
  by_cases h : i < s.size
  · rw [getElem?_pos s i h]
    simp [List.getD]
    have h' : i < s.data.size := h
    rw [Array.getElem?_eq_getElem h']
    rfl
  · rw [getElem?_neg s i h]
    have h' : ¬ i < s.data.size := h
    simp [List.getD, Array.getElem?_eq_none (Nat.le_of_not_lt h')]

def pointAt (s : ByteArray) : Nat × Nat := pointN s.size (s[0]?.getD 0).toNat (s[1]?.getD 0).toNat (s[2]?.getD 0).toNat (s[3]?.getD 0).toNat
theorem pointAt_eq (s : ByteArray) : pointAt s = if Utf8.decode s 0 = (65533, 1) then (0, 0) else Utf8.decode s 0 := by
  rw [Lib.decode_at]
  simp only [get!_getD, Nat.sub_zero, Nat.zero_add]
  rfl
end Go.Proofs.YthmdlnmbjgokaaaDoor
