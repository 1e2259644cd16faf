/- Code points of a text: the plain words. -/
import Derived.Test.YthmdlnmbjgokaaaDoorUOf
import Derived.Laws.BitsAllLaws
namespace Go.Proofs.YthmdlnmbjgokaaaDoor
open Go.RowKit
set_option maxHeartbeats 400000

/-- code points with the places of their first units -/
def pts : Nat → List Int → List (Nat × Int)
  | _, [] => []
  | k, [u] => [(k, u)]
  | k, u :: v :: r => if u / 1024 = 54 ∧ v / 1024 = 55 then (k, (u - 55296) * 1024 + (v - 56320) + 65536) :: pts (k + 2) r else (k, u) :: pts (k + 1) (v :: r)
def PF (s : ByteArray) (i : Nat) : List (Nat × Int) := pts i ((U s).drop i)

theorem PF_end {s : ByteArray} {i : Nat} (h : s.size / 2 ≤ i) : PF s i = [] := by
  unfold PF
  rw [List.drop_of_length_le (by rw [U_length]; exact h)]
  rfl
theorem U_drop {s : ByteArray} {i : Nat} (h : i < s.size / 2) : (U s).drop i = unitAt s i :: (U s).drop (i + 1) := by
  have hi := U_get s i h
  obtain ⟨h1, h2⟩ := List.getElem?_eq_some_iff.1 hi
  rw [List.drop_eq_getElem_cons h1, h2]
theorem PF_pair {s : ByteArray} {i : Nat} (h : i + 1 < s.size / 2) (h1 : unitAt s i / 1024 = 54) (h2 : unitAt s (i + 1) / 1024 = 55) :
    PF s i = (i, (unitAt s i - 55296) * 1024 + (unitAt s (i + 1) - 56320) + 65536) :: PF s (i + 2) := by
  unfold PF
  rw [U_drop (by omega), U_drop h, pts, if_pos ⟨h1, h2⟩]
theorem PF_one {s : ByteArray} {i : Nat} (h : i < s.size / 2) (hn : ¬ (i + 1 < s.size / 2 ∧ unitAt s i / 1024 = 54 ∧ unitAt s (i + 1) / 1024 = 55)) :
    PF s i = (i, unitAt s i) :: PF s (i + 1) := by
  unfold PF
  rw [U_drop h]
  by_cases h2 : i + 1 < s.size / 2
  · rw [U_drop h2, pts, if_neg (fun h3 => hn ⟨h2, h3⟩)]
  · rw [List.drop_of_length_le (l := U s) (i := i + 1) (by rw [U_length]; omega)]
    rfl
theorem PF_length (s : ByteArray) (i : Nat) : (PF s i).length ≤ s.size / 2 - i := by
  rcases Nat.lt_or_ge i (s.size / 2) with h | h
  · by_cases hc : i + 1 < s.size / 2 ∧ unitAt s i / 1024 = 54 ∧ unitAt s (i + 1) / 1024 = 55
    · rw [PF_pair hc.1 hc.2.1 hc.2.2]
      have := PF_length s (i + 2)
      simp; omega
    · rw [PF_one h hc]
      have := PF_length s (i + 1)
      simp; omega
  · rw [PF_end h]; simp
termination_by s.size / 2 - i
/-- each is a code point or a surrogate -/
theorem PF_ok (s : ByteArray) (i : Nat) : ∀ p ∈ PF s i, i ≤ p.1 ∧ p.1 < s.size / 2 ∧ 0 ≤ p.2 ∧ p.2 ≤ 1114111 := by
  rcases Nat.lt_or_ge i (s.size / 2) with h | h
  · by_cases hc : i + 1 < s.size / 2 ∧ unitAt s i / 1024 = 54 ∧ unitAt s (i + 1) / 1024 = 55
    · rw [PF_pair hc.1 hc.2.1 hc.2.2]
      have ih := PF_ok s (i + 2)
      intro p hp
      rcases List.mem_cons.1 hp with rfl | hp
      · simp only; omega
      · have := ih p hp; omega
    · rw [PF_one h hc]
      have ih := PF_ok s (i + 1)
      have hb := unitAt_bd s i
      intro p hp
      rcases List.mem_cons.1 hp with rfl | hp
      · simp only; omega
      · have := ih p hp; omega
  · rw [PF_end h]; simp
termination_by s.size / 2 - i
/-- the pieces' units are the text's -/
theorem PF_units (s : ByteArray) (i : Nat) : (PF s i).flatMap (fun p => pointU p.2) = (U s).drop i := by
  rcases Nat.lt_or_ge i (s.size / 2) with h | h
  · by_cases hc : i + 1 < s.size / 2 ∧ unitAt s i / 1024 = 54 ∧ unitAt s (i + 1) / 1024 = 55
    · rw [PF_pair hc.1 hc.2.1 hc.2.2, List.flatMap_cons, PF_units s (i + 2), U_drop h, U_drop hc.1]
      simp only
      obtain ⟨_, h1, h2⟩ := hc
      rw [pointU_high (by omega) (by omega)]
      simp only [List.cons_append, List.nil_append]
      rw [show 55296 + ((unitAt s i - 55296) * 1024 + (unitAt s (i + 1) - 56320) + 65536 - 65536) / 1024 = unitAt s i by omega, show 56320 + ((unitAt s i - 55296) * 1024 + (unitAt s (i + 1) - 56320) + 65536 - 65536) % 1024 = unitAt s (i + 1) by omega]
    · have hb := unitAt_bd s i
      rw [PF_one h hc, List.flatMap_cons, PF_units s (i + 1), U_drop h]
      simp only
      rw [pointU_low hb.1 hb.2]
      rfl
  · rw [PF_end h, List.drop_of_length_le (by rw [U_length]; exact h)]
    rfl
termination_by s.size / 2 - i

theorem andNot_i32 (x : Int) (h0 : 0 ≤ x) (h1 : x < 65536) : bits .andNot .i32 x 1023 = x / 1024 * 1024 := by
  obtain ⟨n, rfl⟩ := Int.eq_ofNat_of_zero_le h0
  show IntKind.i32.wrap ((BitVec.ofInt 32 (n : Int) &&& ~~~BitVec.ofInt 32 1023).toNat : Int) = _
  have h2 : (BitVec.ofInt 32 1023).toNat = 1023 := by decide
  have h3 : (BitVec.ofInt 32 (n : Int)).toNat = n := by
    rw [BitVec.ofInt_natCast, BitVec.toNat_ofNat]
    omega
  rw [BitVec.toNat_and, BitVec.toNat_not, h3, h2, show 2 ^ 32 - 1 - 1023 = 4294966272 by decide, nat_hi32_10, IntKind.wrap_i32]
  omega
theorem andNot_u16 (x : Int) (h0 : 0 ≤ x) (h1 : x < 65536) : bits .andNot .u16 x 1023 = x / 1024 * 1024 := by
  obtain ⟨n, rfl⟩ := Int.eq_ofNat_of_zero_le h0
  have := u16_andNot_nat n 1023 (by omega) (by decide)
  rw [show ((1023 : Nat) : Int) = 1023 from rfl] at this
  rw [this, show 65535 - 1023 = 2 ^ 16 - 2 ^ 10 by decide, nat_midmask 16 10 n (by decide)]
  omega
theorem and_i32 (x : Int) (h0 : 0 ≤ x) (h1 : x < 65536) : bits .and .i32 x 1023 = x % 1024 := bits_mask .i32 31 (by decide) wraps_i32 10 (by decide) x h0 (by omega)
theorem and_u16 (x : Int) (h0 : 0 ≤ x) (h1 : x < 65536) : bits .and .u16 x 1023 = x % 1024 := bits_mask .u16 16 (by decide) (fun n h0 h1 => by simp [IntKind.wrap, IntKind.bits, IntKind.signed]; omega) 10 (by decide) x h0 (by omega)
end Go.Proofs.YthmdlnmbjgokaaaDoor
