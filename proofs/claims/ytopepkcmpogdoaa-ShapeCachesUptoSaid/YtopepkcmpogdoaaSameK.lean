/- Keys that are Same are just those that compare alike when plain. -/
import Derived.Test.YtopepkcmpogdoaaSame
namespace Go.Proofs.Ytopepkcmpogdoaa
open Go.RowKit

theorem evenB_get (s : ByteArray) (i : Nat) : (evenB s)[i]? = if i < s.size / 2 * 2 then s[i]? else none := by
  have hz := evenB_size s
  by_cases h : i < s.size / 2 * 2
  · rw [if_pos h, getElem?_pos (evenB s) i (by omega), getElem?_pos s i (by omega)]
    simp [evenB, ByteArray.getElem_extract]
  · rw [if_neg h, getElem?_neg _ _ (by omega)]
theorem unitAt_even (s : ByteArray) (k : Nat) (h : k < s.size / 2) : unitAt (evenB s) k = unitAt s k := by
  unfold unitAt
  rw [evenB_get, evenB_get, if_pos (by omega), if_pos (by omega)]
theorem unitAt_inj {s t : ByteArray} {k : Nat} (h : unitAt s k = unitAt t k) : (s[2 * k]?.getD 0) = (t[2 * k]?.getD 0) ∧ (s[2 * k + 1]?.getD 0) = (t[2 * k + 1]?.getD 0) := by
  unfold unitAt at h
  have h1 := (s[2 * k]?.getD 0).toNat_lt
  have h2 := (s[2 * k + 1]?.getD 0).toNat_lt
  have h3 := (t[2 * k]?.getD 0).toNat_lt
  have h4 := (t[2 * k + 1]?.getD 0).toNat_lt
  exact ⟨UInt8.toNat_inj.1 (by omega), UInt8.toNat_inj.1 (by omega)⟩

theorem units_even (s t : ByteArray) : unitsOf s = unitsOf t ↔ evenB s = evenB t := by
  constructor
  · intro h
    have hl : s.size / 2 = t.size / 2 := by rw [← unitsOf_length, ← unitsOf_length, h]
    have zs := evenB_size s
    have zt := evenB_size t
    have key : ∀ k, k < s.size / 2 → (s[2 * k]?.getD 0) = (t[2 * k]?.getD 0) ∧ (s[2 * k + 1]?.getD 0) = (t[2 * k + 1]?.getD 0) := fun k hk => by
      have h1 := unitsOf_at s k hk
      rw [h, unitsOf_at t k (by omega)] at h1
      exact unitAt_inj (Option.some.inj h1).symm
    refine ByteArray.ext_getElem (by omega) fun i h1 h2 => ?_
    have e1 : (evenB s)[i]? = s[i]? := by rw [evenB_get, if_pos (by omega)]
    have e2 : (evenB t)[i]? = t[i]? := by rw [evenB_get, if_pos (by omega)]
    rw [getElem?_pos (evenB s) i h1, getElem?_pos s i (by omega)] at e1
    rw [getElem?_pos (evenB t) i h2, getElem?_pos t i (by omega)] at e2
    injection e1 with e1
    injection e2 with e2
    rw [e1, e2]
    obtain ⟨k0, k1⟩ := key (i / 2) (by omega)
    rcases Nat.mod_two_eq_zero_or_one i with hm | hm
    · rw [show 2 * (i / 2) = i from by omega, getElem?_pos s i (by omega), getElem?_pos t i (by omega)] at k0
      exact k0
    · rw [show 2 * (i / 2) + 1 = i from by omega, getElem?_pos s i (by omega), getElem?_pos t i (by omega)] at k1
      exact k1
  · intro h
    have hl : s.size / 2 = t.size / 2 := by
      have zs := evenB_size s
      have zt := evenB_size t
      rw [h] at zs
      omega
    refine List.ext_getElem? fun k => ?_
    by_cases hk : k < s.size / 2
    · rw [unitsOf_at s k hk, unitsOf_at t k (by omega), ← unitAt_even s k hk, ← unitAt_even t k (by omega), h]
    · rw [List.getElem?_eq_none (by rw [unitsOf_length]; omega), List.getElem?_eq_none (by rw [unitsOf_length]; omega)]

theorem sameB_iff (a b : KK) : sameB a b = true ↔ plainK a = plainK b := by
  obtain ⟨n, s⟩ := a
  obtain ⟨m, t⟩ := b
  unfold sameB plainK plainName plainSym
  simp only
  by_cases h1 : 0 < s
  · rw [if_pos (.inl h1), if_pos h1, if_pos h1]
    by_cases h2 : 0 < t
    · rw [if_pos h2, if_pos h2]; simp
    · rw [if_neg h2, if_neg h2]
      simp
      omega
  · by_cases h2 : 0 < t
    · rw [if_pos (.inr h2), if_neg h1, if_neg h1, if_pos h2, if_pos h2]
      simp
      omega
    · rw [if_neg (by omega), if_neg h1, if_neg h1, if_neg h2, if_neg h2]
      simp only [beq_iff_eq, Prod.mk.injEq, and_true]
      rw [← units_even]
      exact ⟨cmpL_zero _ _, fun h => by rw [h]; exact cmpL_self _⟩
end Go.Proofs.Ytopepkcmpogdoaa
