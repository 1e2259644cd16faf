/- The table of instructions as plain data: names and letters. -/
import Derived.Test.YtoihoackmkapaaaDoorBase
namespace Go.Proofs.YtoihoackmkapaaaDoor
open Go.RowKit

/-- names and letters of the 49 instructions -/
def tab : List (ByteArray × ByteArray) := [
  (⟨#[76, 111, 97, 100]⟩, ⟨#[114, 110]⟩),
  (⟨#[67, 111, 110, 115, 116]⟩, ⟨#[114, 107]⟩),
  (⟨#[77, 111, 118, 101]⟩, ⟨#[114, 114]⟩),
  (⟨#[84, 104, 105, 115]⟩, ⟨#[114]⟩),
  (⟨#[67, 97, 108, 108, 101, 101]⟩, ⟨#[114]⟩),
  (⟨#[71, 108, 111, 98, 97, 108]⟩, ⟨#[114, 115]⟩),
  (⟨#[84, 114, 121]⟩, ⟨#[114, 115]⟩),
  (⟨#[65, 115, 115, 105, 103, 110]⟩, ⟨#[115, 114]⟩),
  (⟨#[67, 101, 108, 108]⟩, ⟨#[114, 114]⟩),
  (⟨#[80, 101, 101, 107]⟩, ⟨#[114, 114]⟩),
  (⟨#[80, 111, 107, 101]⟩, ⟨#[114, 114]⟩),
  (⟨#[85, 112]⟩, ⟨#[114, 117]⟩),
  (⟨#[85, 112, 83, 101, 116]⟩, ⟨#[117, 114]⟩),
  (⟨#[65, 115, 107]⟩, ⟨#[114, 115]⟩),
  (⟨#[70, 105, 120, 101, 100]⟩, ⟨#[115]⟩),
  (⟨#[67, 108, 111, 115, 117, 114, 101]⟩, ⟨#[114, 102]⟩),
  (⟨#[74, 117, 109, 112]⟩, ⟨#[116]⟩),
  (⟨#[73, 102]⟩, ⟨#[114, 116]⟩),
  (⟨#[78, 111, 116]⟩, ⟨#[114, 116]⟩),
  (⟨#[83, 97, 109, 101]⟩, ⟨#[114, 110, 116]⟩),
  (⟨#[79, 98, 106, 101, 99, 116]⟩, ⟨#[114]⟩),
  (⟨#[65, 114, 114, 97, 121]⟩, ⟨#[114]⟩),
  (⟨#[76, 105, 115, 116]⟩, ⟨#[114]⟩),
  (⟨#[80, 117, 115, 104]⟩, ⟨#[114, 114]⟩),
  (⟨#[83, 112, 114, 101, 97, 100]⟩, ⟨#[114, 114]⟩),
  (⟨#[80, 117, 116]⟩, ⟨#[114, 114, 114]⟩),
  (⟨#[71, 101, 116, 116, 101, 114]⟩, ⟨#[114, 114, 114]⟩),
  (⟨#[83, 101, 116, 116, 101, 114]⟩, ⟨#[114, 114, 114]⟩),
  (⟨#[71, 101, 116]⟩, ⟨#[114, 114, 114]⟩),
  (⟨#[83, 101, 116]⟩, ⟨#[114, 114, 114]⟩),
  (⟨#[68, 101, 108, 101, 116, 101]⟩, ⟨#[114, 114, 114]⟩),
  (⟨#[75, 101, 121]⟩, ⟨#[114, 114]⟩),
  (⟨#[67, 97, 108, 108]⟩, ⟨#[114, 114, 114, 114]⟩),
  (⟨#[78, 101, 119]⟩, ⟨#[114, 114, 114]⟩),
  (⟨#[82, 101, 116, 117, 114, 110]⟩, ⟨#[114]⟩),
  (⟨#[84, 104, 114, 111, 119]⟩, ⟨#[114]⟩),
  (⟨#[75, 101, 121, 115]⟩, ⟨#[114, 114]⟩),
  (⟨#[78, 101, 120, 116]⟩, ⟨#[114, 114, 116]⟩),
  (⟨#[73, 116, 101, 114]⟩, ⟨#[114, 114]⟩),
  (⟨#[83, 116, 101, 112]⟩, ⟨#[114, 114, 116]⟩),
  (⟨#[67, 108, 111, 115, 101]⟩, ⟨#[114]⟩),
  (⟨#[81, 117, 105, 101, 116]⟩, ⟨#[114]⟩),
  (⟨#[84, 101, 120, 116]⟩, ⟨#[114, 114]⟩),
  (⟨#[68, 111, 110, 101]⟩, ⟨#[114]⟩),
  (⟨#[80, 108, 117, 115]⟩, ⟨#[114, 114]⟩),
  (⟨#[77, 105, 110, 117, 115]⟩, ⟨#[114, 114]⟩),
  (⟨#[70, 108, 105, 112]⟩, ⟨#[114, 114]⟩),
  (⟨#[66, 97, 110, 103]⟩, ⟨#[114, 114]⟩),
  (⟨#[84, 121, 112, 101]⟩, ⟨#[114, 114]⟩)]
/-- what an instruction's operands are -/
def lettersOf (n : Int) : ByteArray := if n < 0 ∨ 70 < n then ⟨#[]⟩ else if n < 49 then (tab.getD n.toNat (⟨#[]⟩, ⟨#[]⟩)).2 else ⟨#[114, 114, 114]⟩
theorem tab_length : tab.length = 49 := rfl
theorem letters_none {n : Int} (h : n < 0 ∨ 70 < n) : lettersOf n = ⟨#[]⟩ := if_pos h
theorem letters_tab {n : Nat} (h : n < 49) : lettersOf n = (tab.getD n (⟨#[]⟩, ⟨#[]⟩)).2 := by
  unfold lettersOf
  rw [if_neg (by omega), if_pos (by omega), Int.toNat_natCast]
theorem letters_bin {n : Int} (h0 : 49 ≤ n) (h1 : n ≤ 70) : lettersOf n = ⟨#[114, 114, 114]⟩ := by
  unfold lettersOf
  rw [if_neg (by omega), if_neg (by omega)]
/-- a letter's byte is one of seven -/
def isLetter (b : UInt8) : Bool := b == 114 || b == 107 || b == 115 || b == 116 || b == 102 || b == 117 || b == 110
theorem tab_letters : tab.all (fun p => p.2.data.toList.all isLetter && decide (p.2.size ≤ 4) && decide (0 < p.1.size) && decide (p.1.size < 100)) = true := by decide +kernel
theorem tab_nospace : tab.all (fun p => p.1.data.toList.all fun b => b != 32) = true := by decide +kernel
theorem tab_at {n : Nat} (h : n < 49) : ∃ p, tab[n]? = some p ∧ tab.getD n (⟨#[]⟩, ⟨#[]⟩) = p ∧ p ∈ tab := by
  have h' : n < tab.length := h
  exact ⟨tab[n], List.getElem?_eq_getElem h', by rw [List.getD_eq_getElem?_getD, List.getElem?_eq_getElem h']; rfl, List.getElem_mem h'⟩
theorem letters_ok (n : Int) : (lettersOf n).size ≤ 4 ∧ ∀ (k : Nat) (b : UInt8), (lettersOf n)[k]? = some b → isLetter b = true := by
  have key : ∀ p : ByteArray, p.data.toList.all isLetter = true → ∀ (k : Nat) (b : UInt8), p[k]? = some b → isLetter b = true := by
    intro p hp k b hk
    have hkl : k < p.size := by
      rcases Nat.lt_or_ge k p.size with h | h
      · exact h
      · rw [getElem?_neg _ _ (by omega)] at hk; cases hk
    rw [getElem?_pos p k hkl] at hk
    injection hk with hk
    refine List.all_eq_true.1 hp b ?_
    rw [← hk]
    exact Array.getElem_mem_toList hkl
  unfold lettersOf
  split
  · exact ⟨by decide, key _ rfl⟩
  · split
    · rename_i h1 h2
      obtain ⟨p, _, hp, hm⟩ := tab_at (n := n.toNat) (by omega)
      rw [hp]
      have h3 := List.all_eq_true.1 tab_letters p hm
      simp only [Bool.and_eq_true, decide_eq_true_eq] at h3
      exact ⟨h3.1.1.2, key _ h3.1.1.1⟩
    · exact ⟨by decide, key _ rfl⟩
end Go.Proofs.YtoihoackmkapaaaDoor
