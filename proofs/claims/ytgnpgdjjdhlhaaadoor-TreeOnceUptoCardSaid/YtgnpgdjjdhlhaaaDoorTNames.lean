/- Words and names: the plain law of both sides. -/
import Derived.Test.YtgnpgdjjdhlhaaaDoorTWords
import Derived.Lib.IndexMore
namespace Go.Proofs.YtgnpgdjjdhlhaaaDoor
open Go.RowKit
set_option maxHeartbeats 4000000
set_option maxRecDepth 100000

def letU (b : UInt8) : Bool := letB (b.toNat : Nat)
def moreU (b : UInt8) : Bool := letB (b.toNat : Nat) || digB (b.toNat : Nat)
/-- texts by blanks -/
def splitL : List UInt8 → List UInt8 → List (List UInt8)
  | cur, [] => if cur = [] then [] else [cur]
  | cur, b :: r => if b = 32 then (if cur = [] then [] else [cur]) ++ splitL [] r else splitL (cur ++ [b]) r
def wordsT : List UInt8 := [32, 98, 114, 101, 97, 107, 32, 99, 97, 115, 101, 32, 99, 97, 116, 99, 104, 32, 99, 108, 97, 115, 115, 32, 99, 111, 110, 115, 116, 32, 99, 111, 110, 116, 105, 110, 117, 101, 32, 100, 101, 98, 117, 103, 103, 101, 114, 32, 100, 101, 102, 97, 117, 108, 116, 32, 100, 101, 108, 101, 116, 101, 32, 100, 111, 32, 101, 108, 115, 101, 32, 101, 110, 117, 109, 32, 101, 120, 112, 111, 114, 116, 32, 101, 120, 116, 101, 110, 100, 115, 32, 102, 97, 108, 115, 101, 32, 102, 105, 110, 97, 108, 108, 121, 32, 102, 111, 114, 32, 102, 117, 110, 99, 116, 105, 111, 110, 32, 105, 102, 32, 105, 109, 112, 111, 114, 116, 32, 105, 110, 32, 105, 110, 115, 116, 97, 110, 99, 101, 111, 102, 32, 110, 101, 119, 32, 110, 117, 108, 108, 32, 114, 101, 116, 117, 114, 110, 32, 115, 117, 112, 101, 114, 32, 115, 119, 105, 116, 99, 104, 32, 116, 104, 105, 115, 32, 116, 104, 114, 111, 119, 32, 116, 114, 117, 101, 32, 116, 114, 121, 32, 116, 121, 112, 101, 111, 102, 32, 118, 97, 114, 32, 118, 111, 105, 100, 32, 119, 104, 105, 108, 101, 32, 119, 105, 116, 104, 32, 105, 109, 112, 108, 101, 109, 101, 110, 116, 115, 32, 105, 110, 116, 101, 114, 102, 97, 99, 101, 32, 108, 101, 116, 32, 112, 97, 99, 107, 97, 103, 101, 32, 112, 114, 105, 118, 97, 116, 101, 32, 112, 114, 111, 116, 101, 99, 116, 101, 100, 32, 112, 117, 98, 108, 105, 99, 32, 115, 116, 97, 116, 105, 99, 32, 121, 105, 101, 108, 100, 32]
def wordsR : List UInt8 := (wordsT.drop 1).dropLast
def wordsW : List (List UInt8) := splitL [] wordsR
def wordU (l : List UInt8) : Bool := wordsW.contains l
def nameU : List UInt8 → Bool
  | [] => false
  | b :: r => letU b && !wordU (b :: r) && (b :: r).all moreU
theorem words_ok : wordsW.all (fun l => !l.isEmpty && !l.contains 32 && Lib.contains wordsT (32 :: l ++ [32])) = true := by decide +kernel
theorem words_tok : (List.range (wordsT.length + 1)).all (fun i => (wordsT[i]? != some 32) || ((wordsT.drop (i + 1)).takeWhile (· != 32)).isEmpty || wordsW.contains ((wordsT.drop (i + 1)).takeWhile (· != 32))) = true := by decide +kernel
theorem takeWhile_pre : ∀ (l t : List UInt8), l.contains 32 = false → (l ++ [32]) <+: t → t.takeWhile (· != 32) = l
  | [], t, _, h => by
    obtain ⟨r, rfl⟩ := h
    rfl
  | b :: l, t, hc, h => by
    obtain ⟨r, rfl⟩ := h
    simp only [List.contains_cons, Bool.or_eq_false_iff] at hc
    have hb : (b != 32) = true := by
      have := hc.1
      simp only [bne_iff_ne, ne_eq]
      intro e
      subst e
      simp at this
    show (b :: (l ++ [32] ++ r)).takeWhile (· != 32) = b :: l
    rw [List.takeWhile_cons, if_pos hb, takeWhile_pre l _ hc.2 ⟨r, rfl⟩]
theorem wordU_bad {l : List UInt8} (h : l.isEmpty = true ∨ l.contains 32 = true) : wordU l = false := by
  cases hw : wordU l with
  | false => rfl
  | true =>
    have h1 := List.all_eq_true.1 words_ok l (by unfold wordU at hw; simpa using hw)
    simp only [Bool.and_eq_true, Bool.not_eq_true'] at h1
    rcases h with h | h
    · rw [h1.1.1] at h; cases h
    · rw [h1.1.2] at h; cases h
theorem contains_word {l : List UInt8} (h0 : l.isEmpty = false) (h1 : l.contains 32 = false) : Lib.contains wordsT (32 :: l ++ [32]) = wordU l := by
  cases hw : wordU l with
  | true =>
    have h1 := List.all_eq_true.1 words_ok l (by unfold wordU at hw; simpa using hw)
    simp only [Bool.and_eq_true] at h1
    exact h1.2
  | false =>
    cases hc : Lib.contains wordsT (32 :: l ++ [32]) with
    | false => rfl
    | true =>
      exfalso
      rcases Lib.index_spec wordsT (32 :: l ++ [32]) with ⟨h2, _⟩ | ⟨i, h2, h3, h4, _⟩
      · unfold Lib.contains at hc
        rw [h2] at hc
        cases hc
      · have h5 := Lib.occAt_head (c := 32) (t := l ++ [32]) rfl h4
        have h6 : (32 :: l ++ [32]) <+: wordsT.drop i := List.isPrefixOf_iff_prefix.1 h4
        have h7 : (l ++ [32]) <+: wordsT.drop (i + 1) := by
          obtain ⟨r, hr⟩ := h6
          refine ⟨r, ?_⟩
          have := congrArg (List.drop 1) hr
          rw [List.drop_drop] at this
          exact this
        have h8 := takeWhile_pre l _ h1 h7
        have h9 := List.all_eq_true.1 words_tok i (List.mem_range.2 (by omega))
        rw [h8, h5] at h9
        unfold wordU at hw
        rw [h0, hw] at h9
        cases h9
/-- the checker's way through a name -/
def lexAll : Nat → List UInt8 → Bool
  | _, [] => true
  | i, b :: r => (letU b || (decide (i ≠ 0) && digB (b.toNat : Nat))) && lexAll (i + 1) r
theorem lexAll_more : ∀ (l : List UInt8) (i : Nat), lexAll (i + 1) l = l.all moreU
  | [], i => rfl
  | b :: r, i => by
    unfold lexAll
    rw [lexAll_more r (i + 1), List.all_cons, decide_eq_true (by omega), Bool.true_and]
    rfl
theorem lex_name : ∀ l : List UInt8, (lexAll 0 l && !l.isEmpty && !wordU l) = nameU l
  | [] => rfl
  | b :: r => by
    show (((letU b || (decide (0 ≠ 0) && digB (b.toNat : Nat))) && lexAll (0 + 1) r) && !(b :: r).isEmpty && !wordU (b :: r)) = (letU b && !wordU (b :: r) && (moreU b && r.all moreU))
    rw [lexAll_more r 0]
    have hm : moreU b = (letU b || digB (b.toNat : Nat)) := rfl
    rw [hm]
    cases letU b <;> cases digB (b.toNat : Nat) <;> cases r.all moreU <;> cases wordU (b :: r) <;> rfl
theorem lexAll_at {l : List UInt8} {k : Nat} {b : UInt8} (h : l[k]? = some b) : lexAll k (l.drop k) = ((letU b || (decide (k ≠ 0) && digB (b.toNat : Nat))) && lexAll (k + 1) (l.drop (k + 1))) := by
  rw [List.drop_eq_getElem_cons (List.getElem?_eq_some_iff.1 h).1, (List.getElem?_eq_some_iff.1 h).2]
  rfl
theorem split_at {l : List UInt8} {cur : List UInt8} {k : Nat} {b : UInt8} (h : l[k]? = some b) : splitL cur (l.drop k) = if b = 32 then (if cur = [] then [] else [cur]) ++ splitL [] (l.drop (k + 1)) else splitL (cur ++ [b]) (l.drop (k + 1)) := by
  rw [List.drop_eq_getElem_cons (List.getElem?_eq_some_iff.1 h).1, (List.getElem?_eq_some_iff.1 h).2]
  rfl
theorem ba_data (s : ByteArray) : (⟨s.data.toList.toArray⟩ : ByteArray) = s := by cases s; simp
theorem ba_len (s : ByteArray) : s.data.toList.length = s.size := by rw [Array.length_toList]; rfl
theorem ba_at {s : ByteArray} {k : Nat} (h : k < s.size) : s.data.toList[k]? = some (s[k]?.getD 0) := by
  have h2 : k < s.data.size := h
  rw [getElem?_pos s k h, Array.getElem?_toList, Array.getElem?_eq_getElem h2]
  rfl
theorem ba_empty {s : ByteArray} (h : s.size ≠ 0) : s.toList.isEmpty = false ∧ s.data.toList.isEmpty = false := by
  rw [ByteArray.toList_eq]
  have : s.data.toList.isEmpty = false := by
    cases hd : s.data.toList with
    | nil => exact absurd (by rw [← ba_len, hd]; rfl) h
    | cons a r => rfl
  exact ⟨this, this⟩
theorem ba_nil {s : ByteArray} (h : s.size = 0) : s = ⟨#[]⟩ := by
  rw [← ba_data s, show s.data.toList = [] from List.length_eq_zero_iff.1 (by rw [ba_len]; exact h)]
end Go.Proofs.YtgnpgdjjdhlhaaaDoor
