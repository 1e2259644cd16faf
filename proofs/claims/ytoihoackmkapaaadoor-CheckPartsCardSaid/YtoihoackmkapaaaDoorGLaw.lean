/- What a module that Check takes is like, at lengths of any size: plain laws for CheckGuards and CheckParts. -/
import Derived.Test.YtoihoackmkapaaaDoorKLaw
import Derived.Test.YtoihoackmkapaaaDoorGCheck
namespace Go.Proofs.YtoihoackmkapaaaDoor.G
open Go.RowKit
set_option maxRecDepth 100000

theorem checkR_three (fns : List FnT) (m : Nat) : ∃ x y z : Int, checkR fns m = #[.int .i64 x, .int .i64 y, .int .i64 z] ∧ (z = 0 ∨ z = 120) := by
  unfold checkR
  split
  · exact ⟨_, _, _, rfl, .inr rfl⟩
  · unfold ansR
    split
    · exact ⟨_, _, _, rfl, .inr rfl⟩
    · exact ⟨_, _, _, rfl, .inl rfl⟩
/-- a function that is right -/
structure OkF (fns : List FnT) (m n : Nat) (f : FnT) : Prop where
  head : headB m n f = true
  ins : ∀ k i, f.code[k]? = some i → insB fns m f k i = true
  tries : triesB f = true
theorem chkFn_none {fns : List FnT} {m n : Nat} {f : FnT} (h : chkFn fns m n f = none) : OkF fns m n f := by
  unfold chkFn at h
  by_cases h1 : headB m n f = true
  · rw [if_pos h1] at h
    cases h2 : bad (insK fns m f) f.code.length 0 with
    | some k => rw [h2] at h; cases h
    | none =>
      rw [h2] at h
      simp only at h
      by_cases h3 : triesB f = true
      · refine ⟨h1, fun k i hi => ?_, h3⟩
        have := bad_none _ _ _ h2 k (Nat.zero_le _) (by have := (List.getElem?_eq_some_iff.1 hi).1; omega)
        rwa [insK_at hi] at this
      · rw [if_neg h3] at h; cases h
  · rw [if_neg h1] at h; cases h
theorem OkF.chk {fns : List FnT} {m n : Nat} {f : FnT} (h : OkF fns m n f) : chkFn fns m n f = none :=
  chkFn_ok h.head (bad_all _ _ _ fun j _ hj => by
    have hj' : j < f.code.length := by omega
    rw [insK_at (List.getElem?_eq_getElem hj')]
    exact h.ins j _ (List.getElem?_eq_getElem hj')) h.tries
/-- a module that is right -/
def OkM (fns : List FnT) (m : Nat) : Prop := 0 < m ∧ ∀ n f, fns[n]? = some f → OkF fns m n f
theorem checkR_ok {fns : List FnT} {m : Nat} (hm : fns.length = m) {x y : Int} (h : checkR fns m = #[.int .i64 x, .int .i64 y, .int .i64 0]) : OkM fns m := by
  unfold checkR at h
  by_cases h0 : m = 0
  · rw [if_pos h0] at h
    simp at h
  · rw [if_neg h0] at h
    cases hc : chkM (chkF fns m) m 0 with
    | some z => rw [hc] at h; simp [ansR] at h
    | none =>
      refine ⟨by omega, fun n f hf => chkFn_none ?_⟩
      have := chkM_none _ _ _ hc n (Nat.zero_le _) (by have := (List.getElem?_eq_some_iff.1 hf).1; omega)
      rwa [chkF_at hf] at this
theorem OkM.checkR {fns : List FnT} {m : Nat} (h : OkM fns m) : checkR fns m = #[.int .i64 0, .int .i64 0, .int .i64 0] := by
  unfold Proofs.YtoihoackmkapaaaDoor.G.checkR
  rw [if_neg (by have := h.1; omega), chkM_all]
  · rfl
  · intro j _ _
    unfold chkF
    cases hf : fns[j]? with
    | none => rfl
    | some f => exact (h.2 j f hf).chk

theorem OkF.args {fns : List FnT} {m n : Nat} {f : FnT} (h : OkF fns m n f) {k : Nat} {i : InsT} (hi : f.code[k]? = some i) : argsB m f i = true := by
  have h1 := h.ins k i hi
  unfold insB at h1
  rw [Bool.and_eq_true, Bool.and_eq_true] at h1
  exact h1.2.1
theorem OkF.guard {fns : List FnT} {m n : Nat} {f : FnT} (h : OkF fns m n f) {k p : Nat} {i : InsT} {x : UInt8} (hi : f.code[k]? = some i) (hx : (lettersOf i.1)[p]? = some x) (hp : p < 4) :
    0 ≤ argAt i p ∧ argAt i p < mostOf m f x.toNat := by
  obtain ⟨h0, h1, h2, h3⟩ := args_each (h.args hi)
  have hb : argB m f i p = true := by
    obtain rfl | rfl | rfl | rfl : p = 0 ∨ p = 1 ∨ p = 2 ∨ p = 3 := by omega
    · exact h0
    · exact h1
    · exact h2
    · exact h3
  rw [argB_some hx] at hb
  exact kind_most hb
theorem OkF.code {fns : List FnT} {m n : Nat} {f : FnT} (h : OkF fns m n f) : 0 < f.code.length ∧ f.params ≤ f.regs ∧ ∀ i, f.code[f.code.length - 1]? = some i → endsB i.1 = true := by
  have h1 := h.head
  unfold headB at h1
  rw [Bool.and_eq_true, decide_eq_true_eq] at h1
  obtain ⟨⟨_, _, _, h2, h3, _⟩, _⟩ := h1
  refine ⟨by omega, by unfold b2i at h2; split at h2 <;> omega, fun i hi => ?_⟩
  have h4 := h.ins _ _ hi
  unfold insB frontB at h4
  rw [Bool.and_eq_true, Bool.and_eq_true, Bool.or_eq_true] at h4
  rcases h4.1.2 with h5 | h5
  · rw [decide_eq_true_eq] at h5
    omega
  · exact h5

theorem headB_less {m m' n : Nat} {f : FnT} (hm : m' ≤ m) (h : headB m n f = true) : headB m' n f = true := by
  unfold headB at h ⊢
  rw [Bool.and_eq_true, decide_eq_true_eq] at h ⊢
  obtain ⟨⟨h1, h2, h3, h4, h5, h6⟩, h7⟩ := h
  exact ⟨⟨h1, h2, h3, h4, h5, fun h => ⟨Nat.le_trans hm (h6 h).1, (h6 h).2⟩⟩, h7⟩
theorem parts {fns : List FnT} {m : Nat} (hl : fns.length = m) (h : OkM fns m) (h2 : 2 ≤ m) (hno : ∀ n f, n < m - 1 → fns[n]? = some f → ∀ i ∈ f.code, ¬ (i.1 = 15 ∧ i.2.2.1 = ((m - 1 : Nat) : Int))) :
    OkM (fns.take (m - 1)) (m - 1) := by
  refine ⟨by omega, fun n f hf => ?_⟩
  have hn : n < m - 1 := by
    have := (List.getElem?_eq_some_iff.1 hf).1
    rw [List.length_take] at this
    omega
  rw [List.getElem?_take, if_pos hn] at hf
  have hF := h.2 n f hf
  refine ⟨headB_less (by omega) hF.head, fun k i hi => ?_, hF.tries⟩
  have h1 := hF.ins k i hi
  have hno1 := hno n f hn hf i (List.mem_of_getElem? hi)
  unfold insB at h1 ⊢
  rw [Bool.and_eq_true, Bool.and_eq_true] at h1 ⊢
  obtain ⟨ha, hb, hc⟩ := h1
  have hat := args_each hb
  have key : ∀ p, p < 4 → argB m f i p = true → argB (m - 1) f i p = true := fun p hp hq => by
    cases hx : (lettersOf i.1)[p]? with
    | none => rw [argB_none hx] at hq ⊢; exact hq
    | some x =>
      rw [argB_some hx] at hq ⊢
      by_cases hc : x.toNat = 102
      · obtain ⟨e1, rfl⟩ := letter_fn hp hx hc
        unfold kindB at hq ⊢
        rw [if_neg (by omega), if_neg (by omega), if_neg (by omega), if_neg (by omega), if_pos hc] at hq ⊢
        have := fnB_lt hq
        unfold argAt at this ⊢
        simp only at this ⊢
        have hne : i.2.2.1 ≠ ((m - 1 : Nat) : Int) := fun e => hno1 ⟨e1, e⟩
        unfold fnB
        simp
        omega
      · unfold kindB at hq ⊢
        rw [if_neg hc] at hq ⊢
        exact hq
  refine ⟨ha, ?_, ?_⟩
  · simp only [argsB, allN, Bool.and_true, Bool.and_eq_true]
    exact ⟨key 0 (by omega) hat.1, key 1 (by omega) hat.2.1, key 2 (by omega) hat.2.2.1, key 3 (by omega) hat.2.2.2⟩
  · unfold extraB at hc ⊢
    by_cases e : i.1 = 15
    · have hB := clos_bd hb e
      have hne : i.2.2.1 ≠ ((m - 1 : Nat) : Int) := fun e' => hno1 ⟨e, e'⟩
      have hto : i.2.2.1.toNat < m - 1 := by omega
      have hcl : closB (fns.take (m - 1)) f i.2.2.1 = closB fns f i.2.2.1 := by
        unfold closB
        rw [List.getElem?_take, if_pos hto]
      rw [hcl]
      exact hc
    · rw [if_neg e] at hc ⊢
      exact hc
end Go.Proofs.YtoihoackmkapaaaDoor.G
