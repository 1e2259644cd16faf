/- The tree and the document's tree in one world. -/
import Derived.Test.YtopepkcmpogdoaaLawR
import Derived.Test.YtopepkcmpogdoaaShares
namespace Go.Proofs.Ytopepkcmpogdoaa
open Go.RowKit
set_option maxRecDepth 100000

/-- what a document's tree is made of -/
def partR : Obj → Prop
  | .cells _ t _ => t = 47 ∨ t = 88 ∨ t = 90 ∨ t = 100
  | _ => False
theorem IsRef.of_parts {B0 : Nat} {w w' : World} {b : Nat} {T : List (List Sl)} {W : List Wy} (h : IsRef B0 w b T W) (hk : ∀ (i : Nat) (o : Obj), w.heap[i]? = some o → partR o → w'.heap[i]? = some o) : IsRef B0 w' b T W := by
  obtain ⟨vL, vW, vs, h⟩ := h
  refine ⟨vL, vW, vs, hk _ _ h.cells (Or.inl rfl), h.baseB, ?_, fun i v l hp hl => ?_, ?_, h.wok, h.one⟩
  · exact ownsRow_of_blocks h.row fun k hv => by
      obtain ⟨cs, hcs⟩ := own_block h.row k hv
      exact (hk _ _ hcs (Or.inr (Or.inl rfl))).trans hcs.symm
  · obtain ⟨h1, h2⟩ := h.shapes i v l hp hl
    exact ⟨ownsRow_of_blocks h1 fun k hv => (by
      obtain ⟨cs, hcs⟩ := own_block h1 k hv
      exact (hk _ _ hcs (Or.inr (Or.inr (Or.inl rfl)))).trans hcs.symm), h2⟩
  · exact ownsRow_of_blocks h.ways fun k hv => by
      obtain ⟨cs, hcs⟩ := own_block h.ways k hv
      exact (hk _ _ hcs (Or.inr (Or.inr (Or.inr rfl)))).trans hcs.symm
theorem IsRef.fr {B B0 : Nat} {w w' : World} {b : Nat} {T : List (List Sl)} {W : List Wy} (h : IsRef B0 w b T W) (hF : Fr B touchT w w') : IsRef B0 w' b T W :=
  h.of_parts fun i o ho hp => hF.same i o ho (by
    cases o <;> simp only [partR, touchT] at hp ⊢
    rcases hp with h | h | h | h <;> subst h <;> decide)
theorem IsTree.fr {B B0 : Nat} {w w' : World} {b : Nat} {T : List (List Sl)} {f : WK → Option Int} (h : IsTree B0 w b T f) (hF : Fr B touchR w w') : IsTree B0 w' b T f :=
  h.of_parts fun i o ho hp => hF.same i o ho (by
    cases o <;> simp only [partT, touchR] at hp ⊢ <;> first | exact hp | (rcases hp with h | h | h <;> subst h <;> decide) | (intro h; exact h))

theorem IsRef.len {B0 : Nat} {w : World} {b : Nat} {T : List (List Sl)} {W : List Wy} (h : IsRef B0 w b T W) : ∃ g cap, w.cell? ⟨b, 0, none⟩ = some (.slice (some ⟨g, 0, none⟩) T.length cap) := by
  obtain ⟨vL, vW, vs, h⟩ := h
  obtain ⟨g, cap, rfl, _, _⟩ := h.form
  exact ⟨g, cap, h.c0⟩

/-- one operation of ShapeDoes -/
def stepT (m : TM) (o : OpT) : TM := if o.1 = 1 then (changeM m o.2.1 o.2.2.1 o.2.2.2.1).1 else (addM m o.2.1 o.2.2.1 o.2.2.2.1).1
def stepR (r : RM) (o : OpT) : RM := if o.1 = 1 then (changeD r o.2.1 o.2.2.1 o.2.2.2.1).1 else (addD r o.2.1 o.2.2.1 o.2.2.2.1).1
def stT (l : List OpT) (k : Nat) : TM := (l.take k).foldl stepT ([[]], fun _ => none)
def stR (l : List OpT) (k : Nat) : RM := (l.take k).foldl stepR ([[]], [])
theorem stT_succ (l : List OpT) (k : Nat) (o : OpT) (h : l[k]? = some o) : stT l (k + 1) = stepT (stT l k) o := by
  unfold stT
  rw [List.take_add_one, h]
  simp
theorem stR_succ (l : List OpT) (k : Nat) (o : OpT) (h : l[k]? = some o) : stR l (k + 1) = stepR (stR l k) o := by
  unfold stR
  rw [List.take_add_one, h]
  simp
theorem stTR_good (l : List OpT) : ∀ k, k ≤ l.length → Sim (stT l k) (stR l k) ∧ (stT l k).1.length ≤ k + 1 ∧ (stR l k).2.length ≤ k := by
  intro k
  induction k with
  | zero => intro _; exact ⟨by simpa [stT, stR] using Sim.new, by simp [stT], by simp [stR]⟩
  | succ k ih =>
    intro hk
    obtain ⟨h1, h2, h3⟩ := ih (by omega)
    obtain ⟨o, ho⟩ : ∃ o, l[k]? = some o := ⟨l[k], List.getElem?_eq_getElem (by omega)⟩
    rw [stT_succ l k o ho, stR_succ l k o ho]
    unfold stepT stepR
    by_cases hc : o.1 = 1
    · rw [if_pos hc, if_pos hc]
      have a1 := change_length (stT l k) o.2.1 o.2.2.1 o.2.2.2.1
      have a2 := changeD_ways (stR l k) o.2.1 o.2.2.1 o.2.2.2.1
      exact ⟨(h1.change _ _ _).2, by omega, by omega⟩
    · rw [if_neg hc, if_neg hc]
      have a1 := add_length (stT l k) o.2.1 o.2.2.1 o.2.2.2.1
      have a2 := addD_ways (stR l k) o.2.1 o.2.2.1 o.2.2.2.1
      exact ⟨(h1.add _ _ _).2, by omega, by omega⟩

theorem few_size {l : List OpT} {o : OpT} (hm : o ∈ l) {n : Nat} (h : fewS l ≤ n) : o.2.2.1.1.size < 20 * n + 20 := by
  induction l with
  | nil => cases hm
  | cons x r ih =>
    have e : fewS (x :: r) = x.2.2.1.1.size / 20 + fewS r := by simp [fewS]
    rw [e] at h
    rcases List.mem_cons.1 hm with rfl | hm
    · omega
    · exact ih hm (by omega)
end Go.Proofs.Ytopepkcmpogdoaa
