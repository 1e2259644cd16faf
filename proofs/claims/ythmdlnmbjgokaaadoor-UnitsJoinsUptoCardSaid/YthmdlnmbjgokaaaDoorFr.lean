/- Frames: what a call leaves as it was. -/
import Derived.Test.YthmdlnmbjgokaaaDoorMem
namespace Go.Proofs.YthmdlnmbjgokaaaDoor
open Go.RowKit

/-- Below block B all is as it was; and so is each block whose object t does not name. -/
structure Fr (B : Nat) (t : Obj → Prop) (w w' : World) : Prop where
  below : Below B w w'
  same : ∀ (i : Nat) (o : Obj), w.heap[i]? = some o → ¬ t o → w'.heap[i]? = some o

section
variable {B B' : Nat} {t : Obj → Prop} {a b c w w' : World}
theorem Fr.refl (B : Nat) (t : Obj → Prop) (w : World) : Fr B t w w := ⟨Below.refl _ _, fun _ _ h _ => h⟩
theorem Fr.trans (h : Fr B t a b) (k : Fr B t b c) : Fr B t a c := ⟨h.below.trans k.below, fun i o ho hn => k.same i o (h.same i o ho hn) hn⟩
theorem Fr.mono {t' : Obj → Prop} (h : Fr B t w w') (hB : B' ≤ B) (ht : ∀ o, t o → t' o) : Fr B' t' w w' := ⟨h.below.mono hB, fun i o ho hn => h.same i o ho (fun h1 => hn (ht o h1))⟩
theorem Fr.of_below (h : Below w.heap.size w w') (hB : B ≤ w.heap.size) : Fr B t w w' :=
  ⟨h.mono hB, fun i o ho _ => (h.block i (Array.getElem?_eq_some_iff.1 ho).1).trans ho⟩
theorem Fr.then_below (h : Fr B t a b) (k : Below b.heap.size b c) (hB : B ≤ b.heap.size) : Fr B t a c := h.trans (Fr.of_below k hB)
theorem Fr.then_new (h : Fr B t a b) (k : Below a.heap.size b c) (hB : B ≤ a.heap.size) : Fr B t a c :=
  ⟨h.below.trans (k.mono hB), fun i o ho hn => (k.block i (Array.getElem?_eq_some_iff.1 ho).1).trans (h.same i o ho hn)⟩
theorem Fr.drew (h : Fr B t a w) : Fr B t a w.drew := ⟨h.below.drew, h.same⟩
theorem Fr.alloc (h : Fr B t a w) (hB : B ≤ w.heap.size) (o : Obj) : Fr B t a (w.alloc o) := h.then_below ((Below.refl _ _).alloc (Nat.le_refl _) _) hB
/-- a step that writes one block, whose object t names, or that is new since a -/
theorem Fr.grown {row : Option Nat} (h : Fr B t a w) (hg : w.grownBy w' row) (hB : B ≤ w.heap.size) (hr : ∀ k, row = some k → B ≤ k ∧ ∀ o, a.heap[k]? = some o → t o) : Fr B t a w' := by
  refine ⟨h.below.grown hg hB (fun k hk => (hr k hk).1), fun i o ho hn => ?_⟩
  have h1 := h.same i o ho hn
  rw [hg.block i (Array.getElem?_eq_some_iff.1 h1).1 (fun e => hn ((hr i e.symm).2 o ho))]
  exact h1
theorem setCell_grown (w : World) (p : Addr) (u : Value) : w.grownBy (w.setCell p u) (some p.block) :=
  ⟨rfl, rfl, rfl, by simp [World.setCell], fun k _ hne => Below.heap_setCell w p u k (fun e => hne (by rw [e]))⟩
theorem Fr.setCell (h : Fr B t a w) (hB : B ≤ w.heap.size) {p : Addr} (hp : B ≤ p.block) (ht : ∀ o, a.heap[p.block]? = some o → t o) (u : Value) : Fr B t a (w.setCell p u) :=
  h.grown (setCell_grown w p u) hB (fun k hk => by cases hk; exact ⟨hp, ht⟩)
theorem Fr.size (h : Fr B t w w') : w.heap.size ≤ w'.heap.size := h.below.size
end

theorem grownBy_trans {a b c : World} {row : Option Nat} (h : a.grownBy b row) (k : b.grownBy c row) : a.grownBy c row :=
  ⟨k.os.trans h.os, k.tape.trans h.tape, k.output.trans h.output, Nat.le_trans h.size k.size, fun i hi hne => (k.block i (Nat.lt_of_lt_of_le hi h.size) hne).trans (h.block i hi hne)⟩
theorem grownBy_of_below {a b : World} (h : Below a.heap.size a b) (row : Option Nat) : a.grownBy b row := ⟨h.os, h.tape, h.output, h.size, fun i hi _ => h.block i hi⟩
theorem grownBy_drew {a b : World} {row : Option Nat} (h : a.grownBy b row) : a.grownBy b.drew row := ⟨h.os, h.tape, h.output, h.size, h.block⟩
theorem grownBy_setCell_new {a b : World} {row : Option Nat} (h : a.grownBy b row) {p : Addr} (hp : a.heap.size ≤ p.block) (u : Value) : a.grownBy (b.setCell p u) row :=
  ⟨h.os, h.tape, h.output, by simpa [World.setCell] using h.size, fun i hi hne => (Below.heap_setCell b p u i (by omega)).trans (h.block i hi hne)⟩
/-- a row that is owned: its block, known -/
theorem own_block {w : World} {base : Nat} {e : TypeId} {size n : Nat} {v : Value} {xs : List Value} (h : w.ownsRow base e size v n xs) : ∀ k, v.ownBlock = some k → ∃ cs, w.heap[k]? = some (.cells cs e (0, 0)) := by
  intro k hk
  rcases h.2 with ⟨rfl, _⟩ | ⟨g, cap, cur, rfl, _, hg, _⟩
  · simp [Value.ownBlock] at hk
  · simp [Value.ownBlock] at hk
    subst hk
    exact ⟨cur, hg⟩
theorem ownsRow_of_blocks {w w' : World} {base : Nat} {e : TypeId} {size n : Nat} {v : Value} {xs : List Value} (h : w.ownsRow base e size v n xs) (hb : ∀ k, v.ownBlock = some k → w'.heap[k]? = w.heap[k]?) : w'.ownsRow base e size v n xs := by
  refine ⟨h.1, ?_⟩
  rcases h.2 with hn | ⟨g, cap, cur, rfl, h1, hg, r⟩
  · exact .inl hn
  · exact .inr ⟨g, cap, cur, rfl, h1, (hb g rfl).trans hg, r⟩
theorem ownsRow_base {w : World} {base base' : Nat} {e : TypeId} {size n : Nat} {v : Value} {xs : List Value} (h : w.ownsRow base e size v n xs) (hb : ∀ k, v.ownBlock = some k → base' ≤ k) : w.ownsRow base' e size v n xs := by
  refine ⟨h.1, ?_⟩
  rcases h.2 with hn | ⟨g, cap, cur, rfl, h1, hg, r⟩
  · exact .inl hn
  · exact .inr ⟨g, cap, cur, rfl, hb g rfl, hg, r⟩
end Go.Proofs.YthmdlnmbjgokaaaDoor
