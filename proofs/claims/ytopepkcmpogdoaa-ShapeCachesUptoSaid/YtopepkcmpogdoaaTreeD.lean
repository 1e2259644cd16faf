/- What a shape tree is in memory, and as plain data. -/
import Derived.Test.YtopepkcmpogdoaaKeys
import Derived.Test.YtopepkcmpogdoaaFr
import Derived.Test.YtopepkcmpogdoaaPlain
import Derived.ArgAppend
namespace Go.Proofs.Ytopepkcmpogdoaa
open Go.RowKit
set_option maxRecDepth 100000

/-- a slot: name, symbol, flags -/
abbrev Sl := ByteArray × Int × Int
def slCells (s : Sl) : List Value := [.string s.1, .int .i64 s.2.1, .int .i64 s.2.2]
def slotCells (l : List Sl) : List Value := l.flatMap slCells
def okSl (s : Sl) : Prop := s.1.size ≤ maxLen ∧ (Lit.int .i64 s.2.1).wf = true ∧ (Lit.int .i64 s.2.2).wf = true
/-- the key of a slot as it is compared -/
def plainK (k : KK) : KK := (plainName k.1 k.2, plainSym k.2)
def slKey (s : Sl) : KK := (s.1, s.2.1)
/-- where each key stands -/
def atFn : List Sl → KK → Option Int
  | [], _ => none
  | s :: r, k => match atFn r k with
    | some i => some (i + 1)
    | none => if k = plainK (slKey s) then some 0 else none

theorem slotCells_length (l : List Sl) : (slotCells l).length = l.length * 3 := by
  induction l with
  | nil => rfl
  | cons s r ih => unfold slotCells at *; simp only [List.flatMap_cons, List.length_append, ih, slCells, List.length_cons, List.length_nil]; omega
theorem slotCells_append (a b : List Sl) : slotCells (a ++ b) = slotCells a ++ slotCells b := by simp [slotCells]
theorem slotCells_oneCell (l : List Sl) : ∀ u ∈ slotCells l, u.oneCell' = true := by
  intro u hu
  obtain ⟨s, _, hs⟩ := List.mem_flatMap.1 hu
  simp [slCells] at hs
  rcases hs with rfl | rfl | rfl <;> rfl
theorem slotCells_at (l : List Sl) (k : Nat) (s : Sl) (h : l[k]? = some s) : (slotCells l)[k * 3]? = some (.string s.1) ∧ (slotCells l)[k * 3 + 1]? = some (.int .i64 s.2.1) ∧ (slotCells l)[k * 3 + 2]? = some (.int .i64 s.2.2) := by
  induction l generalizing k with
  | nil => simp at h
  | cons x r ih =>
    cases k with
    | zero =>
      obtain rfl : x = s := by simpa using h
      unfold slotCells
      simp [slCells]
    | succ k =>
      have h1 := ih k (by simpa using h)
      have e : slotCells (x :: r) = slCells x ++ slotCells r := by simp [slotCells]
      have l3 : (slCells x).length = 3 := rfl
      rw [e, List.getElem?_append_right (by omega), List.getElem?_append_right (by omega), List.getElem?_append_right (by omega), l3]
      have e1 : (k + 1) * 3 - 3 = k * 3 := by omega
      have e2 : (k + 1) * 3 + 1 - 3 = k * 3 + 1 := by omega
      have e3 : (k + 1) * 3 + 2 - 3 = k * 3 + 2 := by omega
      rw [e1, e2, e3]
      exact h1

theorem atFn_snoc (l : List Sl) (s : Sl) (k : KK) : atFn (l ++ [s]) k = if k = plainK (slKey s) then some (l.length : Int) else atFn l k := by
  induction l with
  | nil => simp [atFn]
  | cons x r ih =>
    simp only [List.cons_append, atFn, ih, List.length_cons]
    by_cases hk : k = plainK (slKey s)
    · rw [if_pos hk, if_pos hk]
      simp
    · rw [if_neg hk, if_neg hk]
theorem atFn_bound (l : List Sl) (k : KK) (i : Int) (h : atFn l k = some i) : 0 ≤ i ∧ i < l.length := by
  induction l generalizing i with
  | nil => simp [atFn] at h
  | cons x r ih =>
    simp only [atFn] at h
    split at h
    · rename_i j hj
      injection h with h
      have := ih j hj
      simp only [List.length_cons]
      omega
    · split at h
      · injection h with h
        simp only [List.length_cons]
        omega
      · cases h

/-- a shape in memory: its slots, its map -/
def ShapeAt (B0 : Nat) (w : World) (p : Value × Nat) (l : List Sl) : Prop :=
  w.ownsRow B0 83 3 p.1 l.length (slotCells l) ∧ MapV Try.prog 30 3 encK okK w p.2 l.length (atFn l) ∧ B0 ≤ p.2 ∧ l.length ≤ 128 ∧ ∀ s ∈ l, okSl s

def shCells (sh : List (Value × Nat)) : List Value := sh.flatMap fun p => [p.1, .map (some p.2)]

/-- the tree at block b: its shapes T, its ways f -/
structure TreeAt (B0 : Nat) (w : World) (b : Nat) (T : List (List Sl)) (f : WK → Option Int) (vL : Value) (mw : Nat) (sh : List (Value × Nat)) : Prop where
  cells : w.heap[b]? = some (.cells #[.int .i64 1, vL, .map (some mw)] 61 (0, 0))
  baseB : B0 ≤ b
  row : w.ownsRow B0 75 2 vL T.length (shCells sh)
  shl : sh.length = T.length
  shapes : ∀ (i : Nat) (p : Value × Nat) (l : List Sl), sh[i]? = some p → T[i]? = some l → ShapeAt B0 w p l ∧ p.2 ≠ mw
  baseM : B0 ≤ mw
  ways : MapV Try.prog 81 3 encW okW w mw T.length f
  one : 1 ≤ T.length
def IsTree (B0 : Nat) (w : World) (b : Nat) (T : List (List Sl)) (f : WK → Option Int) : Prop := ∃ vL mw sh, TreeAt B0 w b T f vL mw sh

/-- the objects that a tree's methods may write -/
def touchT : Obj → Prop
  | .cells _ t _ => t = 61 ∨ t = 75
  | .map .. => True
  | _ => False

theorem shCells_at (sh : List (Value × Nat)) (k : Nat) (p : Value × Nat) (h : sh[k]? = some p) : (shCells sh)[k * 2]? = some p.1 ∧ (shCells sh)[k * 2 + 1]? = some (.map (some p.2)) := by
  induction sh generalizing k with
  | nil => simp at h
  | cons x r ih =>
    cases k with
    | zero =>
      obtain rfl : x = p := by simpa using h
      unfold shCells
      simp
    | succ k =>
      have h1 := ih k (by simpa using h)
      have e : shCells (x :: r) = [x.1, .map (some x.2)] ++ shCells r := by simp [shCells]
      have l3 : [x.1, Value.map (some x.2)].length = 2 := rfl
      rw [e, List.getElem?_append_right (by simp; omega), List.getElem?_append_right (by simp; omega), l3]
      have e1 : (k + 1) * 2 - 2 = k * 2 := by omega
      have e2 : (k + 1) * 2 + 1 - 2 = k * 2 + 1 := by omega
      rw [e1, e2]
      exact h1

theorem map_of_MapV {P : Program} {k e : TypeId} {κ : Type} {enc : κ → Value} {ok : κ → Prop} {w : World} {b n : Nat} {f : κ → Option Int} (h : MapV P k e enc ok w b n f) : ∃ es cl, w.heap[b]? = some (.map es cl) := by
  obtain ⟨D, ⟨es, cl, hb, _⟩, _⟩ := h
  exact ⟨es, cl, hb⟩

section
variable {B0 : Nat} {w w' : World} {b : Nat} {T : List (List Sl)} {f : WK → Option Int} {vL : Value} {mw : Nat} {sh : List (Value × Nat)}

theorem ShapeAt.of_blocks {p : Value × Nat} {l : List Sl} (h : ShapeAt B0 w p l) (h1 : ∀ k, p.1.ownBlock = some k → w'.heap[k]? = w.heap[k]?) (h2 : w'.heap[p.2]? = w.heap[p.2]?) : ShapeAt B0 w' p l :=
  ⟨ownsRow_of_blocks h.1 h1, h.2.1.of_block h2, h.2.2⟩

/-- a step that leaves all the tree's blocks alone -/
theorem TreeAt.of_blocks (h : TreeAt B0 w b T f vL mw sh) (hk : ∀ k, k < w.heap.size → B0 ≤ k → w'.heap[k]? = w.heap[k]?) : TreeAt B0 w' b T f vL mw sh := by
  have hkb : ∀ k o, w.heap[k]? = some o → B0 ≤ k → w'.heap[k]? = w.heap[k]? := fun k o ho hB => hk k (Array.getElem?_eq_some_iff.1 ho).1 hB
  refine ⟨?_, h.baseB, ?_, h.shl, fun i p l hp hl => ?_, h.baseM, ?_, h.one⟩
  · rw [hkb _ _ h.cells h.baseB]; exact h.cells
  · exact ownsRow_of_blocks h.row fun k hv => hk k (h.row.lt k hv).2 (h.row.lt k hv).1
  · obtain ⟨h1, h2⟩ := h.shapes i p l hp hl
    exact ⟨h1.of_blocks (fun k hv => hk k (h1.1.lt k hv).2 (h1.1.lt k hv).1) (hk _ h1.2.1.lt h1.2.2.1), h2⟩
  · exact h.ways.of_block (hk _ h.ways.lt h.baseM)
theorem IsTree.below (h : IsTree B0 w b T f) (hb : Below w.heap.size w w') : IsTree B0 w' b T f := by
  obtain ⟨vL, mw, sh, h⟩ := h
  exact ⟨vL, mw, sh, h.of_blocks fun k hk _ => hb.block k hk⟩
end
end Go.Proofs.Ytopepkcmpogdoaa
