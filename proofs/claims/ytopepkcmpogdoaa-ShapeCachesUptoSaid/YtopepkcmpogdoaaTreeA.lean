/- The walks of (*shape.Tree).is and of shape.New. -/
import Derived.Test.YtopepkcmpogdoaaTreeD
namespace Go.Proofs.Ytopepkcmpogdoaa
open Go.RowKit
set_option maxHeartbeats 400000
set_option maxRecDepth 100000

theorem cell_block {w : World} {b : Nat} {cs : Array Value} {t : TypeId} {fr : Nat × Nat} (h : w.heap[b]? = some (.cells cs t fr)) (i : Nat) : w.cell? ⟨b, i, none⟩ = cs[i]? := cell_of_row w b i cs t fr h
theorem frozen_block {w : World} {b : Nat} {cs : Array Value} {t : TypeId} (h : w.heap[b]? = some (.cells cs t (0, 0))) (i : Nat) : w.frozen? ⟨b, i, none⟩ = false := by simp [World.frozen?, h]

section
variable {B0 : Nat} {w w' : World} {b : Nat} {T : List (List Sl)} {f : WK → Option Int} {vL : Value} {mw : Nat} {sh : List (Value × Nat)}
theorem TreeAt.c0 (h : TreeAt B0 w b T f vL mw sh) : w.cell? ⟨b, 0, none⟩ = some (.int .i64 1) := by rw [cell_block h.cells]; rfl
theorem TreeAt.c1 (h : TreeAt B0 w b T f vL mw sh) : w.cell? ⟨b, 1, none⟩ = some vL := by rw [cell_block h.cells]; rfl
theorem TreeAt.c2 (h : TreeAt B0 w b T f vL mw sh) : w.cell? ⟨b, 2, none⟩ = some (.map (some mw)) := by rw [cell_block h.cells]; rfl
theorem TreeAt.form (h : TreeAt B0 w b T f vL mw sh) : ∃ g cap, vL = .slice (some ⟨g, 0, none⟩) T.length cap ∧ B0 ≤ g ∧ g < w.heap.size := h.row.form (by have := h.one; omega)
end

/-- (*Tree).is of a tree that New made -/
theorem is_tree {B0 : Nat} {w : World} {b : Nat} {T : List (List Sl)} {f : WK → Option Int} {vL : Value} {mw : Nat} {sh : List (Value × Nat)} (h : TreeAt B0 w b T f vL mw sh) (s : Int) :
    Calls Try.prog 26 #[.pointer (some ⟨b, 0, none⟩), .int .i64 s] w fun e w' => e = .returned (.bool (decide (0 ≤ s ∧ s < T.length))) ∧ w = w' := by
  obtain ⟨g, cap, rfl, _, _⟩ := h.form
  have c0 := h.c0
  have c1 := h.c1
  clear h
  generalize T.length = n at *
  by_cases h0 : 0 ≤ s
  · by_cases h1 : s < n
    · have e : decide (0 ≤ s ∧ s < n) = true := by simp [h0, h1]
      rw [e]
      clear e
      go_enter Try.func26, Try.ntmps26
      go_wp2_with fail
      go_ret
      exact ⟨rfl, rfl⟩
    · have e : decide (0 ≤ s ∧ s < n) = false := by simp; omega
      rw [e]
      clear e
      have h1' : (n : Int) ≤ s := by omega
      go_enter Try.func26, Try.ntmps26
      go_wp2_with fail
      go_ret
      exact ⟨rfl, rfl⟩
  · have e : decide (0 ≤ s ∧ s < n) = false := by simp; omega
    rw [e]
    clear e
    go_enter Try.func26, Try.ntmps26
    go_wp2_with fail
    go_ret
    exact ⟨rfl, rfl⟩

theorem heap_new' {w : World} {o : Obj} {k : Nat} (h : w.heap.size = k) : (w.alloc o).heap[k]? = some o := by subst h; exact heap_alloc_new w o
theorem heap_old' {w : World} {o o' : Obj} {k : Nat} (h : w.heap[k]? = some o') : (w.alloc o).heap[k]? = some o' := (Below.heap_alloc w o k (Array.getElem?_eq_some_iff.1 h).1).trans h

theorem new_tree (w : World) : IsTree w.heap.size
    ((((w.alloc (Obj.map #[] 0)).alloc (Obj.cells #[Value.slice none 0 0, Value.map (some w.heap.size)] 75)).alloc (Obj.map #[] 0)).alloc
      (Obj.cells #[Value.int IntKind.i64 1, Value.slice (some { block := w.heap.size + 1, off := 0 }) 1 1, Value.map (some (w.heap.size + 1 + 1))] 61))
    (w.heap.size + 3) [[]] (fun _ => none) := by
  have m1 : MapV Try.prog 30 3 encK okK (w.alloc (Obj.map #[] 0)) w.heap.size 0 (fun _ => none) := MapV.made w encK okK
  obtain ⟨w1, h1⟩ : ∃ w1, w1 = w.alloc (Obj.map #[] 0) := ⟨_, rfl⟩
  have s1 : w1.heap.size = w.heap.size + 1 := by rw [h1]; simp
  rw [← h1] at m1 ⊢
  obtain ⟨w2, h2⟩ : ∃ w2, w2 = w1.alloc (Obj.cells #[Value.slice none 0 0, Value.map (some w.heap.size)] 75) := ⟨_, rfl⟩
  have s2 : w2.heap.size = w.heap.size + 2 := by rw [h2]; simp [s1]
  have b2 : w2.heap[w.heap.size + 1]? = some (Obj.cells #[Value.slice none 0 0, Value.map (some w.heap.size)] 75) := by rw [h2]; exact heap_new' s1
  have m2 : MapV Try.prog 30 3 encK okK w2 w.heap.size 0 (fun _ => none) := m1.of_block (by rw [h2]; exact Below.heap_alloc _ _ _ (by omega))
  rw [← h2]
  have mm := MapV.made (P := Try.prog) (k := 81) (e := 3) w2 encW okW
  rw [s2] at mm
  obtain ⟨w3, h3⟩ : ∃ w3, w3 = w2.alloc (Obj.map #[] 0) := ⟨_, rfl⟩
  have s3 : w3.heap.size = w.heap.size + 3 := by rw [h3]; simp [s2]
  rw [← h3] at mm ⊢
  have b3 := h3 ▸ heap_old' (o := Obj.map #[] 0) b2
  have m3 : MapV Try.prog 30 3 encK okK w3 w.heap.size 0 (fun _ => none) := m2.of_block (by rw [h3]; exact Below.heap_alloc _ _ _ (by omega))
  obtain ⟨w4, h4⟩ : ∃ w4, w4 = w3.alloc (Obj.cells #[Value.int IntKind.i64 1, Value.slice (some { block := w.heap.size + 1, off := 0 }) 1 1, Value.map (some (w.heap.size + 1 + 1))] 61) := ⟨_, rfl⟩
  rw [← h4]
  have b4 := h4 ▸ heap_new' (o := Obj.cells #[Value.int IntKind.i64 1, Value.slice (some { block := w.heap.size + 1, off := 0 }) 1 1, Value.map (some (w.heap.size + 1 + 1))] 61) s3
  have c3 := h4 ▸ heap_old' (o := Obj.cells #[Value.int IntKind.i64 1, Value.slice (some { block := w.heap.size + 1, off := 0 }) 1 1, Value.map (some (w.heap.size + 1 + 1))] 61) b3
  have m4 : MapV Try.prog 30 3 encK okK w4 w.heap.size 0 (fun _ => none) := m3.of_block (by rw [h4]; exact Below.heap_alloc _ _ _ (by omega))
  have m5 : MapV Try.prog 81 3 encW okW w4 (w.heap.size + 2) 0 (fun _ => none) := mm.of_block (by rw [h4]; exact Below.heap_alloc _ _ _ (by omega))
  refine ⟨_, _, [(.slice none 0 0, w.heap.size)], b4, by omega, ⟨rfl, .inr ⟨w.heap.size + 1, 1, _, rfl, by omega, c3, by simp, by simp [maxLen], rfl, rfl⟩⟩, rfl, ?_, by omega, m5.mono (by simp), by simp⟩
  intro i p l hp hl
  cases i with
  | zero =>
    obtain rfl : (Value.slice none 0 0, w.heap.size) = p := by simpa using hp
    obtain rfl : [] = l := by simpa using hl
    exact ⟨⟨World.ownsRow_nil _ _ _ _, m4.congr fun x _ => rfl, by simp, by simp, by simp⟩, by simp; omega⟩
  | succ i => simp at hp

/-- New -/
theorem new_any (w : World) :
    Calls Try.prog 9 #[] w fun e w' => e = .returned (.pointer (some ⟨w.heap.size + 3, 0, none⟩)) ∧ IsTree w.heap.size w' (w.heap.size + 3) [[]] (fun _ => none) ∧ Below w.heap.size w w' := by
  have hmm := @run_makeMap Try.prog
  go_enter Try.func9, Try.ntmps9
  go_wp2_with fail
  go_ret
  exact ⟨rfl, new_tree w, ((((Below.refl _ _).alloc (Nat.le_refl _) _).alloc (by simp) _).alloc (by simp; omega) _).alloc (by simp; omega) _⟩
end Go.Proofs.Ytopepkcmpogdoaa
