/- The tree behind follow: one shape more. -/
import Derived.Test.YtopepkcmpogdoaaTreeA
namespace Go.Proofs.Ytopepkcmpogdoaa
open Go.RowKit
set_option maxRecDepth 100000

theorem setCell_block {w : World} {b i : Nat} {cs : Array Value} {t : TypeId} {fr : Nat × Nat} (h : w.heap[b]? = some (.cells cs t fr)) (u : Value) : (w.setCell ⟨b, i, none⟩ u).heap[b]? = some (.cells (cs.setIfInBounds i u) t fr) := by
  simp [World.setCell, Array.getElem?_modify, h]
theorem cell_alloc' {w : World} {a : Addr} {u : Value} (h : w.cell? a = some u) (o : Obj) : (w.alloc o).cell? a = some u := (World.cell?_alloc_lt w o a (World.block_lt_of_cell? w a h)).trans h
theorem cells_ne {w : World} {i j : Nat} {cs cs' : Array Value} {t t' : TypeId} {fr fr' : Nat × Nat} (h : w.heap[i]? = some (.cells cs t fr)) (h' : w.heap[j]? = some (.cells cs' t' fr')) (hne : t ≠ t') : i ≠ j := by
  intro e
  subst e
  rw [h] at h'
  injection h' with h'
  injection h' with _ h2
  exact hne h2
theorem map_ne {w : World} {i j : Nat} {cs : Array Value} {t : TypeId} {fr : Nat × Nat} {es : Array MapEntry} {cl : Nat} (h : w.heap[i]? = some (.cells cs t fr)) (h' : w.heap[j]? = some (.map es cl)) : i ≠ j := by
  intro e
  subst e
  rw [h] at h'
  cases h'

theorem TreeAt.grow {B0 : Nat} {wr w5 w7 : World} {b : Nat} {T : List (List Sl)} {f f' : WK → Option Int} {vL v' vs : Value} {mw m : Nat} {sh : List (Value × Nat)} {ls : List Sl}
    (h : TreeAt B0 wr b T f vL mw sh) (hv : wr.ownsRow B0 83 3 vs ls.length (slotCells ls)) (hm : MapV Try.prog 30 3 encK okK wr m ls.length (atFn ls)) (hmB : B0 ≤ m) (hmne : m ≠ mw) (hls : ls.length ≤ 128) (hok : ∀ s ∈ ls, okSl s)
    (hg5 : wr.grownBy w5 vL.ownBlock) (hrow5 : w5.ownsRow B0 75 2 v' (T.length + 1) (shCells sh ++ [vs, .map (some m)]))
    (hg7 : (w5.setCell ⟨b, 1, none⟩ v').grownBy w7 (some mw)) (hmap7 : MapV Try.prog 81 3 encW okW w7 mw (T.length + 1) f') :
    TreeAt B0 w7 b (T ++ [ls]) f' v' mw (sh ++ [(vs, m)]) := by
  obtain ⟨es, cl, hmw⟩ := map_of_MapV h.ways
  obtain ⟨esm, clm, hmm⟩ := map_of_MapV hm
  have hblt : b < wr.heap.size := (Array.getElem?_eq_some_iff.1 h.cells).1
  have hmwlt : mw < wr.heap.size := (Array.getElem?_eq_some_iff.1 hmw).1
  have hbv : some b ≠ vL.ownBlock := by
    intro e
    obtain ⟨cs, hcs⟩ := own_block h.row b e.symm
    exact cells_ne h.cells hcs (by decide) rfl
  have hmv : ∀ {j es cl}, wr.heap[j]? = some (.map es cl) → some j ≠ vL.ownBlock := by
    intro j es cl hj e
    obtain ⟨cs, hcs⟩ := own_block h.row j e.symm
    exact map_ne hcs hj rfl
  have hb5 : w5.heap[b]? = some (.cells #[.int .i64 1, vL, .map (some mw)] 61 (0, 0)) := (hg5.block b hblt hbv).trans h.cells
  have hmw5 : w5.heap[mw]? = some (.map es cl) := (hg5.block mw hmwlt (hmv hmw)).trans hmw
  have hbmw : b ≠ mw := map_ne h.cells hmw
  -- any other old block stands
  have hold : ∀ k, k < wr.heap.size → some k ≠ vL.ownBlock → k ≠ b → k ≠ mw → w7.heap[k]? = wr.heap[k]? := fun k hk h1 h2 h3 => by
    rw [hg7.block k (by simp [World.setCell]; exact Nat.lt_of_lt_of_le hk hg5.size) (by simpa using h3), Below.heap_setCell _ _ _ _ h2]
    exact hg5.block k hk h1
  have hslot : ∀ {v : Value} {n : Nat} {xs : List Value}, wr.ownsRow B0 83 3 v n xs → w7.ownsRow B0 83 3 v n xs := fun {v n xs} hr => ownsRow_of_blocks hr fun k hk => by
    obtain ⟨cs, hcs⟩ := own_block hr k hk
    refine hold k (hr.lt k hk).2 (fun e => ?_) (cells_ne hcs h.cells (by decide)) (map_ne hcs hmw)
    obtain ⟨cs', hcs'⟩ := own_block h.row k e.symm
    exact cells_ne hcs hcs' (by decide) rfl
  have hmaps : ∀ {j n : Nat} {g : KK → Option Int}, j ≠ mw → MapV Try.prog 30 3 encK okK wr j n g → MapV Try.prog 30 3 encK okK w7 j n g := fun {j n g} hj hr => hr.of_block (by
    obtain ⟨es', cl', hj'⟩ := map_of_MapV hr
    exact hold j hr.lt (hmv hj') (Ne.symm (map_ne h.cells hj')) hj)
  refine ⟨?_, h.baseB, ?_, by simp [h.shl], fun i p l hp hl => ?_, h.baseM, by rw [List.length_append]; exact hmap7, by simp⟩
  · rw [hg7.block b (by simp [World.setCell]; exact Nat.lt_of_lt_of_le hblt hg5.size) (by simpa using hbmw), setCell_block hb5]
    rfl
  · have e : shCells (sh ++ [(vs, m)]) = shCells sh ++ [vs, .map (some m)] := by simp [shCells]
    rw [e, List.length_append]
    refine ownsRow_of_blocks hrow5 fun k hk => ?_
    obtain ⟨cs, hcs⟩ := own_block hrow5 k hk
    rw [hg7.block k (by simp [World.setCell]; exact (hrow5.lt k hk).2) (by simpa using map_ne hcs hmw5), Below.heap_setCell _ _ _ _ (cells_ne hcs hb5 (by decide))]
  · by_cases hi : i < T.length
    · rw [List.getElem?_append_left (by rw [h.shl]; exact hi)] at hp
      rw [List.getElem?_append_left hi] at hl
      obtain ⟨h1, h2⟩ := h.shapes i p l hp hl
      exact ⟨⟨hslot h1.1, hmaps h2 h1.2.1, h1.2.2⟩, h2⟩
    · rw [List.getElem?_append_right (by rw [h.shl]; omega), h.shl] at hp
      rw [List.getElem?_append_right (by omega)] at hl
      have hi0 : i - T.length = 0 := by
        have := (List.getElem?_eq_some_iff.1 hl).1
        simp at this
        omega
      rw [hi0] at hp hl
      obtain rfl : (vs, m) = p := by simpa using hp
      obtain rfl : ls = l := by simpa using hl
      exact ⟨⟨hslot hv, hmaps hmne hm, hmB, hls, hok⟩, hmne⟩
end Go.Proofs.Ytopepkcmpogdoaa
