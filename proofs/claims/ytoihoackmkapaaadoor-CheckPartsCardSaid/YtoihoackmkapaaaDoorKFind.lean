/- The walks of code.find, Name, Operands. -/
import Derived.Test.YtoihoackmkapaaaDoorKOps
import Derived.Test.YtoihoackmkapaaaDoorKShelf
import Derived.Lib.SmallJoins
namespace Go.Proofs.YtoihoackmkapaaaDoor
open Go.RowKit
set_option maxHeartbeats 4000000
set_option maxRecDepth 100000

theorem tabC_at {n : Nat} (h : n < 49) : tabC[2 * n]? = some (.string (tab.getD n (⟨#[]⟩, ⟨#[]⟩)).1) ∧ tabC[2 * n + 1]? = some (.string (tab.getD n (⟨#[]⟩, ⟨#[]⟩)).2) := by
  have key : ∀ (l : List (ByteArray × ByteArray)) (n : Nat) (p : ByteArray × ByteArray), l[n]? = some p → (l.flatMap fun p => [Value.string p.1, Value.string p.2])[2 * n]? = some (.string p.1) ∧ (l.flatMap fun p => [Value.string p.1, Value.string p.2])[2 * n + 1]? = some (.string p.2) := by
    intro l
    induction l with
    | nil => intro n p h; cases h
    | cons q r ih =>
      intro n p h
      cases n with
      | zero =>
        simp at h
        subst h
        exact ⟨rfl, rfl⟩
      | succ n =>
        have := ih n p (by simpa using h)
        rw [List.flatMap_cons, show 2 * (n + 1) = 2 * n + 1 + 1 by omega]
        simpa using this
  obtain ⟨p, hp, hd, _⟩ := tab_at h
  rw [hd]
  have := key tab n p hp
  unfold tabC
  simpa using this

theorem setCell_blockK {w : World} {b i : Nat} {cs : Array Value} {t : TypeId} {fr : Nat × Nat} (h : w.heap[b]? = some (.cells cs t fr)) (u : Value) : (w.setCell ⟨b, i, none⟩ u).heap[b]? = some (.cells (cs.setIfInBounds i u) t fr) := by
  obtain ⟨hlt, hk⟩ := Array.getElem?_eq_some_iff.1 h
  show (w.heap.modify b _)[b]? = _
  rw [Array.getElem?_eq_getElem (by rw [Array.size_modify]; exact hlt), Array.getElem_modify_self, hk]
  rfl
theorem cell_blockK {w : World} {b : Nat} {cs : Array Value} {t : TypeId} {fr : Nat × Nat} (h : w.heap[b]? = some (.cells cs t fr)) (i : Nat) : w.cell? ⟨b, i, none⟩ = cs[i]? := cell_of_row w b i cs t fr h
theorem frozen_blockK {w : World} {b : Nat} {cs : Array Value} {t : TypeId} (h : w.heap[b]? = some (.cells cs t (0, 0))) (i : Nat) : w.frozen? ⟨b, i, none⟩ = false := by simp [World.frozen?, h]
theorem find_ret {W : World} {B : Nat} {x y : Value} {b : Bool} {tmps : Array Value} (h : W.heap[B]? = some (.cells #[x, y] 85 (0, 0))) (h2 : tmps.getD 2 undef = .pointer (some ⟨B, 0, none⟩)) (h3 : tmps.getD 3 undef = .bool b) :
    (results Tryd.f45 tmps).run Tryd.prog W = .ok (.tuple #[.agg #[x, y], .bool b]) W := by
  have c0 := cell_blockK h 0
  have c1 := cell_blockK h 1
  simp at c0 c1
  have h2' : tmps[2]?.getD undef = .pointer (some ⟨B, 0, none⟩) := by simpa using h2
  have h3' : tmps[3]?.getD undef = .bool b := by simpa using h3
  simp [results, Tryd.results45, h2', h3', go_sem, c0, c1]
/-- the operators that the program splits -/
def binS : ByteArray := ⟨#[43, 32, 45, 32, 42, 32, 47, 32, 37, 32, 42, 42, 32, 60, 60, 32, 62, 62, 32, 62, 62, 62, 32, 38, 32, 124, 32, 94, 32, 60, 32, 62, 32, 60, 61, 32, 62, 61, 32, 61, 61, 32, 33, 61, 32, 61, 61, 61, 32, 33, 61, 61, 32, 105, 110, 32, 105, 110, 115, 116, 97, 110, 99, 101, 111, 102]⟩
theorem bin_fields : (Lib.fields binS.data.toList).length = 22 ∧ (Lib.fields binS.data.toList).all (fun l => decide (l.length ≠ 0)) = true := by decide +kernel
theorem bin_ascii : binS.data.toList.all (fun b => decide (b.toNat < 128)) = true := by decide +kernel
theorem bin_at {k : Nat} (h : k < 22) : ∃ nm : ByteArray, ((Lib.fields binS.data.toList).map fun l => Value.string ⟨l.toArray⟩).toArray[k]? = some (.string nm) ∧ nm.size ≠ 0 := by
  obtain ⟨h1, h2⟩ := bin_fields
  have hk : k < (Lib.fields binS.data.toList).length := by omega
  refine ⟨⟨(Lib.fields binS.data.toList)[k].toArray⟩, ?_, ?_⟩
  · simp [List.getElem?_eq_getElem hk]
  · have h3 := List.all_eq_true.1 h2 _ (List.getElem_mem hk)
    have h4 : (Lib.fields binS.data.toList)[k].length ≠ 0 := of_decide_eq_true h3
    show ((Lib.fields binS.data.toList)[k].toArray).size ≠ 0
    simpa using h4

theorem find_any (n : Int) (w : World) (hT : Lib.TabIs Tryd.prog w "strings.asciiSpace" .u8 Lib.asciiSpaceTab) :
    Calls Tryd.prog 45 #[.int .i64 n] w fun e w' => ∃ nm b, e = .returned (.tuple #[.agg #[.string nm, .string (lettersOf n)], .bool b]) ∧ (nm.size = 0 ↔ (n < 0 ∨ 70 < n)) ∧ Below w.heap.size w w' := by
  obtain ⟨hz, hsz⟩ := zero_of_info Tryd.infoOps
  by_cases h0 : n < 0
  · rw [letters_none (.inl h0)]
    go_enter Tryd.func45, Tryd.ntmps45
    go_wp2_with fail
    have hh0 : (w.alloc (.cells #[.string ⟨#[]⟩, .string ⟨#[]⟩] 85)).heap[w.heap.size]? = some (.cells #[.string ⟨#[]⟩, .string ⟨#[]⟩] 85 (0, 0)) := heap_alloc_last w _
    have hb0 : Below w.heap.size w (w.alloc (.cells #[.string ⟨#[]⟩, .string ⟨#[]⟩] 85)) := (Below.refl _ _).alloc (Nat.le_refl _) _
    refine (ops_any _).mono ?_
    rintro e w1 ⟨rfl, b1⟩
    have hh1 := (b1.block _ (Array.getElem?_eq_some_iff.1 hh0).1).trans hh0
    have b01 := hb0.trans (b1.mono hb0.size)
    have hlt1 := (Array.getElem?_eq_some_iff.1 hh1).1
    have hh2 : (w1.alloc (.cells tabC 88)).heap[w.heap.size]? = some (.cells #[.string ⟨#[]⟩, .string ⟨#[]⟩] 85 (0, 0)) := by rw [Lib.alloc_old _ _ _ hlt1]; exact hh1
    have ht2 : (w1.alloc (.cells tabC 88)).heap[w1.heap.size]? = some (.cells tabC 88 (0, 0)) := heap_alloc_last w1 _
    have b02 : Below w.heap.size w (w1.alloc (.cells tabC 88)) := b01.alloc (by have := b01.size; omega) _
    obtain ⟨w2, hw2⟩ : ∃ w2, w1.alloc (.cells tabC 88) = w2 := ⟨_, rfl⟩
    rw [hw2] at hh2 ht2 b02
    have x0 := cell_blockK hh2 0
    have x1 := cell_blockK hh2 1
    have y0 := frozen_blockK hh2 0
    have y1 := frozen_blockK hh2 1
    simp at x0 x1
    clear hh0 hb0 hh1
    simp only
    go_wp2_with (refine wpList_store_row rfl 88 _ _ rfl w1.heap.size tabC rfl rfl 88 (Array.replicate 98 (Value.string ⟨#[]⟩)) (heap_alloc_last w1 _) (by rw [tabC_size]; exact hsz) (by rw [tabC_size]; rfl) (by kernel_rfl) ?_; rw [World.setRow_alloc_new, hw2])
    have h5 : ((w2.setCell ⟨w.heap.size, 0, none⟩ (.string ⟨#[]⟩)).setCell ⟨w.heap.size, 1, none⟩ (.string ⟨#[]⟩)).heap[w.heap.size]? = some (.cells #[.string ⟨#[]⟩, .string ⟨#[]⟩] 85 (0, 0)) := setCell_blockK (setCell_blockK hh2 _) _
    refine bodyPost_ret (find_ret h5 rfl rfl) rfl ⟨_, _, rfl, ⟨fun _ => .inl h0, fun _ => rfl⟩, (b02.setCell (p := ⟨w.heap.size, 0, none⟩) (Nat.le_refl _) _).setCell (p := ⟨w.heap.size, 1, none⟩) (Nat.le_refl _) _⟩
  by_cases h1 : 70 < n
  · rw [letters_none (.inr h1)]
    go_enter Tryd.func45, Tryd.ntmps45
    go_wp2_with fail
    have hh0 : (w.alloc (.cells #[.string ⟨#[]⟩, .string ⟨#[]⟩] 85)).heap[w.heap.size]? = some (.cells #[.string ⟨#[]⟩, .string ⟨#[]⟩] 85 (0, 0)) := heap_alloc_last w _
    have hb0 : Below w.heap.size w (w.alloc (.cells #[.string ⟨#[]⟩, .string ⟨#[]⟩] 85)) := (Below.refl _ _).alloc (Nat.le_refl _) _
    refine (ops_any _).mono ?_
    rintro e w1 ⟨rfl, b1⟩
    have hh1 := (b1.block _ (Array.getElem?_eq_some_iff.1 hh0).1).trans hh0
    have b01 := hb0.trans (b1.mono hb0.size)
    have hlt1 := (Array.getElem?_eq_some_iff.1 hh1).1
    have hh2 : (w1.alloc (.cells tabC 88)).heap[w.heap.size]? = some (.cells #[.string ⟨#[]⟩, .string ⟨#[]⟩] 85 (0, 0)) := by rw [Lib.alloc_old _ _ _ hlt1]; exact hh1
    have ht2 : (w1.alloc (.cells tabC 88)).heap[w1.heap.size]? = some (.cells tabC 88 (0, 0)) := heap_alloc_last w1 _
    have b02 : Below w.heap.size w (w1.alloc (.cells tabC 88)) := b01.alloc (by have := b01.size; omega) _
    obtain ⟨w2, hw2⟩ : ∃ w2, w1.alloc (.cells tabC 88) = w2 := ⟨_, rfl⟩
    rw [hw2] at hh2 ht2 b02
    have x0 := cell_blockK hh2 0
    have x1 := cell_blockK hh2 1
    have y0 := frozen_blockK hh2 0
    have y1 := frozen_blockK hh2 1
    simp at x0 x1
    clear hh0 hb0 hh1
    simp only
    go_wp2_with (refine wpList_store_row rfl 88 _ _ rfl w1.heap.size tabC rfl rfl 88 (Array.replicate 98 (Value.string ⟨#[]⟩)) (heap_alloc_last w1 _) (by rw [tabC_size]; exact hsz) (by rw [tabC_size]; rfl) (by kernel_rfl) ?_; rw [World.setRow_alloc_new, hw2])
    have h5 : ((w2.setCell ⟨w.heap.size, 0, none⟩ (.string ⟨#[]⟩)).setCell ⟨w.heap.size, 1, none⟩ (.string ⟨#[]⟩)).heap[w.heap.size]? = some (.cells #[.string ⟨#[]⟩, .string ⟨#[]⟩] 85 (0, 0)) := setCell_blockK (setCell_blockK hh2 _) _
    refine bodyPost_ret (find_ret h5 rfl rfl) rfl ⟨_, _, rfl, ⟨fun _ => .inr h1, fun _ => rfl⟩, (b02.setCell (p := ⟨w.heap.size, 0, none⟩) (Nat.le_refl _) _).setCell (p := ⟨w.heap.size, 1, none⟩) (Nat.le_refl _) _⟩
  by_cases h2 : n < 49
  · obtain ⟨k, rfl⟩ : ∃ k : Nat, n = k := ⟨n.toNat, by omega⟩
    obtain ⟨c0, c1⟩ := tabC_at (n := k) (by omega)
    rw [letters_tab (by omega)]
    obtain ⟨pr, hpr, hpd, hpm⟩ := tab_at (n := k) (by omega)
    rw [hpd] at c0 c1 ⊢
    have hp1 : pr.1.size ≠ 0 := by
      have h3 := List.all_eq_true.1 tab_letters pr hpm
      simp only [Bool.and_eq_true, decide_eq_true_eq] at h3
      omega
    go_enter Tryd.func45, Tryd.ntmps45
    go_wp2_with fail
    have hh0 : (w.alloc (.cells #[.string ⟨#[]⟩, .string ⟨#[]⟩] 85)).heap[w.heap.size]? = some (.cells #[.string ⟨#[]⟩, .string ⟨#[]⟩] 85 (0, 0)) := heap_alloc_last w _
    have hb0 : Below w.heap.size w (w.alloc (.cells #[.string ⟨#[]⟩, .string ⟨#[]⟩] 85)) := (Below.refl _ _).alloc (Nat.le_refl _) _
    refine (ops_any _).mono ?_
    rintro e w1 ⟨rfl, b1⟩
    have hh1 := (b1.block _ (Array.getElem?_eq_some_iff.1 hh0).1).trans hh0
    have b01 := hb0.trans (b1.mono hb0.size)
    have hlt1 := (Array.getElem?_eq_some_iff.1 hh1).1
    have hh2 : (w1.alloc (.cells tabC 88)).heap[w.heap.size]? = some (.cells #[.string ⟨#[]⟩, .string ⟨#[]⟩] 85 (0, 0)) := by rw [Lib.alloc_old _ _ _ hlt1]; exact hh1
    have ht2 : (w1.alloc (.cells tabC 88)).heap[w1.heap.size]? = some (.cells tabC 88 (0, 0)) := heap_alloc_last w1 _
    have b02 : Below w.heap.size w (w1.alloc (.cells tabC 88)) := b01.alloc (by have := b01.size; omega) _
    obtain ⟨w2, hw2⟩ : ∃ w2, w1.alloc (.cells tabC 88) = w2 := ⟨_, rfl⟩
    rw [hw2] at hh2 ht2 b02
    have x0 := cell_blockK hh2 0
    have x1 := cell_blockK hh2 1
    have y0 := frozen_blockK hh2 0
    have y1 := frozen_blockK hh2 1
    simp at x0 x1
    clear hh0 hb0 hh1
    simp only
    have z0 := cell_blockK ht2 (k * 2)
    have z1 := cell_blockK ht2 (k * 2 + 1)
    rw [Nat.mul_comm k 2] at z0 z1
    rw [c0] at z0
    rw [c1] at z1
    rw [Nat.mul_comm 2 k] at z0 z1
    clear c0 c1
    go_wp2_with (refine wpList_store_row rfl 88 _ _ rfl w1.heap.size tabC rfl rfl 88 (Array.replicate 98 (Value.string ⟨#[]⟩)) (heap_alloc_last w1 _) (by rw [tabC_size]; exact hsz) (by rw [tabC_size]; rfl) (by kernel_rfl) ?_; rw [World.setRow_alloc_new, hw2])
    have h5 : ((w2.setCell ⟨w.heap.size, 0, none⟩ (.string pr.1)).setCell ⟨w.heap.size, 1, none⟩ (.string pr.2)).heap[w.heap.size]? = some (.cells #[.string pr.1, .string pr.2] 85 (0, 0)) := setCell_blockK (setCell_blockK hh2 _) _
    refine bodyPost_ret (find_ret h5 rfl rfl) rfl ⟨_, _, rfl, ⟨fun h => absurd h hp1, fun h => by omega⟩, (b02.setCell (p := ⟨w.heap.size, 0, none⟩) (Nat.le_refl _) _).setCell (p := ⟨w.heap.size, 1, none⟩) (Nat.le_refl _) _⟩
  · have hbk : (n - 49).toNat < 22 := by omega
    rw [letters_bin (by omega) (by omega)]
    go_enter Tryd.func45, Tryd.ntmps45
    go_wp2_with fail
    have hh0 : (w.alloc (.cells #[.string ⟨#[]⟩, .string ⟨#[]⟩] 85)).heap[w.heap.size]? = some (.cells #[.string ⟨#[]⟩, .string ⟨#[]⟩] 85 (0, 0)) := heap_alloc_last w _
    have hb0 : Below w.heap.size w (w.alloc (.cells #[.string ⟨#[]⟩, .string ⟨#[]⟩] 85)) := (Below.refl _ _).alloc (Nat.le_refl _) _
    refine (ops_any _).mono ?_
    rintro e w1 ⟨rfl, b1⟩
    have hh1 := (b1.block _ (Array.getElem?_eq_some_iff.1 hh0).1).trans hh0
    have b01 := hb0.trans (b1.mono hb0.size)
    have hlt1 := (Array.getElem?_eq_some_iff.1 hh1).1
    have hh2 : (w1.alloc (.cells tabC 88)).heap[w.heap.size]? = some (.cells #[.string ⟨#[]⟩, .string ⟨#[]⟩] 85 (0, 0)) := by rw [Lib.alloc_old _ _ _ hlt1]; exact hh1
    have ht2 : (w1.alloc (.cells tabC 88)).heap[w1.heap.size]? = some (.cells tabC 88 (0, 0)) := heap_alloc_last w1 _
    have b02 : Below w.heap.size w (w1.alloc (.cells tabC 88)) := b01.alloc (by have := b01.size; omega) _
    obtain ⟨w2, hw2⟩ : ∃ w2, w1.alloc (.cells tabC 88) = w2 := ⟨_, rfl⟩
    rw [hw2] at hh2 ht2 b02
    have x0 := cell_blockK hh2 0
    have x1 := cell_blockK hh2 1
    have y0 := frozen_blockK hh2 0
    have y1 := frozen_blockK hh2 1
    simp at x0 x1
    clear hh0 hb0 hh1
    simp only
    go_wp2_with (refine wpList_store_row rfl 88 _ _ rfl w1.heap.size tabC rfl rfl 88 (Array.replicate 98 (Value.string ⟨#[]⟩)) (heap_alloc_last w1 _) (by rw [tabC_size]; exact hsz) (by rw [tabC_size]; rfl) (by kernel_rfl) ?_; rw [World.setRow_alloc_new, hw2])
    have hT2 : Lib.TabIs Tryd.prog w2 "strings.asciiSpace" .u8 Lib.asciiSpaceTab := Joins.tab_stays (g := 0) (by kernel_rfl) hT b02 (Nat.le_refl _)
    refine (Tryd.strings_Fields binS _ (by decide) (fun j b hj => of_decide_eq_true (List.all_eq_true.1 bin_ascii b (List.mem_of_getElem? hj))) hT2).mono ?_
    rintro e w3 ⟨rfl, rfl⟩
    rw [bin_fields.1]
    obtain ⟨k, hk⟩ : ∃ k : Nat, n = 49 + (k : Int) := ⟨(n - 49).toNat, by omega⟩
    obtain ⟨nm, hnm, hne⟩ := bin_at (k := k) (by omega)
    obtain ⟨X, hX⟩ : ∃ X, ((Lib.fields binS.data.toList).map fun l => Value.string ⟨l.toArray⟩).toArray = X := ⟨_, rfl⟩
    rw [hX] at hnm ⊢
    clear hX
    have hlt2 := (Array.getElem?_eq_some_iff.1 hh2).1
    have hh3 : (w2.alloc (.cells X 9)).heap[w.heap.size]? = some (.cells #[.string ⟨#[]⟩, .string ⟨#[]⟩] 85 (0, 0)) := by rw [Lib.alloc_old _ _ _ hlt2]; exact hh2
    have hx3 : (w2.alloc (.cells X 9)).heap[w2.heap.size]? = some (.cells X 9 (0, 0)) := heap_alloc_last w2 _
    have b03 : Below w.heap.size w (w2.alloc (.cells X 9)) := b02.alloc b02.size _
    obtain ⟨w3, hw3⟩ : ∃ w3, w2.alloc (.cells X 9) = w3 := ⟨_, rfl⟩
    rw [hw3] at hh3 hx3 b03 ⊢
    have q0 := cell_blockK hx3 k
    rw [hnm] at q0
    have x3 := cell_blockK hh3 0
    have x4 := cell_blockK hh3 1
    have y3 := frozen_blockK hh3 0
    have y4 := frozen_blockK hh3 1
    simp at x3 x4
    subst hk
    have hk22 : k < 22 := by omega
    have hsub : 49 + (k : Int) - 49 = k := by omega
    clear hnm hw3 x0 x1 y0 y1
    simp only
    go_wp2_with fail
    have h5 : ((w3.setCell ⟨w.heap.size, 0, none⟩ (.string nm)).setCell ⟨w.heap.size, 1, none⟩ (.string ⟨#[114, 114, 114]⟩)).heap[w.heap.size]? = some (.cells #[.string nm, .string ⟨#[114, 114, 114]⟩] 85 (0, 0)) := setCell_blockK (setCell_blockK hh3 _) _
    refine bodyPost_ret (find_ret h5 rfl rfl) rfl ⟨_, _, rfl, ⟨fun h => absurd h hne, fun h => by omega⟩, (b03.setCell (p := ⟨w.heap.size, 0, none⟩) (Nat.le_refl _) _).setCell (p := ⟨w.heap.size, 1, none⟩) (Nat.le_refl _) _⟩
end Go.Proofs.YtoihoackmkapaaaDoor
