/- check.Reach's visit: what stands in memory in the search. -/
import Derived.Test.YtoihoackmkapaaaDoorKRch
import Derived.RangeFuncBox
import Derived.Laws.OwnMore
import Derived.Maps.AppendAt
namespace Go.Proofs.YtoihoackmkapaaaDoor
open Go.RowKit
set_option maxHeartbeats 4000000
set_option maxRecDepth 100000

theorem Tryd.info_int : (Tryd.prog.info? 3).map (fun i => (i.zero, i.size, i.bytes)) = some (some (.int .i64 0), 1, 8) := by kernel_rfl
theorem ownsRow_popK {w : World} {base : Nat} {e : TypeId} {g n cap : Nat} {xs : List Value} {x : Value} (h : w.ownsRow base e 1 (.slice (some ⟨g, 0, none⟩) (n + 1) cap) (n + 1) (xs ++ [x])) : w.ownsRow base e 1 (.slice (some ⟨g, 0, none⟩) n cap) n xs := by
  have hl := h.1
  rcases h.2 with ⟨h', _⟩ | ⟨g', cap', cur, h', hb, hg, hnc, hcm, hcs, htake⟩
  · simp at h'
  · simp only [Value.slice.injEq, Option.some.injEq, Addr.mk.injEq, and_true, true_and] at h'
    obtain ⟨rfl, rfl⟩ := h'
    simp only [List.length_append, List.length_singleton] at hl
    refine ⟨by omega, .inr ⟨g, cap, cur, rfl, hb, hg, by omega, hcm, hcs, ?_⟩⟩
    have h2 := congrArg (List.take (n * 1)) htake
    rw [List.take_take, show min (n * 1) ((n + 1) * 1) = n * 1 by omega] at h2
    rw [h2, List.take_left' (by omega)]
theorem map_set_bool (b : List Bool) (k : Nat) : ((b.set k true).map Value.bool).toArray = (b.map Value.bool).toArray.setIfInBounds k (.bool true) := by
  rw [List.setIfInBounds_toArray, List.map_set]
def intsN (st : List Nat) : List Value := st.map fun n => Value.int .i64 (n : Nat)
theorem intsN_snoc (st : List Nat) (k : Nat) : intsN (st ++ [k]) = intsN st ++ [.int .i64 (k : Nat)] := by unfold intsN; rw [List.map_append]; rfl

/-- what stands in memory in the search -/
structure Srch (w W0 : World) (B2 bs bt : Nat) (b : List Bool) (st : List Nat) (wr : World) : Prop where
  below : Below w.heap.size w wr
  oth : ∀ k, k < B2 → k ≠ bs → k ≠ bt → wr.heap[k]? = W0.heap[k]?
  seen : wr.heap[bs]? = some (.cells (b.map Value.bool).toArray 4 (0, 0))
  todo : ∃ v, wr.heap[bt]? = some (.cells #[v] 41 (0, 0)) ∧ wr.ownsRow B2 3 1 v st.length (intsN st)
  size : B2 ≤ wr.heap.size
structure Lay12 (w : World) (B2 bs bt : Nat) : Prop where
  s0 : w.heap.size ≤ bs
  s1 : bs < B2
  t0 : w.heap.size ≤ bt
  t1 : bt < B2
  ne : bs ≠ bt
section
variable {w W0 wr w' : World} {B2 bs bt : Nat} {b : List Bool} {st : List Nat}
theorem Srch.alloc (hL : Lay12 w B2 bs bt) (h : Srch w W0 B2 bs bt b st wr) (o : Obj) : Srch w W0 B2 bs bt b st (wr.alloc o) := by
  obtain ⟨v, h1, h2⟩ := h.todo
  have hz := h.size
  have e : ∀ k, k < B2 → (wr.alloc o).heap[k]? = wr.heap[k]? := fun k hk => Lib.alloc_old _ _ _ (by omega)
  exact ⟨h.below.alloc h.below.size _, fun k hk a c => (e k hk).trans (h.oth k hk a c), (e _ hL.s1).trans h.seen, ⟨v, (e _ hL.t1).trans h1, h2.alloc _⟩, by simp; omega⟩
/-- any turn of the world that leaves the blocks of the search -/
theorem Srch.kept (hL : Lay12 w B2 bs bt) (h : Srch w W0 B2 bs bt b st wr) (hb : Below wr.heap.size wr w') : Srch w W0 B2 bs bt b st w' := by
  obtain ⟨v, h1, h2⟩ := h.todo
  have hz := h.size
  have e : ∀ k, k < B2 → w'.heap[k]? = wr.heap[k]? := fun k hk => hb.block k (by omega)
  have hg : wr.grownBy w' none := ⟨hb.os, hb.tape, hb.output, hb.size, fun k hk _ => hb.block k hk⟩
  refine ⟨h.below.trans (hb.mono h.below.size), fun k hk a c => (e k hk).trans (h.oth k hk a c), (e _ hL.s1).trans h.seen, ⟨v, (e _ hL.t1).trans h1, h2.kept hg ?_⟩, by have := hb.size; omega⟩
  cases hv : v.ownBlock <;> simp
theorem Srch.mark (hL : Lay12 w B2 bs bt) (h : Srch w W0 B2 bs bt b st wr) (k : Nat) : Srch w W0 B2 bs bt (b.set k true) st (wr.setCell ⟨bs, k, none⟩ (.bool true)) := by
  obtain ⟨v, h1, h2⟩ := h.todo
  have hz := h.size
  have e : ∀ j, j ≠ bs → (wr.setCell ⟨bs, k, none⟩ (.bool true)).heap[j]? = wr.heap[j]? := fun j hj => Below.heap_setCell _ _ _ _ hj
  refine ⟨h.below.setCell (p := ⟨bs, k, none⟩) hL.s0 _, fun j hj a c => (e j a).trans (h.oth j hj a c), ?_, ⟨v, (e _ hL.ne.symm).trans h1, ownsRow_setCell_below h2 (a := ⟨bs, k, none⟩) hL.s1 _⟩, by simp; omega⟩
  rw [map_set_bool]
  exact setCell_blockK h.seen _
/-- the stack's new value is stored -/
theorem Srch.store (hL : Lay12 w B2 bs bt) {v v' : Value} {st' : List Nat} {row : Option Nat} (h : Srch w W0 B2 bs bt b st wr) (hv : wr.heap[bt]? = some (.cells #[v] 41 (0, 0))) (ho : w'.ownsRow B2 3 1 v' st'.length (intsN st')) (hg : wr.grownBy w' row) (hr : ∀ q, row = some q → B2 ≤ q) :
    Srch w W0 B2 bs bt b st' (w'.setCell ⟨bt, 0, none⟩ v') := by
  have hz := h.size
  have e : ∀ j, j < B2 → w'.heap[j]? = wr.heap[j]? := fun j hj => hg.block j (by omega) (fun e => by have := hr j e.symm; omega)
  have e2 : ∀ j, j ≠ bt → (w'.setCell ⟨bt, 0, none⟩ v').heap[j]? = w'.heap[j]? := fun j hj => Below.heap_setCell _ _ _ _ hj
  have hs := hg.size
  have hL1 := hL.s0
  have hL2 := hL.s1
  refine ⟨(h.below.grown hg h.below.size (fun q hq => by have := hr q hq; omega)).setCell (p := ⟨bt, 0, none⟩) hL.t0 _, fun j hj a c => (e2 j c).trans ((e j hj).trans (h.oth j hj a c)), (e2 _ hL.ne).trans ((e _ hL.s1).trans h.seen), ⟨v', ?_, ownsRow_setCell_below ho (a := ⟨bt, 0, none⟩) hL.t1 _⟩, by simp; omega⟩
  have h1 := (e _ hL.t1).trans hv
  exact setCell_blockK h1 v'
theorem Srch.pop (hL : Lay12 w B2 bs bt) {n g cap : Nat} (h : Srch w W0 B2 bs bt b (st ++ [n]) wr) (hv : wr.heap[bt]? = some (.cells #[.slice (some ⟨g, 0, none⟩) (st.length + 1) cap] 41 (0, 0))) (ho : wr.ownsRow B2 3 1 (.slice (some ⟨g, 0, none⟩) (st.length + 1) cap) (st.length + 1) (intsN st ++ [.int .i64 (n : Nat)])) :
    Srch w W0 B2 bs bt b st (wr.setCell ⟨bt, 0, none⟩ (.slice (some ⟨g, 0, none⟩) st.length cap)) :=
  h.store hL (w' := wr) (row := none) hv (ownsRow_popK ho) ⟨rfl, rfl, rfl, Nat.le_refl _, fun _ _ _ => rfl⟩ (fun q hq => by cases hq)

theorem top_kept (hL : Lay12 w B2 bs bt) (h : Srch w W0 B2 bs bt b st wr) {v : Value} {o : Obj} (ht : wr.heap[bt]? = some (.cells #[v] 41 (0, 0))) {n : Nat} {xs : List Value} (ho : wr.ownsRow B2 3 1 v n xs) (hg : (wr.alloc o).grownBy w' v.ownBlock) : w'.heap[bt]? = some (.cells #[v] 41 (0, 0)) := by
  have hz := h.size
  have ht1 := hL.t1
  rw [hg.block bt (by simp; omega) (fun e => by have := (ho.lt bt e.symm).1; omega), Lib.alloc_old _ _ _ (by omega)]
  exact ht
theorem visit_any {N bx : Nat} (hL : Lay12 w B2 bs bt) (h : Srch w W0 B2 bs bt b st wr) (hl : b.length = N) (hx : W0.heap[bx]? = some (.cells #[.slice (some ⟨bs, 0, none⟩) N N] 39 (0, 0))) (hx1 : bx < B2) (hx2 : bx ≠ bs) (hx3 : bx ≠ bt) (hN : N ≤ 1000) (hst : st.length ≤ 5000) (k : Int) :
    Calls Tryd.prog 25 #[.int .i64 k, .pointer (some ⟨bx, 0, none⟩), .pointer (some ⟨bt, 0, none⟩)] wr fun e w' => (∃ v, e = .returned v) ∧ Srch w W0 B2 bs bt (visB N b st k).1 (visB N b st k).2 w' := by
  have hxr := (h.oth bx hx1 hx2 hx3).trans hx
  have cx := cell_blockK hxr 0
  simp at cx
  have hvis := fun hc => visB_no (N := N) (b := b) (st := st) (k := k) hc
  by_cases hc : 0 ≤ k ∧ k < (N : Int) ∧ b[k.toNat]? = some false
  · obtain ⟨h1, h2, h3⟩ := hc
    obtain ⟨j, rfl⟩ := Int.eq_ofNat_of_zero_le h1
    rw [Int.toNat_natCast] at h3
    have hjN : j < N := by omega
    have hvy := visB_yes (st := st) hjN h3
    obtain ⟨vt, ht, hown⟩ := h.todo
    have hA1 := h.mark hL j
    have ck := cell_blockK h.seen j
    have fk := frozen_blockK h.seen j
    rw [List.getElem?_toArray, List.getElem?_map, h3] at ck
    simp only [Option.map_some] at ck
    obtain ⟨wa, hwa⟩ : ∃ wa, wr.setCell ⟨bs, j, none⟩ (.bool true) = wa := ⟨_, rfl⟩
    have hta : wa.heap[bt]? = some (.cells #[vt] 41 (0, 0)) := by rw [← hwa, Below.heap_setCell _ _ _ _ hL.ne.symm]; exact ht
    have hownA : wa.ownsRow B2 3 1 vt st.length (intsN st) := by rw [← hwa]; exact ownsRow_setCell_below hown (a := ⟨bs, j, none⟩) hL.s1 _
    have ct := cell_blockK hta 0
    rw [hwa] at hA1
    simp at ct
    have hz := hA1.size
    obtain ⟨i0, hi, hz0, hz1, hz2⟩ := info_parts Tryd.info_int
    have hj0 : (0 : Int) ≤ (j : Int) := by omega
    have hjN2 : (j : Int) < (N : Int) := by omega
    rw [hvy]
    clear hvis hvy
    go_enter Tryd.func25, Tryd.ntmps25
    go_wp2_with (at_builtin; refine wpList_append_own _ rfl _ _ 41 rfl B2 3 i0 _ 1 8 Tryd.underlying41 hi hz0 hz1 hz2 rfl (by decide) _ _ _ rfl (hownA.alloc _) ⟨wa.heap.size, 0, none⟩ 1 1 [.int .i64 (j : Nat)] rfl rfl (cell_one_new _ _ _) (by simp [Value.oneCell']) (by unfold maxLen; omega) (by omega) (by simp; omega) ?_; intro v' W3 hown' hgrow3 hnil3; obtain ⟨g', cap', rfl⟩ := ownsRow_succ hown'; have ht3 := top_kept hL hA1 hta hownA hgrow3; have hc3 := cell_blockK ht3 0; have hf3 := frozen_blockK ht3 0; simp at hc3)
    go_end0
    refine ⟨⟨_, rfl⟩, ?_⟩
    exact (hA1.alloc hL _).store hL (v' := .slice (some ⟨g', 0, none⟩) (st.length + 1) cap') (by rw [Lib.alloc_old _ _ _ (by have := hL.t1; omega)]; exact hta) (by rw [List.length_append, List.length_singleton, intsN_snoc]; exact hown') hgrow3 (fun q hq => (hownA.lt q hq).1)
  · rw [hvis hc]
    by_cases h1 : 0 ≤ k
    · obtain ⟨j, rfl⟩ := Int.eq_ofNat_of_zero_le h1
      by_cases h2 : (j : Int) < (N : Int)
      · obtain ⟨x, hxb⟩ : ∃ x, b[j]? = some x := ⟨b[j]'(by omega), List.getElem?_eq_getElem _⟩
        have hxt : x = true := by
          cases x with
          | true => rfl
          | false => exact absurd ⟨h1, h2, by rw [Int.toNat_natCast]; exact hxb⟩ hc
        subst hxt
        have ck := cell_blockK h.seen j
        rw [List.getElem?_toArray, List.getElem?_map, hxb] at ck
        simp only [Option.map_some] at ck
        clear hc hvis
        go_enter Tryd.func25, Tryd.ntmps25
        go_wp2_with fail
        go_end0
        exact ⟨⟨_, rfl⟩, h⟩
      · clear hc hvis
        go_enter Tryd.func25, Tryd.ntmps25
        go_wp2_with fail
        go_end0
        exact ⟨⟨_, rfl⟩, h⟩
    · clear hc hvis
      go_enter Tryd.func25, Tryd.ntmps25
      go_wp2_with fail
      go_end0
      exact ⟨⟨_, rfl⟩, h⟩
end
end Go.Proofs.YtoihoackmkapaaaDoor
