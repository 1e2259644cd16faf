/- The walk of (*shape.Tree).Keys. -/
import Derived.Test.YtopepkcmpogdoaaEach
import Derived.Shelf.Abstract
namespace Go.Proofs.Ytopepkcmpogdoaa
open Go.RowKit Go.Shelf
set_option maxHeartbeats 400000
set_option maxRecDepth 100000
attribute [local go_sem] Oper.semAt_some

def keyCells (l : List Sl) : List Value := l.flatMap fun s => [.string s.1, .int .i64 s.2.1]
theorem keyCells_length (l : List Sl) : (keyCells l).length = l.length * 2 := by
  induction l with
  | nil => rfl
  | cons s r ih => unfold keyCells at *; simp only [List.flatMap_cons, List.length_append, ih, List.length_cons, List.length_nil]; omega
theorem keyCells_snoc (l : List Sl) (s : Sl) : keyCells (l ++ [s]) = keyCells l ++ [.string s.1, .int .i64 s.2.1] := by simp [keyCells]
theorem Try.info_Key : (Try.prog.info? 30).map (fun i => (i.zero, i.size, i.bytes)) = some (some (.agg #[.string ⟨#[]⟩, .int .i64 0]), 2, 24) := by kernel_rfl

theorem keys_in {B0 : Nat} {w : World} {b : Nat} {T : List (List Sl)} {f : WK → Option Int} (h : IsTree B0 w b T f) (s : Int) (hin : 0 ≤ s ∧ s < T.length) :
    CallsIn Fence.wide 3 Try.prog 12 #[.pointer (some ⟨b, 0, none⟩), .int .i64 s] w fun e w' => ∃ v, e = .returned (.tuple #[v, .int .i64 0]) ∧ w'.ownsRow w.heap.size 30 2 v (atShape T s).length (keyCells (atShape T s)) ∧ Below w.heap.size w w' := by
  obtain ⟨i0, hi0, hz0, hz1, hz2⟩ := info_parts Try.info_Key
  obtain ⟨xs, hxs, hxl⟩ := slots_ok h s
  obtain ⟨vL, mw, sh, ht⟩ := id h
  refine callsIn_of_wp_marks Try.func12 rfl trivial ?_ rfl
  simp only [Try.ntmps12, List.size_toArray, List.length_cons, List.length_nil, Nat.reduceAdd, Nat.reduceSub, Array.replicate_succ, Array.replicate_zero, List.push_toArray, List.append_toArray, List.nil_append, List.cons_append]
  gi_wp2
  refine ⟨trivial, ?_⟩
  refine (callsIn_wide.2 (is_tree ht s)).mono ?_
  rintro e w' ⟨rfl, rfl⟩
  simp only [hin, and_self, decide_true]
  gi_wp2
  refine ⟨trivial, ?_⟩
  refine (callsIn_wide.2 (each_any _ _ _)).mono ?_
  rintro e w' ⟨rfl, rfl⟩
  simp only
  gi_wp2
  have bO := ((Boxed.new w 37 (.slice none 0 0)).alloc (.cells #[.pointer (some ⟨b, 0, none⟩)] 25)).alloc (.cells #[.int .i64 s] 3)
  have bT := (Boxed.new (w.alloc (.cells #[.slice none 0 0] 37)) 25 (.pointer (some ⟨b, 0, none⟩))).alloc (.cells #[.int .i64 s] 3)
  have bS := Boxed.new ((w.alloc (.cells #[.slice none 0 0] 37)).alloc (.cells #[.pointer (some ⟨b, 0, none⟩)] 25)) 3 (.int .i64 s)
  have e1 : (w.alloc (.cells #[.slice none 0 0] 37)).heap.size = w.heap.size + 1 := by simp
  have e2 : ((w.alloc (.cells #[.slice none 0 0] 37)).alloc (.cells #[.pointer (some ⟨b, 0, none⟩)] 25)).heap.size = w.heap.size + 1 + 1 := by simp
  rw [e1] at bT ⊢
  rw [e2] at bS
  have hB0 : Below w.heap.size w (((w.alloc (.cells #[.slice none 0 0] 37)).alloc (.cells #[.pointer (some ⟨b, 0, none⟩)] 25)).alloc (.cells #[.int .i64 s] 3)) := (((Below.refl _ w).alloc (Nat.le_refl _) _).alloc (by simp) _).alloc (by simp; omega) _
  have hsz : (((w.alloc (.cells #[.slice none 0 0] 37)).alloc (.cells #[.pointer (some ⟨b, 0, none⟩)] 25)).alloc (.cells #[.int .i64 s] 3)).heap.size = w.heap.size + 3 := by simp
  obtain ⟨W0, hW0⟩ : ∃ W0, ((w.alloc (.cells #[.slice none 0 0] 37)).alloc (.cells #[.pointer (some ⟨b, 0, none⟩)] 25)).alloc (.cells #[.int .i64 s] 3) = W0 := ⟨_, rfl⟩
  rw [hW0] at bO bT bS hB0 hsz ⊢
  clear hW0 e1 e2
  refine wpIn_rangeFunc_ownH rfl (by omega) (gf := 40) (lb := #[.pointer (some ⟨w.heap.size + 1, 0, none⟩), .pointer (some ⟨w.heap.size + 1 + 1, 0, none⟩)]) rfl trivial (enters_of Try.func40 (by kernel_rfl) rfl)
    (each_stops 2 h hB0 s xs hxs bT.cell bS.cell) belowK_t (belowK_b (by omega)) (Below.refl _ _) (fun _ => rfl)
    (fun (pre : List SlO) W => (∃ v, Boxed W w.heap.size 37 v ∧ W.ownsRow w.heap.size 30 2 v pre.length (keyCells (pre.map (·.1))) ∧ True) ∧ Below w.heap.size w W)
    (fun _ _ _ => False)
    (OwnFrom.and (Own.from (holdsRow_own w.heap.size w.heap.size 37 30 2 (fun (pre : List SlO) => pre.length) (fun (pre : List SlO) => keyCells (pre.map (·.1))) (fun _ _ => True)) _) (ownFrom_below (Nat.le_refl _) (by omega)))
    (fun _ _ _ _ _ hs _ _ => hs)
    ⟨⟨_, bO, World.ownsRow_nil _ _ _ _, trivial⟩, hB0⟩
    (fun x a' W => ∃ Bx, w.heap.size < Bx ∧ W.heap[Bx]? = some (.cells #[.string x.1.1, .int .i64 x.1.2.1] 30 (0, 0)) ∧ a' = { tmps := #[.pointer (some ⟨b, 0, none⟩), .int .i64 s, undef, undef, .slice none 0 0, .int .i64 0, .pointer (some ⟨w.heap.size, 0, none⟩), .pointer (some ⟨Bx, 0, none⟩), .pointer (some ⟨b, 0, none⟩), .int .i64 s, .bool true, .bool false, .pointer (some ⟨b, 0, none⟩), .int .i64 s, .func (.func 40) #[] #[.pointer (some ⟨w.heap.size + 1, 0, none⟩), .pointer (some ⟨w.heap.size + 1 + 1, 0, none⟩)], encK (x.1.1, x.1.2.1), .int .i64 x.1.2.2, undef, undef, undef, undef, undef], defers := [] })
    (fun x a' _ X Y row hs hg hr => by
      obtain ⟨Bx, h1, h2, h3⟩ := hs
      refine ⟨Bx, h1, (hg.block Bx (Array.getElem?_eq_some_iff.1 h2).1 fun e => ?_).trans h2, h3⟩
      obtain ⟨_, o, ho, hc⟩ := hr Bx e.symm
      rw [h2] at ho
      cases ho
      cases hc)
    ?assign ?body ?done ?stop
  case assign =>
    rintro l pre ⟨⟨s1, s2, s3⟩, hxok⟩ W K ⟨⟨v, hv, hrow, _⟩, hB⟩ hK
    simp only [encSl, encK]
    gi_wp2
    exact hK _ _ ((KeepsOthers.alloc _ _).from _) ((Below.refl _ W).alloc hB.size _) ⟨⟨v, hv.alloc _, hrow.alloc _, trivial⟩, hB.alloc hB.size _⟩ ⟨W.heap.size, hv.lt, heap_new' rfl, rfl⟩
  case body =>
    rintro l pre ⟨⟨s1, s2, s3⟩, hxok⟩ a' W hl ⟨r, hr⟩ ⟨⟨v, hv, hrow, _⟩, hB⟩ ⟨Bx, hBx, hbx, rfl⟩ hlt
    have hc := hv.cell
    have k0 := cell_block hbx 0
    have k1 := cell_block hbx 1
    simp at k0 k1
    simp only [encK]
    gi_wp2_with (gi_at_builtin; refine wpListIn_append_own _ rfl _ _ 37 rfl w.heap.size 30 i0 _ 2 24 Try.underlying37 hi0 hz0 hz1 hz2 rfl (by decide) _ _ _ rfl (hrow.alloc _) ⟨W.heap.size, 0, none⟩ 1 1 [.string s1, .int .i64 s2] rfl rfl (World.news_of_block (cs := #[.string s1, .int .i64 s2]) (t := 30) (fr := (0, 0)) (heap_new' rfl)) (by simp [Value.oneCell']) (by unfold maxLen; omega) (by omega) (by have := hB.size; simp; omega) ?_; intro v' w1 hown' hgrow _; obtain ⟨g', cap', rfl⟩ := ownsRow_succ hown'; obtain ⟨hv1, hv2, hr2, hk2, hb2⟩ := hv.appended (by decide) hrow hB.size (Nat.le_refl _) hown' hgrow; have hc1 := hv1.cell; have hf1 := hv1.frozen)
    exact ⟨hk2.from _, hb2, ⟨_, hv2, by rw [List.map_append, List.length_append]; simp only [List.map_cons, List.map_nil]; rw [keyCells_snoc]; exact hr2⟩, hB.trans hb2⟩
  case done =>
    rintro D ys W hD rfl ⟨⟨v, hv, hrow, _⟩, hB⟩ hK
    have hc := hv.cell
    gi_wp2
    refine ⟨by simp, .inl ⟨_, _, rfl, run_takeDeferred hK, ?_⟩⟩
    refine ⟨_, results_tmp2 rfl _ _ _, v, rfl, ?_, hB.trans (belowK_b (w := w) (Nat.le_refl _) W D _ _ (by omega) hK rfl rfl)⟩
    rw [← hxs, List.length_map]
    exact ownsRow_putObj hrow _ hK rfl
  case stop =>
    rintro D c pre W _ _ h _
    exact h.elim

/-- (*Tree).Keys -/
theorem keys_any {B0 : Nat} {w : World} {b : Nat} {T : List (List Sl)} {f : WK → Option Int} (h : IsTree B0 w b T f) (s : Int) :
    Calls Try.prog 12 #[.pointer (some ⟨b, 0, none⟩), .int .i64 s] w fun e w' => ∃ v, e = .returned (.tuple #[v, .int .i64 (if 0 ≤ s ∧ s < T.length then 0 else 140)]) ∧ w'.ownsRow w.heap.size 30 2 v (atShape T s).length (keyCells (atShape T s)) ∧ Below w.heap.size w w' := by
  by_cases hin : 0 ≤ s ∧ s < T.length
  · rw [if_pos hin]
    exact callsIn_wide.1 (keys_in h s hin)
  · rw [if_neg hin]
    have e0 : atShape T s = [] := if_neg hin
    rw [e0]
    obtain ⟨vL, mw, sh, h⟩ := h
    go_enter Try.func12, Try.ntmps12
    go_wp2_with fail
    refine (is_tree h s).mono ?_
    rintro e w' ⟨rfl, rfl⟩
    simp only [hin, decide_false]
    go_wp2_with fail
    go_ret2
    exact ⟨_, rfl, World.ownsRow_nil _ _ _ _, Below.refl _ _⟩
end Go.Proofs.Ytopepkcmpogdoaa
