/- The walk of lintellaw14.told. -/
import Derived.Test.YtopepkcmpogdoaaDoes
import Derived.Test.YtopepkcmpogdoaaKeysW
import Derived.Test.YtopepkcmpogdoaaRangeB
namespace Go.Proofs.Ytopepkcmpogdoaa
open Go.RowKit Go.Shelf
set_option maxHeartbeats 400000
set_option maxRecDepth 100000
attribute [local go_sem] Oper.semAt_some

theorem atFn_self (l : List Sl) (hd : Dist l) (i : Nat) (y : Sl) (h : l[i]? = some y) : atFn l (plainK (slKey y)) = some (i : Int) := by
  induction l generalizing i with
  | nil => simp at h
  | cons s r ih =>
    unfold Dist at hd
    simp only [List.map_cons, List.nodup_cons] at hd
    simp only [atFn]
    cases i with
    | zero =>
      obtain rfl : s = y := by simpa using h
      rw [atFn_none r _ fun x hx he => hd.1 (List.mem_map.2 ⟨x, hx, he⟩)]
      simp
    | succ i =>
      rw [ih hd.2 i (by simpa using h)]
      simp
theorem keyCells_at (l : List Sl) (k : Nat) (s : Sl) (h : l[k]? = some s) : (keyCells l)[k * 2]? = some (.string s.1) ∧ (keyCells l)[k * 2 + 1]? = some (.int .i64 s.2.1) := by
  induction l generalizing k with
  | nil => simp at h
  | cons x r ih =>
    have e : keyCells (x :: r) = .string x.1 :: .int .i64 x.2.1 :: keyCells r := by simp [keyCells]
    rw [e]
    cases k with
    | zero =>
      obtain rfl : x = s := by simpa using h
      exact ⟨rfl, rfl⟩
    | succ k =>
      rw [show (k + 1) * 2 = k * 2 + 1 + 1 from by omega]
      exact ih k (by simpa using h)
theorem findM_self {m : TM} {q : Nat} {l : List Sl} (hl : m.1[q]? = some l) (hd : Dist l) {i : Nat} {y : Sl} (h : l[i]? = some y) {k : KK} (hk : plainK k = plainK (slKey y)) : findM m.1 q k = ((i : Int), y.2.2, true) := by
  have hq := (List.getElem?_eq_some_iff.1 hl).1
  unfold findM
  rw [if_neg (by simp; omega)]
  have e : m.1.getD (q : Int).toNat [] = l := by simp [hl]
  rw [e, hk, atFn_self l hd i y h]
  simp [flagAt, h]
theorem prefix_at {α : Type} {pre xs : List α} {x : α} (h : pre ++ [x] <+: xs) : xs[pre.length]? = some x := by
  obtain ⟨t, rfl⟩ := h
  simp
theorem keeps_below {B : Nat} {W W' : World} (h : Below W.heap.size W W') : KeepsFrom B W W' := ⟨h.size, fun k o _ hk _ => (h.block k (Array.getElem?_eq_some_iff.1 hk).1).trans hk⟩

theorem eql_func_nil (w : World) (fn : Fn) (x y : Array Value) : (binOp .eql 85 (.func fn x y) .nilFunc).run Try.prog w = .ok (.bool false) w := by
  have h : ∀ d : Nat, (Op.equalIn (d + 1) 85 (.func fn x y) .nilFunc).run Try.prog w = .ok false w := fun d => by
    simp [Op.equalIn, run_underlying Try.underlying85]
  simp only [binOp]
  simp [Op.equal, Op.maxDepth, h 9999]

theorem told_end {tmps : Array Value} {B D D2 : Nat} {w W' : World} (ht : tmps.getD 6 undef = .pointer (some ⟨B, 0, none⟩)) (hv : W'.heap[B]? = some (.cells #[.bool false] 4 (0, 0))) (hD : W'.heap[D]? = some (.deferred (some []))) (hD2 : W'.heap[D2]? = some (.deferred (some [])))
    (hne : D ≠ D2) (hb : Below w.heap.size w W') (hB : w.heap.size ≤ B) (h1 : w.heap.size ≤ D) (h2 : w.heap.size ≤ D2) :
    bodyPostM Fence.wide 3 Try.prog Try.f17 (fun e w' => e = .returned (.bool true) ∧ Below w.heap.size w w') .ret { tmps := tmps, defers := [{ target := .collected D2, args := #[] }, { target := .collected D, args := #[] }] } (W'.setCell ⟨B, 0, none⟩ (.bool true)) := by
  have n1 : D ≠ B := fun e => by rw [e, hv] at hD; cases hD
  have n2 : D2 ≠ B := fun e => by rw [e, hv] at hD2; cases hD2
  have k1 : (W'.setCell ⟨B, 0, none⟩ (.bool true)).heap[D2]? = some (.deferred (some [])) := by rw [Below.heap_setCell _ _ _ _ n2]; exact hD2
  have k2 : ((W'.setCell ⟨B, 0, none⟩ (.bool true)).putObj D2 (.deferred none)).heap[D]? = some (.deferred (some [])) := by
    rw [World.putObj_heap_other hne, Below.heap_setCell _ _ _ _ n1]; exact hD
  have k3 : (((W'.setCell ⟨B, 0, none⟩ (.bool true)).putObj D2 (.deferred none)).putObj D (.deferred none)).heap[B]? = some (.cells #[.bool true] 4 (0, 0)) := by
    rw [World.putObj_heap_other (Ne.symm n1), World.putObj_heap_other (Ne.symm n2), setCell_block hv]
    rfl
  have k4 := cell_block k3 0
  have s1 := hb.size
  have hb1 : Below w.heap.size w (W'.setCell ⟨B, 0, none⟩ (.bool true)) := hb.grown (setCell_grown _ _ _) (by omega) (fun k hk => by cases hk; exact hB)
  have hb2 : Below w.heap.size w ((W'.setCell ⟨B, 0, none⟩ (.bool true)).putObj D2 (.deferred none)) := hb1.grown (grownBy_putObj' _ _ _) hb1.size (fun k hk => by cases hk; exact h2)
  have hb3 : Below w.heap.size w (((W'.setCell ⟨B, 0, none⟩ (.bool true)).putObj D2 (.deferred none)).putObj D (.deferred none)) := hb2.grown (grownBy_putObj' _ _ _) hb2.size (fun k hk => by cases hk; exact h1)
  simp at k4
  refine ⟨by simp, .inl ⟨_, _, rfl, run_takeDeferred k1, ?_⟩⟩
  refine ⟨by simp, .inl ⟨_, _, rfl, run_takeDeferred k2, ?_⟩⟩
  refine ⟨.bool true, ?_, rfl, hb3⟩
  have ht' : tmps[6]?.getD undef = .pointer (some ⟨B, 0, none⟩) := by simpa using ht
  simp [results, Try.results17, ht', go_sem, k4]

set_option maxHeartbeats 4000000 in
theorem told_in (B0 B1 : Nat) (w : World) (tb rb : Nat) (m : TM) (r : RM) (s : Int) (hT : IsTree B0 w tb m.1 m.2) (hR : IsRef B1 w rb r.1 r.2) (hS : Sim m r) (hm : m.1.length ≤ 1000) (hs1 : -1 ≤ s) (hs2 : s ≤ m.1.length) :
    CallsIn Fence.wide 3 Try.prog 17 #[.pointer (some ⟨tb, 0, none⟩), .pointer (some ⟨rb, 0, none⟩), .int .i64 s] w fun e w' => e = .returned (.bool true) ∧ Below w.heap.size w w' := by
  refine callsIn_of_wp_marks Try.func17 rfl trivial ?_ rfl
  simp only [Try.ntmps17, List.size_toArray, List.length_cons, List.length_nil, Nat.reduceAdd, Nat.reduceSub, Array.replicate_succ, Array.replicate_zero, List.push_toArray, List.append_toArray, List.nil_append, List.cons_append]
  gi_wp2
  refine ⟨trivial, ?_⟩
  refine (callsIn_wide.2 (keys_any (hT.below ((((Below.refl _ _).alloc (Nat.le_refl _) (.cells #[.pointer (some ⟨tb, 0, none⟩)] 25)).alloc (by simp) (.cells #[.int .i64 s] 3)).alloc (by simp; omega) (.cells #[.bool false] 4))) s)).mono ?_
  rintro e w1 ⟨v, rfl, hrow, hb1⟩
  obtain ⟨A, c, rfl, hAc, hA1, hA2⟩ := row_slice hrow
  have hin1 := hb1.size
  obtain ⟨w0, hw0⟩ : ∃ w0, (((w.alloc (.cells #[.pointer (some ⟨tb, 0, none⟩)] 25)).alloc (.cells #[.int .i64 s] 3)).alloc (.cells #[.bool false] 4)) = w0 := ⟨_, rfl⟩
  rw [hw0] at hb1 hrow hin1
  have b0 := hw0 ▸ heap_old' (o := .cells #[.bool false] 4) (heap_old' (o := .cells #[.int .i64 s] 3) (heap_new' (w := w) (o := .cells #[.pointer (some ⟨tb, 0, none⟩)] 25) rfl))
  have b1 := hw0 ▸ heap_old' (o := .cells #[.bool false] 4) (heap_new' (w := w.alloc (.cells #[.pointer (some ⟨tb, 0, none⟩)] 25)) (o := .cells #[.int .i64 s] 3) (k := w.heap.size + 1) (by simp))
  have b2 := hw0 ▸ heap_new' (w := (w.alloc (.cells #[.pointer (some ⟨tb, 0, none⟩)] 25)).alloc (.cells #[.int .i64 s] 3)) (o := .cells #[.bool false] 4) (k := w.heap.size + 1 + 1) (by simp)
  have hb0 : Below w.heap.size w w0 := by rw [← hw0]; exact (((Below.refl _ _).alloc (Nat.le_refl _) _).alloc (by simp) _).alloc (by simp; omega) _
  have sz0 : w.heap.size + 3 ≤ w0.heap.size := by rw [← hw0]; simp
  clear hw0
  have x0 := (hb1.block _ (Array.getElem?_eq_some_iff.1 b0).1).trans b0
  have x1 := (hb1.block _ (Array.getElem?_eq_some_iff.1 b1).1).trans b1
  have x2 := (hb1.block _ (Array.getElem?_eq_some_iff.1 b2).1).trans b2
  have bw1 : Below w.heap.size w w1 := hb0.trans (hb1.mono (by omega))
  clear b0 b1 b2 hb1 hb0
  -- the box of the keys, and the iterator
  obtain ⟨W, hWd⟩ : ∃ W, ((w1.alloc (.cells #[.slice A (atShape m.1 s).length c] 37)).alloc (.cells #[.pointer (some ⟨tb, 0, none⟩)] 25)).alloc (.cells #[.int .i64 s] 3) = W := ⟨_, rfl⟩
  have f0 := cell_alloc' (cell_block x0 0) (.cells #[.slice A (atShape m.1 s).length c] 37)
  have f1 := cell_alloc' (cell_block x1 0) (.cells #[.slice A (atShape m.1 s).length c] 37)
  simp at f0 f1
  have hfn := fun w a b => eql_func_nil w (.func 40) a b
  generalize hec : (if 0 ≤ s ∧ s < (m.1.length : Int) then (0 : Int) else 140) = ec
  have HEC := Lib.hid hec
  clear hec
  gi_wp2
  refine ⟨trivial, ?_⟩
  refine (callsIn_wide.2 (each_any _ _ _)).mono ?_
  rintro e w' ⟨rfl, rfl⟩
  simp only
  gi_wp2
  have hb1W : Below w1.heap.size w1 W := by rw [← hWd]; exact (((Below.refl _ _).alloc (Nat.le_refl _) _).alloc (by simp) _).alloc (by simp; omega) _
  have hE : (w1.alloc (.cells #[.slice A (atShape m.1 s).length c] 37)).heap.size = w1.heap.size + 1 := by simp
  rw [hE]
  have kx : W.heap[w1.heap.size]? = some (.cells #[.slice A (atShape m.1 s).length c] 37 (0, 0)) := by rw [← hWd]; exact heap_old' (heap_old' (heap_new' rfl))
  have hEt : W.cell? ⟨w1.heap.size + 1, 0, none⟩ = some (.pointer (some ⟨tb, 0, none⟩)) := by
    rw [← hWd]
    exact cell_block (heap_old' (heap_new' (w := w1.alloc (.cells #[.slice A (atShape m.1 s).length c] 37)) (o := .cells #[.pointer (some ⟨tb, 0, none⟩)] 25) hE)) 0
  have hEs : W.cell? ⟨w1.heap.size + 1 + 1, 0, none⟩ = some (.int .i64 s) := by
    rw [← hWd]
    exact cell_block (heap_new' (w := (w1.alloc (.cells #[.slice A (atShape m.1 s).length c] 37)).alloc (.cells #[.pointer (some ⟨tb, 0, none⟩)] 25)) (o := .cells #[.int .i64 s] 3) (by simp)) 0
  have szW : w1.heap.size + 3 ≤ W.heap.size := by rw [← hWd]; simp
  clear hWd f0 f1
  have y0 := (hb1W.block _ (Array.getElem?_eq_some_iff.1 x0).1).trans x0
  have y1 := (hb1W.block _ (Array.getElem?_eq_some_iff.1 x1).1).trans x1
  have y2 := (hb1W.block _ (Array.getElem?_eq_some_iff.1 x2).1).trans x2
  have hrowW := ownsRow_of_blocks (w' := W) hrow fun k hk => hb1W.block k (hrow.lt k hk).2
  have bwW : Below w.heap.size w W := bw1.trans (hb1W.mono (by omega))
  have hTW := hT.below bwW
  have hRW := hR.below bwW
  obtain ⟨ys, hys, hyl⟩ := slots_ok hT s
  have hokT : ∀ x ∈ atShape m.1 s, okSl x := fun x hx => by
    rw [← hys] at hx
    obtain ⟨y, _, rfl⟩ := List.mem_map.1 hx
    exact y.2
  clear hys hyl ys
  obtain ⟨xs, hxs⟩ : ∃ xs : List (SlP fun x => x ∈ atShape m.1 s), xs.map (·.1) = atShape m.1 s := ⟨(atShape m.1 s).attach, List.attach_map_subtype_val _⟩
  clear x0 x1 x2 hrow hb1W hT hR
  refine range_break (by omega) (gf := 40) (lb := #[.pointer (some ⟨w1.heap.size + 1, 0, none⟩), .pointer (some ⟨w1.heap.size + 1 + 1, 0, none⟩)]) rfl (enters_of Try.func40 (by kernel_rfl) rfl)
    (each_stops 2 hTW (Below.refl _ _) s xs hxs hEt hEs) (fun _ => rfl) ?_
  intro D W2 hD hb2 hK2
  have z0 := (hb2.block _ (Array.getElem?_eq_some_iff.1 y0).1).trans y0
  have z1 := (hb2.block _ (Array.getElem?_eq_some_iff.1 y1).1).trans y1
  have z2 := (hb2.block _ (Array.getElem?_eq_some_iff.1 y2).1).trans y2
  have zk := (hb2.block _ (Array.getElem?_eq_some_iff.1 kx).1).trans kx
  have d1 := cell_block z1 0
  simp at d1
  obtain ⟨vL, vW, vs, hRef⟩ := hRW.below hb2
  obtain ⟨gr, capr, rfl, _, _⟩ := hRef.form
  have rc := hRef.c0
  have hsame := hS.same
  rw [← hsame] at rc
  have HSAME := Lib.hid hsame
  clear hsame
  by_cases hin : 0 ≤ s ∧ s < m.1.length
  · obtain rfl : ec = 0 := by rw [← HEC.out, if_pos hin]
    have q1 : decide (s < 0) = false := by simp; omega
    have q2 : decide ((m.1.length : Int) ≤ s) = false := by simp; omega
    gi_wp2
    refine wpIn_wide.2 ?_
    refine wp_region_lin (fun w' => w' = W2.drew) [] (.block 0 (.block 1 (.block 2 (.block 3 (.block 4 (.block 5 (.block 6 (.block 7 (.block 8 (.block 9 (.block 10 (.skip)))))))))))) (by kernel_rfl) (by kernel_rfl) (by kernel_rfl) (by kernel_rfl) (by kernel_rfl) rfl ?_
    repeat first
      | (refine lin_light (A1 := ?_) rfl rfl rfl rfl rfl (fun w' hS K hK => ?_) ?_ ?_
         rotate_left
         · obtain rfl := hS; go_step; exact hK
         · rfl)
      | (refine lin_skip rfl rfl ?_; simp only [Act.put, List.setIfInBounds_toArray, List.set_cons_zero, List.set_cons_succ])
    refine lin_end ?_
    gi_wp2
    obtain ⟨q, rfl⟩ : ∃ q : Nat, s = q := ⟨s.toNat, by omega⟩
    have hq : q < m.1.length := by omega
    obtain ⟨l, hl⟩ : ∃ l, m.1[q]? = some l := ⟨m.1[q], List.getElem?_eq_getElem hq⟩
    have hat : atShape m.1 q = l := by
      unfold atShape
      rw [if_pos hin]
      simp [hl]
    have hl' : r.1[q]? = some l := by rw [← HSAME.out]; exact hl
    obtain ⟨v, hv⟩ : ∃ v, vs[q]? = some v := ⟨vs[q]'(by rw [hRef.vsl, ← HSAME.out]; exact hq), List.getElem?_eq_getElem _⟩
    obtain ⟨hwant, hl128, hlsz⟩ := hRef.shapes q v l hv hl'
    obtain ⟨Aw, cw, rfl, hAcw, hAw1, hAw2⟩ := row_slice hwant
    have rq := hRef.row.cells (g := gr) rfl _ _ hv
    simp only [Addr.add_lit, Nat.zero_add] at rq
    rw [hat] at zk hrowW hokT ⊢
    have HAW := Lib.hid hAw2
    have HWANT := Lib.hid hwant
    clear hv hl' q1 q2 hAw2 hwant
    refine wpIn_wide.2 ?_
    refine wp_region_lin (fun w' => w'.cell? ⟨rb, 0, none⟩ = some (.slice (some ⟨gr, 0, none⟩) m.1.length capr) ∧ w'.cell? ⟨w.heap.size + 1, 0, none⟩ = some (.int .i64 q) ∧ w'.cell? ⟨gr, q, none⟩ = some (.slice Aw l.length cw)) [8] (.block 0 (.block 1 (.block 2 (.block 3 (.block 4 (.block 5 (.block 6 (.scope (.seq (.label 7) (.loop (.scope (.seq (.label 8) (.skip))))))))))))) (by kernel_rfl) (by kernel_rfl) (by kernel_rfl) (by kernel_rfl) (by kernel_rfl) ⟨rc, d1, rq⟩ ?_
    repeat
      (refine lin_light (A1 := ?_) rfl rfl rfl rfl rfl (fun w' hS K hK => ?_) ?_ ?_
       rotate_left
       · obtain ⟨_, _, _⟩ := hS; go_step; exact hK
       · rfl)
    refine lin_group ?_
    refine lin_heavy rfl rfl (fun K hK => ?_)
    go_step
    refine hK.out _ _ ⟨cell_alloc' rc _, cell_alloc' d1 _, cell_alloc' rq _⟩ ?_
    clear hK K
    try refine lin_late ?_
    refine lin_group ?_
    refine lin_heavy rfl rfl (fun K hK => ?_)
    go_step
    refine hK.out _ _ trivial ?_
    clear hK K
    refine lin_end ?_
    have hb24 : Below W2.heap.size W2 (W2.alloc (.cells #[.slice Aw l.length cw] 88)).drew.drew := ((Below.refl _ _).alloc (Nat.le_refl _) _).drew.drew
    have hww : (W2.alloc (.cells #[.slice Aw l.length cw] 88)).drew.drew.heap[W2.heap.size]? = some (.cells #[.slice Aw l.length cw] 88 (0, 0)) := heap_new' (w := W2) rfl
    generalize hW4 : (World.drew _).drew = W4 at *
    clear hW4
    have s4 := hb24.size
    have v0 := (hb24.block _ (Array.getElem?_eq_some_iff.1 z0).1).trans z0
    have v1 := (hb24.block _ (Array.getElem?_eq_some_iff.1 z1).1).trans z1
    have v2 := (hb24.block _ (Array.getElem?_eq_some_iff.1 z2).1).trans z2
    have vk := (hb24.block _ (Array.getElem?_eq_some_iff.1 zk).1).trans zk
    have kc := cell_block vk 0
    have wc := cell_block hww 0
    simp at kc wc
    clear rc d1 rq z0 z1 z2 zk
    gi_wp2
    have bi : Boxed (W4.alloc (.cells #[.int .i64 0] 3)) W4.heap.size 3 (.int .i64 0) := Boxed.new _ _ _
    have hb45 : Below W4.heap.size W4 (W4.alloc (.cells #[.int .i64 0] 3)) := (Below.refl _ _).alloc (Nat.le_refl _) _
    have s5 : W4.heap.size < (W4.alloc (.cells #[.int .i64 0] 3)).heap.size := by simp
    generalize hW5 : W4.alloc _ = W5 at *
    clear hW5
    have hbW4 : Below W.heap.size W W4 := hb2.trans (hb24.mono hb2.size)
    have hT4 : IsTree B0 W4 tb m.1 m.2 := hTW.below hbW4
    have t4 := ((hbW4.cell (World.block_lt_of_cell? _ _ hEt)).trans hEt)
    have t5 := ((hbW4.cell (World.block_lt_of_cell? _ _ hEs)).trans hEs)
    have hlx : xs.length = l.length := by have h1 := congrArg List.length hxs; rw [List.length_map] at h1; exact h1.trans (congrArg List.length hat)
    have hDist : Dist l := hS.dist l (List.mem_of_getElem? hl)
    have hRowK := ownsRow_of_blocks (w' := W4) hrowW fun k hk => hbW4.block k (hrowW.lt k hk).2
    have hWant4 := ownsRow_of_blocks (w' := W4) HWANT.out fun k hk => hb24.block k (HWANT.out.lt k hk).2
    have s2' : W2.heap.size < W4.heap.size := (Array.getElem?_eq_some_iff.1 hww).1
    have sWW := hbW4.size
    refine wpIn_rangeFunc_ownH rfl (by omega) (gf := 40) (lb := #[.pointer (some ⟨w1.heap.size + 1, 0, none⟩), .pointer (some ⟨w1.heap.size + 1 + 1, 0, none⟩)]) rfl trivial (enters_of Try.func40 (by kernel_rfl) rfl)
      (each_stops 2 hT4 hb45 q xs hxs ((hb45.cell (World.block_lt_of_cell? _ _ t4)).trans t4) ((hb45.cell (World.block_lt_of_cell? _ _ t5)).trans t5)) belowK_t (belowK_b (by omega)) (Below.refl _ _) (fun _ => rfl)
      (fun (pre : List (SlP fun x => x ∈ atShape m.1 q)) W' => Boxed W' W4.heap.size 3 (.int .i64 pre.length) ∧ Below W4.heap.size W4 W')
      (fun c pre W' => c = .ret ∧ ¬ pre <+: xs)
      (OwnFrom.and (Own.from (boxed_own W4.heap.size 3 (fun (pre : List (SlP fun x => x ∈ atShape m.1 q)) => .int .i64 pre.length)) _) (ownFrom_below (Nat.le_refl _) (by omega)))
      (fun c s X Y row hs _ _ => hs)
      ⟨bi, hb45⟩
      (fun x a' W' => ∃ Bx, W4.heap.size < Bx ∧ W'.heap[Bx]? = some (.cells #[.string x.1.1, .int .i64 x.1.2.1] 30 (0, 0)) ∧ a' = { tmps := #[.pointer (some ⟨tb, 0, none⟩), .pointer (some ⟨rb, 0, none⟩), .int .i64 q, .pointer (some ⟨w.heap.size, 0, none⟩), undef, .pointer (some ⟨w.heap.size + 1, 0, none⟩), .pointer (some ⟨w.heap.size + 1 + 1, 0, none⟩), .pointer (some ⟨w1.heap.size, 0, none⟩), .int .i64 0, .func (.func 40) #[] #[.pointer (some ⟨w1.heap.size + 1, 0, none⟩), .pointer (some ⟨w1.heap.size + 1 + 1, 0, none⟩)], .pointer (some ⟨W2.heap.size, 0, none⟩), .pointer (some ⟨W4.heap.size, 0, none⟩), .pointer (some ⟨Bx, 0, none⟩), .int .i64 x.1.2.2, undef, undef, undef, .tuple #[.slice A l.length c, .int .i64 0], .pointer (some ⟨tb, 0, none⟩), .int .i64 q, .tuple #[.slice A l.length c, .int .i64 0], .slice A l.length c, .int .i64 0, .pointer (some ⟨tb, 0, none⟩), .int .i64 q, .func (.func 40) #[] #[.pointer (some ⟨w1.heap.size + 1, 0, none⟩), .pointer (some ⟨w1.heap.size + 1 + 1, 0, none⟩)], .func (.func 40) #[] #[.pointer (some ⟨w1.heap.size + 1, 0, none⟩), .pointer (some ⟨w1.heap.size + 1 + 1, 0, none⟩)], .bool false, .func (.func 40) #[] #[.pointer (some ⟨w1.heap.size + 1, 0, none⟩), .pointer (some ⟨w1.heap.size + 1 + 1, 0, none⟩)], undef, undef, .int .i64 q, .bool false, .bool false, .int .i64 q, .pointer (some ⟨rb, 0, none⟩), .pointer (some ⟨rb, 0, none⟩), .pointer (some ⟨rb, 0, none⟩), .slice (some ⟨gr, 0, none⟩) m.1.length capr, .int .i64 m.1.length, .bool false, .bool false, undef, undef, undef, undef, undef, undef, undef, undef, undef, undef, .pointer (some ⟨rb, 0, none⟩), .pointer (some ⟨rb, 0, none⟩), .pointer (some ⟨rb, 0, none⟩), .slice (some ⟨gr, 0, none⟩) m.1.length capr, .int .i64 q, .pointer (some ⟨gr, q, none⟩), .slice Aw l.length cw, .int .i64 0, .bool false, .bool false, .slice A l.length c, .int .i64 l.length, .slice Aw l.length cw, .int .i64 l.length, .bool false, .bool false, .func (.func 40) #[] #[.pointer (some ⟨w1.heap.size + 1, 0, none⟩), .pointer (some ⟨w1.heap.size + 1 + 1, 0, none⟩)], encK (x.1.1, x.1.2.1), .int .i64 x.1.2.2, undef, undef, undef, undef, undef, undef, undef, undef, undef, undef, undef, undef, undef, undef, undef, undef, undef, undef, undef, undef, undef, undef, undef, undef, undef, undef, undef, undef, undef, undef, undef, undef, undef, undef, undef, undef, undef, undef, undef, undef, undef, undef, undef, undef, undef, undef, undef, undef, undef, undef, undef, undef, undef, undef, undef, undef, undef, undef, undef, undef, undef, undef], defers := [] })
      (fun x a' _ X Y row hs hg hr => by
        obtain ⟨Bx, h1, h2, h3⟩ := hs
        refine ⟨Bx, h1, (hg.block Bx (Array.getElem?_eq_some_iff.1 h2).1 fun e => ?_).trans h2, h3⟩
        obtain ⟨_, o, ho, hc⟩ := hr Bx e.symm
        rw [h2] at ho
        cases ho
        cases hc)
      ?assign ?body ?done ?stop
    case assign =>
      rintro lp pre ⟨⟨s1, s2, s3⟩, hxok⟩ W' K ⟨hbox, hB⟩ hK
      simp only [encSl, encK]
      gi_wp2
      exact hK _ _ ((KeepsOthers.alloc _ _).from _) ((Below.refl _ W').alloc hB.size _) ⟨hbox.alloc _, hB.alloc hB.size _⟩ ⟨W'.heap.size, hbox.lt, heap_new' rfl, rfl⟩
    case body =>
      rintro lp pre ⟨⟨s1, s2, s3⟩, hxok⟩ a' W' hlp ⟨rr, hrr⟩ ⟨hbox, hB⟩ ⟨Bx, hBx, hbx, rfl⟩ hlt
      obtain ⟨i, hi⟩ : ∃ i, pre.length = i := ⟨_, rfl⟩
      simp only [hi] at hbox hlt
      have hil : i < l.length := by omega
      obtain ⟨⟨y1, y2, y3⟩, hy⟩ : ∃ y, l[i]? = some y := ⟨l[i], List.getElem?_eq_getElem hil⟩
      have hxl : (s1, s2, s3) ∈ l := by rw [← hat]; exact hxok
      have hyl : (y1, y2, y3) ∈ l := List.mem_of_getElem? hy
      have hsx : s1.size ≤ 1048576 := hlsz _ hxl
      have hsy : y1.size ≤ 1048576 := hlsz _ hyl
      have hkx : okK (s1, s2) := ⟨(hokT _ hxl).1, (hokT _ hxl).2.1⟩
      obtain ⟨gw, cw', hAwE, _, _⟩ := hWant4.form (by omega)
      obtain rfl : Aw = some ⟨gw, 0, none⟩ := by injection hAwE
      obtain ⟨gk, ck', hAE, _, _⟩ := hRowK.form (by omega)
      obtain rfl : A = some ⟨gk, 0, none⟩ := by injection hAE
      obtain ⟨p0, p1, p2⟩ := slotCells_at l i _ hy
      obtain ⟨p3, p4⟩ := keyCells_at l i _ hy
      have e3 := hWant4.cells (g := gw) rfl _ _ p0
      have e4 := hWant4.cells (g := gw) rfl _ _ p1
      have e5 := hWant4.cells (g := gw) rfl _ _ p2
      have e6 := hRowK.cells (g := gk) rfl _ _ p3
      have e7 := hRowK.cells (g := gk) rfl _ _ p4
      simp only [Addr.add_lit, Nat.zero_add] at e3 e4 e5 e6 e7
      have hc4 : ∀ {a : Addr} {u : Value}, W4.cell? a = some u → W'.cell? a = some u := fun {a u} h => (hB.cell (World.block_lt_of_cell? _ _ h)).trans h
      have k0 := cell_block hbx 0
      have k1 := cell_block hbx 1
      have c0 := cell_block v0 0
      have c1 := cell_block v1 0
      have c2 := cell_block v2 0
      simp at k0 k1 c0 c1 c2
      have hfacts : ∀ w', Below W'.heap.size W' w' → w'.cell? ⟨W4.heap.size, 0, none⟩ = some (.int .i64 i) ∧ w'.cell? ⟨W2.heap.size, 0, none⟩ = some (.slice (some ⟨gw, 0, none⟩) l.length cw) ∧ w'.cell? ⟨w1.heap.size, 0, none⟩ = some (.slice (some ⟨gk, 0, none⟩) l.length c) ∧
          w'.cell? ⟨gw, i * 3, none⟩ = some (.string y1) ∧ w'.cell? ⟨gw, i * 3 + 1, none⟩ = some (.int .i64 y2) ∧ w'.cell? ⟨gw, i * 3 + 2, none⟩ = some (.int .i64 y3) ∧ w'.cell? ⟨gk, i * 2, none⟩ = some (.string y1) ∧ w'.cell? ⟨gk, i * 2 + 1, none⟩ = some (.int .i64 y2) ∧
          w'.cell? ⟨Bx, 0, none⟩ = some (.string s1) ∧ w'.cell? ⟨Bx, 1, none⟩ = some (.int .i64 s2) := fun w' hb =>
        have hh : ∀ {a : Addr} {u : Value}, W'.cell? a = some u → w'.cell? a = some u := fun {a u} h => (hb.cell (World.block_lt_of_cell? _ _ h)).trans h
        ⟨hh hbox.cell, hh (hc4 wc), hh (hc4 kc), hh (hc4 e3), hh (hc4 e4), hh (hc4 e5), hh (hc4 e6), hh (hc4 e7), hh k0, hh k1⟩
      have HF := Lib.hid hfacts
      have HC4 : Hid (∀ {a : Addr} {u : Value}, W4.cell? a = some u → W'.cell? a = some u) := Lib.hid hc4
      have HHY := Lib.hid hy
      have q3 : decide ((l.length : Int) ≤ (i : Int)) = false := by simp; omega
      have q4 : ((i : Int) ≥ (l.length : Int)) = False := by simp; omega
      have q5 : decide ((i : Int) ≥ (l.length : Int)) = false := by simp; omega
      clear hfacts p0 p1 p2 p3 p4 e3 e4 e5 e6 e7 k0 k1 hy
      simp only [encK]
      gi_wp2
      refine wpIn_region_lin (fun w' => Below W'.heap.size W' w') [] (.block 0 (.block 1 (.block 2 (.block 3 (.block 4 (.block 5 (.block 6 (.block 7 (.block 8 (.block 9 (.block 10 (.scope (.seq (.label 11) (.block 12 (.block 13 (.block 14 (.block 15 (.block 16 (.block 17 (.block 18 (.block 19 (.block 20 (.block 21 (.block 22 (.block 23 (.block 24 (.block 25 (.block 26 (.block 27 (.block 28 (.block 29 (.block 30 (.block 31 (.block 32 (.scope (.seq (.label 33) (.block 34 (.block 35 (.skip))))))))))))))))))))))))))))))))))))))) (by kernel_rfl) (by kernel_rfl) (by kernel_rfl) (by kernel_rfl) (by kernel_rfl) (by kernel_rfl) (Below.refl _ _).drew ?_
      repeat first
        | (refine lin_light (A1 := ?_) rfl rfl rfl rfl rfl (fun w' hS K hK => ?_) ?_ ?_
           rotate_left
           · have hF := HF.out _ hS; obtain ⟨_, _, _, _, _, _, _, _, _, _⟩ := hF; go_step; exact hK
           · rfl)
        | (refine lin_skip rfl rfl ?_; simp only [Act.put, List.setIfInBounds_toArray, List.set_cons_zero, List.set_cons_succ])
      refine lin_group ?_
      refine lin_heavy rfl rfl (fun K hK => ?_)
      go_step
      refine (same_any (s1, s2) (y1, y2) _ hsx hsy).mono ?_
      rintro e w6 ⟨rfl, hb6⟩
      simp only
      have hb16 : Below W'.heap.size W' w6 := (Below.refl _ _).drew.trans (hb6.mono (Nat.le_refl _))
      have hv2 := (hb16.block _ (by have := hB.size; have := (Array.getElem?_eq_some_iff.1 v2).1; omega)).trans ((hB.block _ (Array.getElem?_eq_some_iff.1 v2).1).trans v2)
      have hcell2 := cell_block hv2 0
      have hfr2 := frozen_block hv2 0
      simp at hcell2
      have hno : (sameB (s1, s2) (y1, y2) = false ∨ (s3 == y3) = false) → ¬ (pre ++ [⟨(s1, s2, s3), hxok⟩]) <+: xs := fun hor hp => by
        have hx := prefix_at hp
        rw [hi] at hx
        have h1 : (xs.map (·.1))[i]? = some (s1, s2, s3) := by rw [List.getElem?_map, hx]; rfl
        rw [hxs, hat, HHY.out] at h1
        injection h1 with h1
        injection h1 with h1 h2
        injection h2 with h2 h3
        subst h1 h2 h3
        rcases hor with h | h
        · rw [(sameB_iff _ _).2 rfl] at h; cases h
        · simp at h
      have HNO := Lib.hid hno
      clear hno
      cases hc1 : sameB (s1, s2) (y1, y2) with
      | false =>
        refine hK.out _ _ hb16 ?_
        clear hK K
        repeat first
          | (refine lin_light (A1 := ?_) rfl rfl rfl rfl rfl (fun w' hS K hK => ?_) ?_ ?_
             rotate_left
             · have hF := HF.out _ hS; obtain ⟨_, _, _, _, _, _, _, _, _, _⟩ := hF; go_step; exact hK
             · rfl)
          | (refine lin_skip rfl rfl ?_; simp only [Act.put, List.setIfInBounds_toArray, List.set_cons_zero, List.set_cons_succ])
        refine lin_group ?_
        refine lin_skip_heavy rfl rfl hb16 ?_
        simp only [Act.put, List.setIfInBounds_toArray, List.set_cons_zero, List.set_cons_succ]
        repeat first
          | (refine lin_light (A1 := ?_) rfl rfl rfl rfl rfl (fun w' hS K hK => ?_) ?_ ?_
             rotate_left
             · have hF := HF.out _ hS; obtain ⟨_, _, _, _, _, _, _, _, _, _⟩ := hF; go_step; exact hK
             · rfl)
          | (refine lin_skip rfl rfl ?_; simp only [Act.put, List.setIfInBounds_toArray, List.set_cons_zero, List.set_cons_succ])
        refine lin_end ?_
        refine NoOut.normal ?_
        gi_wp2
        exact ⟨(keeps_below hb16).trans ((KeepsOthers.setCell _ _ _).from _), rfl, HNO.out (.inl hc1)⟩
      | true =>
        refine hK.out _ _ hb16 ?_
        clear hK K
        cases hc2 : (s3 == y3) with
        | false =>
          have hc3 : (s3 != y3) = true := by simp [bne, hc2]
          repeat first
            | (refine lin_light (A1 := ?_) rfl rfl rfl rfl rfl (fun w' hS K hK => ?_) ?_ ?_
               rotate_left
               · have hF := HF.out _ hS; obtain ⟨_, _, _, _, _, _, _, _, _, _⟩ := hF; go_step; exact hK
               · rfl)
            | (refine lin_skip rfl rfl ?_; simp only [Act.put, List.setIfInBounds_toArray, List.set_cons_zero, List.set_cons_succ])
          refine lin_group ?_
          refine lin_skip_heavy rfl rfl hb16 ?_
          simp only [Act.put, List.setIfInBounds_toArray, List.set_cons_zero, List.set_cons_succ]
          repeat first
            | (refine lin_light (A1 := ?_) rfl rfl rfl rfl rfl (fun w' hS K hK => ?_) ?_ ?_
               rotate_left
               · have hF := HF.out _ hS; obtain ⟨_, _, _, _, _, _, _, _, _, _⟩ := hF; go_step; exact hK
               · rfl)
            | (refine lin_skip rfl rfl ?_; simp only [Act.put, List.setIfInBounds_toArray, List.set_cons_zero, List.set_cons_succ])
          refine lin_end ?_
          refine NoOut.normal ?_
          gi_wp2
          exact ⟨(keeps_below hb16).trans ((KeepsOthers.setCell _ _ _).from _), rfl, HNO.out (.inr hc2)⟩
        | true =>
          have hc3 : (s3 != y3) = false := by simp [bne, hc2]
          repeat first
            | (refine lin_light (A1 := ?_) rfl rfl rfl rfl rfl (fun w' hS K hK => ?_) ?_ ?_
               rotate_left
               · have hF := HF.out _ hS; obtain ⟨_, _, _, _, _, _, _, _, _, _⟩ := hF; go_step; exact hK
               · rfl)
            | (refine lin_skip rfl rfl ?_; simp only [Act.put, List.setIfInBounds_toArray, List.set_cons_zero, List.set_cons_succ])
          refine lin_group ?_
          refine lin_heavy rfl rfl (fun K hK => ?_)
          go_step
          refine (same_any (y1, y2) (y1, y2) _ hsy hsy).mono ?_
          rintro e w7 ⟨rfl, hb7⟩
          have hyy : sameB (y1, y2) (y1, y2) = true := (sameB_iff _ _).2 rfl
          simp only [hyy]
          have hb17 : Below W'.heap.size W' w7 := hb16.trans (hb7.mono hb16.size)
          refine hK.out _ _ hb17 ?_
          clear hK K hv2 hcell2 hfr2
          repeat first
            | (refine lin_light (A1 := ?_) rfl rfl rfl rfl rfl (fun w' hS K hK => ?_) ?_ ?_
               rotate_left
               · have hF := HF.out _ hS; obtain ⟨_, _, _, _, _, _, _, _, _, _⟩ := hF; go_step; exact hK
               · rfl)
            | (refine lin_skip rfl rfl ?_; simp only [Act.put, List.setIfInBounds_toArray, List.set_cons_zero, List.set_cons_succ])
          refine lin_end ?_
          refine NoOut.normal ?_
          have hh7 : ∀ {a : Addr} {u : Value}, W4.cell? a = some u → w7.cell? a = some u := fun {a u} h => by
            have h1 := HC4.out h
            exact (hb17.cell (World.block_lt_of_cell? _ _ h1)).trans h1
          have n0 := hh7 c0
          have n1 := hh7 c1
          have hF7 := HF.out w7 hb17
          obtain ⟨n2, _, _, _, _, _, _, _, n3, n4⟩ := hF7
          have hfind := findM_self hl hDist HHY.out (k := (s1, s2)) ((sameB_iff _ _).1 hc1)
          have hT7 : IsTree B0 w7 tb m.1 m.2 := hT4.below (hB.trans (hb17.mono (by have := hB.size; omega)))
          have HFI := Lib.hid hfind
          clear hfind
          have hc5 : (y3 != s3) = false := by have : s3 = y3 := by simpa using hc2
                                              simp [bne, this]
          gi_wp2
          refine ⟨trivial, ?_⟩
          refine (CallsIn.inRound lp (callsIn_wide.2 (find_any hT7 q (s1, s2) hkx hm))).mono ?_
          rintro e w8 ⟨rfl, hb8⟩
          rw [HFI.out]
          simp only
          have hb18 : Below W'.heap.size W' w8 := hb17.trans (hb8.mono hb17.size)
          have hbox8 : Boxed w8 W4.heap.size 3 (.int .i64 i) := (hb18.block _ hbox.lt).trans hbox
          have hbc := hbox8.cell
          have hbf := hbox8.frozen
          clear n0 n1 n2 n3 n4
          gi_wp2
          have hstep := setCell_grown w8 ⟨W4.heap.size, 0, none⟩ (.int .i64 ((i : Int) + 1))
          have sB := hB.size
          have hlen : ((pre ++ [(⟨(s1, s2, s3), hxok⟩ : SlP fun x => x ∈ atShape m.1 q)]).length : Int) = (i : Int) + 1 := by rw [List.length_append, hi]; simp
          have hbl : Below W4.heap.size W' (w8.setCell ⟨W4.heap.size, 0, none⟩ (.int .i64 ((i : Int) + 1))) := (hb18.mono sB).grown hstep (by have := hb18.size; omega) (fun k hk => by cases hk; exact Nat.le_refl _)
          refine ⟨(keeps_below hb18).trans ((KeepsOthers.setCell _ _ _).from _), hbl, ?_, hB.trans hbl⟩
          rw [hlen]
          exact hbox8.set _
    case done =>
      rintro D2 ys W' hD2 rfl ⟨hbox, hB⟩ hK3
      have hbc := hbox.cell
      rw [hlx] at hbc
      have hww' := (hB.block _ (Array.getElem?_eq_some_iff.1 hww).1).trans hww
      have hv2 := (hB.block _ (Array.getElem?_eq_some_iff.1 v2).1).trans v2
      have hwc := cell_block hww' 0
      have hcell2 := cell_block hv2 0
      have hfr2 := frozen_block hv2 0
      simp at hwc hcell2
      gi_wp2
      have sB := hB.size
      have hbW : Below w.heap.size w W' := (bwW.trans ((hb2.trans (hb24.mono hb2.size)).mono bwW.size)).trans (hB.mono (by have := bwW.size; omega))
      have ltD := (Array.getElem?_eq_some_iff.1 hK2).1
      have hK2' := (hB.block D (by omega)).trans ((hb24.block D ltD).trans hK2)
      have sbw := bwW.size
      exact told_end rfl hv2 hK2' hK3 (by omega) hbW (by omega) (by omega) (by omega)
    case stop =>
      rintro D2 c pre W' hD2 hpre ⟨rfl, hn⟩ hK3
      exact absurd hpre hn
  · obtain rfl : ec = 140 := by rw [← HEC.out, if_neg hin]
    have hat : atShape m.1 s = [] := if_neg hin
    have hxn : xs = [] := List.eq_nil_of_length_eq_zero (by have h1 := congrArg List.length hxs; rw [List.length_map] at h1; exact h1.trans (congrArg List.length hat))
    have hlen0 : (atShape m.1 s).length = 0 := congrArg List.length hat
    rw [hlen0] at zk ⊢
    clear hAc hrowW hat
    have kc := cell_block zk 0
    simp at kc
    have hTW2 : IsTree B0 W2.drew tb m.1 m.2 := (hTW.below hb2).below (Below.refl _ _).drew
    have t4 : W2.drew.cell? ⟨w1.heap.size + 1, 0, none⟩ = some (.pointer (some ⟨tb, 0, none⟩)) := (hb2.cell (World.block_lt_of_cell? _ _ hEt)).trans hEt
    have t5 : W2.drew.cell? ⟨w1.heap.size + 1 + 1, 0, none⟩ = some (.int .i64 s) := (hb2.cell (World.block_lt_of_cell? _ _ hEs)).trans hEs
    have hneg : decide (s < 0) = true ∨ (decide (s < 0) = false ∧ decide ((m.1.length : Int) ≤ s) = true) := by
      by_cases h0 : s < 0
      · exact .inl (by simpa using h0)
      · exact .inr ⟨by simpa using h0, by simp; omega⟩
    gi_wp2
    refine wpIn_wide.2 ?_
    rcases hneg with q1 | ⟨q1, q2⟩
    · have q0 := q1
      refine wp_region_lin (fun w' => w' = W2.drew) [] (.block 0 (.block 1 (.block 2 (.block 3 (.block 4 (.block 5 (.block 6 (.block 7 (.block 8 (.block 9 (.block 10 (.skip)))))))))))) (by kernel_rfl) (by kernel_rfl) (by kernel_rfl) (by kernel_rfl) (by kernel_rfl) rfl ?_
      repeat first
        | (refine lin_light (A1 := ?_) rfl rfl rfl rfl rfl (fun w' hS K hK => ?_) ?_ ?_
           rotate_left
           · obtain rfl := hS; go_step; exact hK
           · rfl)
        | (refine lin_skip rfl rfl ?_; simp only [Act.put, List.setIfInBounds_toArray, List.set_cons_zero, List.set_cons_succ])
      refine lin_end ?_
      gi_wp2
      refine range_none (by omega) (gf := 40) (lb := #[.pointer (some ⟨w1.heap.size + 1, 0, none⟩), .pointer (some ⟨w1.heap.size + 1 + 1, 0, none⟩)]) rfl (enters_of Try.func40 (by kernel_rfl) rfl)
        (by have h0 := each_stops 2 hTW2 (Below.refl _ _) s xs hxs t4 t5
            rw [hxn] at h0
            exact h0) (fun _ => rfl) ?_
      intro D3 W3 hD3 hb3 hK3
      have hb23 : Below W2.heap.size W2 W3 := (Below.refl _ _).drew.trans (hb3.mono (Nat.le_refl _))
      have v2 := (hb23.block _ (Array.getElem?_eq_some_iff.1 z2).1).trans z2
      have kc3 := (hb23.cell (World.block_lt_of_cell? _ _ kc)).trans kc
      have ltD := (Array.getElem?_eq_some_iff.1 hK2).1
      have hK2' := (hb23.block D ltD).trans hK2
      have hcell2 := cell_block v2 0
      have hfr2 := frozen_block v2 0
      simp at hcell2
      have sW := bwW.size
      have sW2 := hb2.size
      have hD3' : W2.heap.size ≤ D3 := hD3
      have hbW3 : Below w.heap.size w W3 := (bwW.trans (hb2.mono sW)).trans (hb23.mono (by omega))
      gi_wp2
      exact told_end rfl v2 hK2' hK3 (by omega) hbW3 (by omega) (by omega) (by omega)
    · have q3 : (s ≥ (m.1.length : Int)) = True := by simp; have : (m.1.length : Int) ≤ s := of_decide_eq_true q2; omega
      refine wp_region_lin (fun w' => w' = W2.drew) [] (.block 0 (.block 1 (.block 2 (.block 3 (.block 4 (.block 5 (.block 6 (.block 7 (.block 8 (.block 9 (.block 10 (.skip)))))))))))) (by kernel_rfl) (by kernel_rfl) (by kernel_rfl) (by kernel_rfl) (by kernel_rfl) rfl ?_
      repeat first
        | (refine lin_light (A1 := ?_) rfl rfl rfl rfl rfl (fun w' hS K hK => ?_) ?_ ?_
           rotate_left
           · obtain rfl := hS; go_step; exact hK
           · rfl)
        | (refine lin_skip rfl rfl ?_; simp only [Act.put, List.setIfInBounds_toArray, List.set_cons_zero, List.set_cons_succ])
      refine lin_end ?_
      gi_wp2
      refine range_none (by omega) (gf := 40) (lb := #[.pointer (some ⟨w1.heap.size + 1, 0, none⟩), .pointer (some ⟨w1.heap.size + 1 + 1, 0, none⟩)]) rfl (enters_of Try.func40 (by kernel_rfl) rfl)
        (by have h0 := each_stops 2 hTW2 (Below.refl _ _) s xs hxs t4 t5
            rw [hxn] at h0
            exact h0) (fun _ => rfl) ?_
      intro D3 W3 hD3 hb3 hK3
      have hb23 : Below W2.heap.size W2 W3 := (Below.refl _ _).drew.trans (hb3.mono (Nat.le_refl _))
      have v2 := (hb23.block _ (Array.getElem?_eq_some_iff.1 z2).1).trans z2
      have kc3 := (hb23.cell (World.block_lt_of_cell? _ _ kc)).trans kc
      have ltD := (Array.getElem?_eq_some_iff.1 hK2).1
      have hK2' := (hb23.block D ltD).trans hK2
      have hcell2 := cell_block v2 0
      have hfr2 := frozen_block v2 0
      simp at hcell2
      have sW := bwW.size
      have sW2 := hb2.size
      have hD3' : W2.heap.size ≤ D3 := hD3
      have hbW3 : Below w.heap.size w W3 := (bwW.trans (hb2.mono sW)).trans (hb23.mono (by omega))
      gi_wp2
      exact told_end rfl v2 hK2' hK3 (by omega) hbW3 (by omega) (by omega) (by omega)

theorem told_ok : ToldOK := fun B0 B1 w tb rb m r s hT hR hS hm h1 h2 => callsIn_wide.1 (told_in B0 B1 w tb rb m r s hT hR hS hm h1 h2)
end Go.Proofs.Ytopepkcmpogdoaa
