/- The walk of (*shape.Tree).follow. -/
import Derived.Test.YtopepkcmpogdoaaTreeG
import Derived.Test.YtopepkcmpogdoaaLin
namespace Go.Proofs.Ytopepkcmpogdoaa
open Go.RowKit
set_option maxHeartbeats 400000
set_option maxRecDepth 100000

theorem follow_hit {B0 : Nat} {w : World} {b : Nat} {T : List (List Sl)} {f : WK → Option Int} {vL : Value} {mw : Nat} {sh : List (Value × Nat)} (h : TreeAt B0 w b T f vL mw sh) (x : WK) (hx : okW x) (n : Int) (hn : f x = some n) (vs : Value) :
    Calls Try.prog 28 #[.pointer (some ⟨b, 0, none⟩), encW x, vs] w fun e w' => e = .returned (.tuple #[.int .i64 n, .int .i64 0]) ∧ Below w.heap.size w w' := by
  have Hn := Lib.hid hn
  clear hn
  obtain ⟨x1, x2, x3, x4, x5⟩ := x
  simp only [encW]
  go_enter Try.func28, Try.ntmps28
  go_wp2_with fail
  generalize hW : w.alloc _ = W1
  have hb1 : Below w.heap.size w W1 := by rw [← hW]; exact (Below.refl _ _).alloc (Nat.le_refl _) _
  have hc := cell_block (hW ▸ heap_new' (w := w) rfl)
  have e0 := hc 0
  have e1 := hc 1
  have e2 := hc 2
  have e3 := hc 3
  have e4 := hc 4
  simp at e0 e1 e2 e3 e4
  clear hc hW
  have h1 := h.of_blocks (w' := W1) fun k hk _ => hb1.block k hk
  have c2 := h1.c2
  have hl := (h1.ways.of_block (w' := W1.drew) rfl).look WayE hx
  rw [Hn.out] at hl
  simp only [encW] at hl
  clear h1 h
  refine wp_region_lin (fun w' => w' = W1.drew) [10] (.block 0 (.block 1 (.block 2 (.block 3 (.block 4 (.block 5 (.block 6 (.block 7 (.block 8 (.block 9 (.loop (.block 10 (.skip))))))))))))) (by kernel_rfl) (by kernel_rfl) (by kernel_rfl) (by kernel_rfl) (by kernel_rfl) rfl ?_
  repeat
    (refine lin_light (A1 := ?_) rfl rfl rfl rfl rfl (fun w' hS K hK => ?_) ?_ ?_
     rotate_left
     · obtain rfl := hS; go_step; exact hK
     · rfl)
  try refine lin_late ?_
  repeat
    (refine lin_light (A1 := ?_) rfl rfl rfl rfl rfl (fun w' hS K hK => ?_) ?_ ?_
     rotate_left
     · clear hS; go_step; exact hK
     · rfl)
  refine lin_end ?_
  go_wp2_with fail
  go_ret2
  exact ⟨rfl, hb1.drew⟩

theorem Try.info_shape : (Try.prog.info? 75).map (fun i => (i.zero, i.size, i.bytes)) = some (some (.agg #[.slice none 0 0, .map none]), 2, 32) := by kernel_rfl

theorem okPlain {k : KK} (h : okK k) : okK (plainK k) := by
  obtain ⟨h1, h2⟩ := h
  unfold plainK plainName plainSym okK
  refine ⟨?_, ?_⟩
  · simp only
    split
    · simp [maxLen]
    · rw [evenB_size]; omega
  · simp only
    split
    · exact h2
    · decide

theorem follow_miss {B0 : Nat} {w : World} {b : Nat} {T : List (List Sl)} {f : WK → Option Int} {vL : Value} {mw : Nat} {sh : List (Value × Nat)} (h : TreeAt B0 w b T f vL mw sh) (x : WK) (hx : okW x) (hn : f x = none) (hT : T.length ≤ 1000)
    (A : Option Addr) (nl c : Nat) (ls : List Sl) (hvs : w.ownsRow B0 83 3 (.slice A nl c) nl (slotCells ls)) (hnl : ls.length = nl) (hls : nl ≤ 128) (hok : ∀ s ∈ ls, okSl s) (hB : B0 ≤ w.heap.size) :
    Calls Try.prog 28 #[.pointer (some ⟨b, 0, none⟩), encW x, .slice A nl c] w fun e w' => e = .returned (.tuple #[.int .i64 T.length, .int .i64 0]) ∧ IsTree B0 w' b (T ++ [ls]) (updK f x T.length) ∧ Fr B0 touchT w w' ∧
      ∀ i, i < w.heap.size → i ≠ b → i ≠ mw → vL.ownBlock ≠ some i → w'.heap[i]? = w.heap[i]? := by
  have hmm := @run_makeMap Try.prog
  obtain ⟨i0, hi0, hz0, hz1, hz2⟩ := info_parts Try.info_shape
  have Hn := Lib.hid hn
  have Hnl := Lib.hid hnl
  clear hn hnl
  obtain ⟨x1, x2, x3, x4, x5⟩ := x
  simp only [encW]
  go_enter Try.func28, Try.ntmps28
  go_wp2_with fail
  generalize hW : w.alloc _ = W1
  have hb1 : Below w.heap.size w W1 := by rw [← hW]; exact (Below.refl _ _).alloc (Nat.le_refl _) _
  have hs1 : W1.heap.size = w.heap.size + 1 := by rw [← hW]; simp
  have hbx := hW ▸ heap_new' (w := w) (o := .cells #[.int .i64 x1, .bool x2, .string x3, .int .i64 x4, .int .i64 x5] 81) rfl
  have hc := cell_block hbx
  have e0 := hc 0
  have e1 := hc 1
  have e2 := hc 2
  have e3 := hc 3
  have e4 := hc 4
  simp at e0 e1 e2 e3 e4
  clear hc hW
  have h1 := h.of_blocks (w' := W1) fun k hk _ => hb1.block k hk
  have hv1 := ownsRow_of_blocks (w' := W1) hvs fun k hk => hb1.block k (hvs.lt k hk).2
  clear h hvs
  obtain ⟨g, cap, rfl, hg1, hg2⟩ := h1.form
  have c1 := h1.c1
  have c2 := h1.c2
  have hl := (h1.ways.of_block (w' := W1.drew) rfl).look WayE hx
  rw [Hn.out] at hl
  simp only [encW] at hl
  have HX := Lib.hid hs1
  clear hs1
  refine wp_region_lin (fun w' => w' = W1.drew) [10] (.block 0 (.block 1 (.block 2 (.block 3 (.block 4 (.block 5 (.block 6 (.block 7 (.block 8 (.block 9 (.loop (.block 10 (.skip))))))))))))) (by kernel_rfl) (by kernel_rfl) (by kernel_rfl) (by kernel_rfl) (by kernel_rfl) rfl ?_
  repeat
    (refine lin_light (A1 := ?_) rfl rfl rfl rfl rfl (fun w' hS K hK => ?_) ?_ ?_
     rotate_left
     · obtain rfl := hS; go_step; exact hK
     · rfl)
  try refine lin_late ?_
  repeat
    (refine lin_light (A1 := ?_) rfl rfl rfl rfl rfl (fun w' hS K hK => ?_) ?_ ?_
     rotate_left
     · clear hS; go_step; exact hK
     · rfl)
  refine lin_end ?_
  clear hl
  have hT' : decide ((100000 : Int) ≤ (T.length : Int)) = false := by simp; omega
  have hT'' : ((T.length : Int) ≥ 100000) = False := by simp; omega
  have HT := Lib.hid hT
  clear hT
  go_wp2_with fail
  generalize hW2 : ((W1.alloc (Obj.map #[] 0)).alloc _).drew = W2
  have hs2 : W2.heap.size = W1.heap.size + 2 := by rw [← hW2]; simp
  have hb2 : Below W1.heap.size W1 W2 := by rw [← hW2]; exact (((Below.refl _ _).alloc (Nat.le_refl _) _).alloc (by simp) _).drew
  have hm2 : MapV Try.prog 30 3 encK okK W2 W1.heap.size 0 (fun _ => none) := by
    rw [← hW2]
    exact (MapV.made W1 encK okK).of_block (Below.heap_alloc _ _ _ (by simp))
  have hx2 : W2.heap[W1.heap.size + 1]? = some (.cells #[.slice A nl c, .map (some W1.heap.size)] 75 (0, 0)) := by
    rw [← hW2]
    exact heap_new' (by simp)
  clear hW2
  have h2 := h1.of_blocks (w' := W2) fun k hk _ => hb2.block k hk
  have hv2 := ownsRow_of_blocks (w' := W2) hv1 fun k hk => hb2.block k (hv1.lt k hk).2
  have hbx2 := (hb2.block _ (Array.getElem?_eq_some_iff.1 hbx).1).trans hbx
  have H1 := Lib.hid h1
  clear h1 hv1 hbx c1 c2 e0 e1 e2 e3 e4 hT' hT''
  have HS2 := Lib.hid hs2
  have HX2 := Lib.hid hx2
  have HBX := Lib.hid hbx2
  have hW12 : W1.heap.size + 2 ≤ W2.heap.size := by omega
  clear hs2 hx2 hbx2
  have hcx0 : W2.cell? ⟨W1.heap.size + 1, 1, none⟩ = some (.map (some W1.heap.size)) := by rw [cell_block HX2.out]; rfl
  go_loopw [35] (fun i wr => ∃ k : Nat, k ≤ nl ∧ i = .int .i64 k ∧ MapV Try.prog 30 3 encK okK wr W1.heap.size k (atFn (ls.take k)) ∧ W2.grownBy wr (some W1.heap.size))
    (fun i _ => nl - (intOf i).toNat)
  case atStart => exact ⟨0, Nat.zero_le _, rfl, hm2, World.grownBy.refl _ _⟩
  case round =>
    obtain ⟨k, hk, rfl, hm, hgr⟩ := hrel
    by_cases hlt : k < nl
    · have hkl : k < ls.length := by have := Hnl.out; omega
      obtain ⟨s, hks⟩ : ∃ s, ls[k]? = some s := ⟨ls[k], List.getElem?_eq_getElem hkl⟩
      have hss := hok s (List.mem_of_getElem? hks)
      obtain ⟨s1, s2, s3⟩ := s
      obtain ⟨q0, q1, q2⟩ := slotCells_at ls k _ hks
      obtain ⟨gs, cs, hA, _, hgs⟩ := hv2.form (by omega)
      have hAA : A = some ⟨gs, 0, none⟩ := by injection hA
      subst hAA
      have hne : (some gs) ≠ some W1.heap.size := by
        intro e
        injection e with e
        obtain ⟨cs', hcs'⟩ := own_block hv2 gs rfl
        obtain ⟨es, cl, hmb⟩ := map_of_MapV hm2
        rw [e, hmb] at hcs'
        cases hcs'
      have r0 := hgr.cell (hv2.cells (g := gs) rfl _ _ q0) (by rw [add_block]; exact hne)
      have r1 := hgr.cell (hv2.cells (g := gs) rfl _ _ q1) (by rw [add_block]; exact hne)
      have r2 := hgr.cell (hv2.cells (g := gs) rfl _ _ q2) (by rw [add_block]; exact hne)
      simp only [Addr.add_lit, Nat.zero_add] at r0 r1 r2
      have hcx := hgr.cell hcx0 (by simp)
      have HK := Lib.hid hks
      clear hks q0 q1 q2 hcx0 hne
      go_wp2_with fail
      generalize hW3 : wr.alloc _ = W3
      have hs3 : W3.heap.size = wr.heap.size + 1 := by rw [← hW3]; simp
      have hb3 : Below wr.heap.size wr W3 := by rw [← hW3]; exact (Below.refl _ _).alloc (Nat.le_refl _) _
      have hc3 := cell_block (hW3 ▸ heap_new' (w := wr) (o := .cells #[.string s1, .int .i64 s2, .int .i64 s3] 83) rfl)
      have d0 := hc3 0
      have d1 := hc3 1
      simp at d0 d1
      have d2 : W3.cell? ⟨W1.heap.size + 1, 1, none⟩ = some (.map (some W1.heap.size)) := (hb3.cell (World.block_lt_of_cell? _ _ hcx)).trans hcx
      have hm3 := hm.below hb3 hm.lt
      have HS3 := Lib.hid hs3
      have HS1 := Lib.hid hss
      clear hc3 hW3 r0 r1 r2 hcx hs3 hm hss
      refine wp_region_lin (fun w' => w'.cell? ⟨W1.heap.size + 1, 1, none⟩ = some (.map (some W1.heap.size)) ∧ w'.cell? ⟨wr.heap.size, 0, none⟩ = some (.string s1) ∧ w'.cell? ⟨wr.heap.size, 1, none⟩ = some (.int .i64 s2)) [6] (.block 0 (.block 1 (.block 2 (.block 3 (.block 5 (.scope (.seq (.label 4) (.loop (.scope (.seq (.label 6) (.skip))))))))))) (by kernel_rfl) (by kernel_rfl) (by kernel_rfl) (by kernel_rfl) (by kernel_rfl) ⟨d2, d0, d1⟩ ?_
      repeat
        (refine lin_light (A1 := ?_) rfl rfl rfl rfl rfl (fun w' hS K hK => ?_) ?_ ?_
         rotate_left
         · obtain ⟨_, _, _⟩ := hS; go_step; exact hK
         · rfl)
      refine lin_group ?_
      refine lin_heavy rfl rfl (fun K hK => ?_)
      go_step
      refine (plain_any s1 s2 _ HS1.out.1).mono ?_
      rintro e w4 ⟨rfl, hb4⟩
      simp only
      refine hK.out _ _ ⟨(hb4.cell (World.block_lt_of_cell? _ _ d2)).trans d2, (hb4.cell (World.block_lt_of_cell? _ _ d0)).trans d0, (hb4.cell (World.block_lt_of_cell? _ _ d1)).trans d1⟩ ?_
      clear hK K
      have hm4 := hm3.below (below_undrew hb4) hm3.lt
      try refine lin_late ?_
      have f2 := (hb4.cell (World.block_lt_of_cell? _ _ d2)).trans d2
      have f0 := (hb4.cell (World.block_lt_of_cell? _ _ d0)).trans d0
      have f1 := (hb4.cell (World.block_lt_of_cell? _ _ d1)).trans d1
      have hmlt : W1.heap.size < wr.heap.size := by have := hgr.size; omega
      refine lin_group ?_
      refine lin_heavy rfl rfl (fun K hK => ?_)
      refine wp_mapUpdate_V (.tmp 41) (.tmp 44) (.tmp 45) rfl KeyE W1.heap.size k (atFn (ls.take k)) rfl hm4 (by unfold maxLen; omega) (plainK (s1, s2)) rfl (okPlain ⟨HS1.out.1, HS1.out.2.1⟩) k rfl (WalkArith.wf_i64 (by omega)) ?_
      intro w5 hm5 hg5
      refine hK.out _ _ trivial ?_
      clear hK K
      simp only [Act.put]
      refine lin_end ?_
      clear f2 f0 f1 d2 d0 d1 hm4
      go_wp2_with fail
      go_roundw
      case rel =>
        refine ⟨k + 1, by omega, by go_num, ?_, ?_⟩
        · refine hm5.congr fun y _ => ?_
          rw [List.take_add_one, HK.out]
          simp only [Option.toList]
          rw [atFn_snoc]
          have el : (ls.take k).length = k := by rw [List.length_take]; omega
          rw [el]
          rfl
        · refine grownBy_trans (grownBy_trans hgr ?_) hg5
          have hb34 : Below wr.heap.size wr _ := hb3.trans ((below_undrew hb4).mono hb3.size)
          exact grownBy_of_below hb34 _
      case measure => simp [intOf]; omega
    · have e : k = nl := by omega
      subst e
      rw [List.take_of_length_le (by have := Hnl.out; omega)] at hm
      have h3 := H1.out.of_blocks (w' := wr) fun k hk _ => (hgr.block k (by omega) (by intro e; injection e with e; omega)).trans (hb2.block k hk)
      have hv3 := hv2.kept hgr (by
        cases hA : A with
        | none => exact .inl rfl
        | some ad =>
          refine .inr ?_
          subst hA
          intro e
          obtain ⟨cs', hcs'⟩ := own_block hv2 ad.block rfl
          obtain ⟨es, cl, hmb⟩ := map_of_MapV hm2
          rw [show ad.block = W1.heap.size from by injection e, hmb] at hcs'
          cases hcs')
      have hx3 := (hgr.block (W1.heap.size + 1) (by omega) (by intro e; injection e with e; omega)).trans HX2.out
      have hbx3 := (hgr.block w.heap.size (Array.getElem?_eq_some_iff.1 HBX.out).1 (by have := HX.out; intro e; injection e with e; omega)).trans HBX.out
      have c1 := h3.c1
      have cx0 := cell_block hx3 0
      have cx1 := cell_block hx3 1
      simp at cx0 cx1
      have HX3 := Lib.hid hx3
      have HBX3 := Lib.hid hbx3
      clear hx3 hbx3 hcx0
      go_wp2_with fail
      refine wp_region_lin (fun w' => w'.cell? ⟨b, 1, none⟩ = some (.slice (some ⟨g, 0, none⟩) T.length cap) ∧ w'.cell? ⟨W1.heap.size + 1, 0, none⟩ = some (.slice A k c) ∧ w'.cell? ⟨W1.heap.size + 1, 1, none⟩ = some (.map (some W1.heap.size))) [8, 9, 10] (.block 0 (.block 1 (.block 2 (.block 3 (.block 4 (.block 5 (.scope (.seq (.label 6) (.scope (.seq (.label 7) (.loop (.block 8 (.block 9 (.scope (.seq (.label 10) (.skip)))))))))))))))) (by kernel_rfl) (by kernel_rfl) (by kernel_rfl) (by kernel_rfl) (by kernel_rfl) ⟨c1, cx0, cx1⟩ ?_
      repeat
        (refine lin_light (A1 := ?_) rfl rfl rfl rfl rfl (fun w' hS K hK => ?_) ?_ ?_
         rotate_left
         · obtain ⟨_, _, _⟩ := hS; go_step; exact hK
         · rfl)
      refine lin_group ?_
      refine lin_heavy rfl rfl (fun K hK => ?_)
      go_step
      refine hK.out _ _ ⟨cell_alloc' c1 _, cell_alloc' cx0 _, cell_alloc' cx1 _⟩ ?_
      clear hK K
      have hblt : b < wr.heap.size := World.block_lt_of_cell? _ _ c1
      have hbg : some b ≠ some g := by
        intro e
        obtain ⟨cs', hcs'⟩ := own_block h3.row g rfl
        exact cells_ne h3.cells hcs' (by decide) (by injection e)
      have hTl := HT.out
      have HH3 := Lib.hid h3
      have hrow := h3.row
      have hb13 := h3.baseB
      clear h3
      refine lin_group ?_
      refine lin_heavy rfl rfl (fun K hK => ?_)
      refine wp_append_lies _ _ _ _ rfl B0 75 i0 _ 2 32 Try.underlying58 hi0 hz0 hz1 hz2 rfl (by omega) (.slice (some ⟨g, 0, none⟩) T.length cap) T.length _ rfl ((hrow.alloc _).drew) ⟨wr.heap.size, 0, none⟩ 1 1 [.slice A k c, .map (some W1.heap.size)] rfl rfl
        (World.news_of_block (cs := #[.slice A k c, .map (some W1.heap.size)]) (t := 75) (fr := (0, 0)) (heap_alloc_new wr _)) (by simp [Value.oneCell']) (by omega) (by unfold maxLen; omega) (by omega) (by have := hgr.size; have := hb2.size; have := hb1.size; simp; omega) (wr.heap.size + 1) (by simp) ?_
      intro g' cap' w5 hrow5 hg5 hat hlt5
      have hg5' : wr.grownBy w5 (some g) := grownBy_trans (grownBy_of_below ((Below.refl _ _).alloc (Nat.le_refl _) _).drew _) hg5
      refine hK.out _ _ ⟨hg5'.cell c1 hbg, hg5'.cell cx0 (by simp; omega), hg5'.cell cx1 (by simp; omega)⟩ ?_
      clear hK K hrow hg5
      simp only [Act.put, List.setIfInBounds_toArray, List.set_cons_zero, List.set_cons_succ]
      have c15 := hg5'.cell c1 hbg
      have fr5 := frozen_block ((hg5'.block b hblt hbg).trans HH3.out.cells) 1
      try refine lin_late ?_
      repeat
        (refine lin_light (A1 := ?_) rfl rfl rfl rfl rfl (fun w' hS K hK => ?_) ?_ ?_
         rotate_left
         · clear hS; go_step; exact hK
         · rfl)
      refine lin_group ?_
      refine lin_heavy rfl rfl (fun K hK => ?_)
      go_step
      refine hK.out _ _ trivial ?_
      clear hK K c15 fr5
      refine lin_end ?_
      go_wp2_with fail
      generalize hW6 : w5.setCell _ _ = W6
      have hT1 : T.length + 1 < maxLen := by unfold maxLen; omega
      have d1 : W6.cell? ⟨b, 1, none⟩ = some (.slice (some ⟨g', 0, none⟩) (T.length + 1) cap') := by
        rw [← hW6, cell_block (setCell_block ((hg5'.block b hblt hbg).trans HH3.out.cells) _)]
        rfl
      have d2 : W6.cell? ⟨b, 2, none⟩ = some (.map (some mw)) := by
        rw [← hW6, cell_block (setCell_block ((hg5'.block b hblt hbg).trans HH3.out.cells) _)]
        rfl
      have hwlt : w.heap.size < wr.heap.size := (Array.getElem?_eq_some_iff.1 HBX3.out).1
      have hwg : w.heap.size ≠ g := by
        intro e
        obtain ⟨cs', hcs'⟩ := own_block HH3.out.row g rfl
        exact cells_ne HBX3.out hcs' (by decide) e
      have hwb : w.heap.size ≠ b := cells_ne HBX3.out HH3.out.cells (by decide)
      have hbx6 : W6.heap[w.heap.size]? = some (.cells #[.int .i64 x1, .bool x2, .string x3, .int .i64 x4, .int .i64 x5] 81) := by
        rw [← hW6, Below.heap_setCell _ _ _ _ hwb]
        exact (hg5'.block w.heap.size hwlt (by intro e; injection e with e; exact hwg e)).trans HBX3.out
      have hc6 := cell_block hbx6
      have e0 := hc6 0
      have e1 := hc6 1
      have e2 := hc6 2
      have e3 := hc6 3
      have e4 := hc6 4
      simp at e0 e1 e2 e3 e4
      have hmw6 : MapV Try.prog 81 3 encW okW W6 mw T.length f := HH3.out.ways.of_block (by
        obtain ⟨es, cl, hm'⟩ := map_of_MapV HH3.out.ways
        rw [← hW6, Below.heap_setCell _ _ _ _ (map_ne HH3.out.cells hm').symm]
        refine hg5'.block mw HH3.out.ways.lt ?_
        intro e
        obtain ⟨cs', hcs'⟩ := own_block HH3.out.row mw e.symm
        exact map_ne hcs' hm' rfl)
      have HW6 := Lib.hid hW6
      clear hW6 hc6 hbx6 cx0 cx1 c1
      refine wp_region_lin (fun w' => w' = W6.drew) [11] (.block 0 (.block 1 (.block 2 (.block 3 (.block 4 (.block 5 (.block 6 (.block 7 (.block 8 (.block 9 (.block 10 (.loop (.scope (.seq (.label 11) (.skip))))))))))))))) (by kernel_rfl) (by kernel_rfl) (by kernel_rfl) (by kernel_rfl) (by kernel_rfl) rfl ?_
      repeat
        (refine lin_light (A1 := ?_) rfl rfl rfl rfl rfl (fun w' hS K hK => ?_) ?_ ?_
         rotate_left
         · obtain rfl := hS; go_step; exact hK
         · rfl)
      try refine lin_late ?_
      refine lin_group ?_
      refine lin_heavy rfl rfl (fun K hK => ?_)
      refine wp_mapUpdate_V (.tmp 60) (.tmp 61) (.tmp 67) rfl WayE mw T.length f rfl (hmw6.of_block rfl) (by omega) (x1, x2, x3, x4, x5) rfl hx T.length (by go_num) (WalkArith.wf_i64 (by omega)) ?_
      intro w7 hm7 hg7
      refine hK.out _ _ trivial ?_
      clear hK K
      simp only [Act.put]
      refine lin_end ?_
      have c17 : w7.cell? ⟨b, 1, none⟩ = some (.slice (some ⟨g', 0, none⟩) (T.length + 1) cap') := by
        refine hg7.cell d1 ?_
        obtain ⟨es, cl, hm'⟩ := map_of_MapV HH3.out.ways
        intro e
        injection e with e
        exact map_ne HH3.out.cells hm' e
      clear e0 e1 e2 e3 e4 d1 d2
      go_wp2_with fail
      go_ret2
      have hlk := Hnl.out
      subst hlk
      have hmw' : W1.heap.size ≠ mw := by have := H1.out.ways.lt; omega
      refine ⟨by go_num, ⟨_, mw, sh ++ [(_, W1.heap.size)], TreeAt.grow (w5 := w5) HH3.out hv3 hm (by have := hb1.size; omega) hmw' hls hok hg5' hrow5 ?_ hm7⟩, ?_, ?_⟩
      · rw [HW6.out]
        exact ⟨hg7.os, hg7.tape, hg7.output, hg7.size, hg7.block⟩
      · have hold : ∀ {k : Nat} {o' : Obj}, W1.heap[k]? = some o' → touchT o' → ∀ o, w.heap[k]? = some o → touchT o := fun {k o'} h1 h2 o ho => by
          rw [hb1.block k (Array.getElem?_eq_some_iff.1 ho).1, ho] at h1
          injection h1 with h1
          subst h1
          exact h2
        have hsz : ∀ {k : Nat}, w.heap.size ≤ k → ∀ o, w.heap[k]? = some o → touchT o := fun {k} h1 o ho => absurd (Array.getElem?_eq_some_iff.1 ho).1 (by omega)
        have s1 := hb1.size
        have s2 := hb2.size
        have s3 := hgr.size
        have s5 := hg5'.size
        have F1 : Fr B0 touchT w W2 := (Fr.of_below hb1 hB).then_below hb2 (by omega)
        have F2 : Fr B0 touchT w wr := F1.grown hgr (by omega) (fun k hk => by cases hk; exact ⟨by omega, hsz s1⟩)
        have F3 : Fr B0 touchT w w5 := F2.grown hg5' (by omega) (fun k hk => by
          cases hk
          obtain ⟨cs', hcs'⟩ := own_block H1.out.row g rfl
          exact ⟨hg1, hold hcs' (Or.inr rfl)⟩)
        have F4 : Fr B0 touchT w W6 := by
          rw [← HW6.out]
          exact F3.setCell (by omega) HH3.out.baseB (hold (o' := .cells #[.int .i64 1, .slice (some ⟨g, 0, none⟩) T.length cap, .map (some mw)] 61 (0, 0)) H1.out.cells (Or.inl rfl)) _
        have s6 := F4.size
        refine F4.drew.grown hg7 (by simp; omega) (fun k hk => ?_)
        cases hk
        obtain ⟨es, cl, hm'⟩ := map_of_MapV H1.out.ways
        exact ⟨H1.out.baseM, hold hm' trivial⟩
      · intro i hi h1 h2 h3
        have s1 := hb1.size
        have s2 := hb2.size
        have s3 := hgr.size
        have s5 := hg5'.size
        have e6 : W6.heap.size = w5.heap.size := by rw [← HW6.out]; simp [World.setCell]
        rw [hg7.block i (by simp [e6]; omega) (by simpa using h2), show W6.drew.heap = W6.heap from rfl, ← HW6.out, Below.heap_setCell _ _ _ _ h1,
          hg5'.block i (by omega) (by intro e; exact h3 e.symm), hgr.block i (by omega) (by intro e; injection e with e; omega), hb2.block i (by omega), hb1.block i hi]
end Go.Proofs.Ytopepkcmpogdoaa
