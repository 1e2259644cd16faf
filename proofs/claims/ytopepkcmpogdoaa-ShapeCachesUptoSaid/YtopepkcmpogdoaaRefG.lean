/- The document's tree grown: the walk of (*lintelref14.Tree).lay. -/
import Derived.Test.YtopepkcmpogdoaaRefD
import Derived.Deep.Upon
namespace Go.Proofs.Ytopepkcmpogdoaa
open Go.RowKit
set_option maxHeartbeats 400000
set_option maxRecDepth 100000

theorem row_past {w w3 : World} {b n n' size size' : Nat} {B0 B1 : Nat} {e e' tt : TypeId} {fr : Nat × Nat} {v vL : Value} {xs ys : List Value} {cs : Array Value} (h : w.ownsRow B0 e size v n xs) (hL : w.ownsRow B1 e' size' vL n' ys) (hne : e ≠ e')
    (hg : w.grownBy w3 vL.ownBlock) (hb : w.heap[b]? = some (.cells cs tt fr)) (hne2 : e ≠ tt) (i : Nat) (u : Value) : (w3.setCell ⟨b, i, none⟩ u).ownsRow B0 e size v n xs := by
  refine ownsRow_of_blocks h fun k hk => ?_
  obtain ⟨cs', hcs'⟩ := own_block h k hk
  rw [Below.heap_setCell _ _ _ _ (cells_ne hcs' hb hne2)]
  refine hg.block k (h.lt k hk).2 fun e1 => ?_
  obtain ⟨cs2, hcs2⟩ := own_block hL k e1.symm
  exact cells_ne hcs' hcs2 hne rfl

section
variable {B0 : Nat} {w w3 : World} {b : Nat} {T : List (List Sl)} {W : List Wy} {vL vW v' v : Value} {vs : List Value} {l : List Sl} {x : Wy}
theorem RefAt.growL (h : RefAt B0 w b T W vL vW vs) (hv : w.ownsRow B0 90 3 v l.length (slotCells l)) (hl : l.length ≤ 128) (hok : ∀ s ∈ l, s.1.size ≤ 1048576)
    (hg : w.grownBy w3 vL.ownBlock) (hrow : w3.ownsRow B0 88 1 v' (T.length + 1) (vs ++ [v])) : RefAt B0 (w3.setCell ⟨b, 0, none⟩ v') b (T ++ [l]) W v' vW (vs ++ [v]) := by
  have hbv : some b ≠ vL.ownBlock := by
    intro e
    obtain ⟨cs, hcs⟩ := own_block h.row b e.symm
    exact cells_ne h.cells hcs (by decide) rfl
  have hb3 := (hg.block b (Array.getElem?_eq_some_iff.1 h.cells).1 hbv).trans h.cells
  refine ⟨?_, h.baseB, ?_, fun i u l' hu hl' => ?_, row_past h.ways h.row (by decide) hg h.cells (by decide) _ _, h.wok, by simp⟩
  · rw [setCell_block hb3]
    rfl
  · rw [List.length_append]
    refine ownsRow_of_blocks hrow fun k hk => ?_
    obtain ⟨cs, hcs⟩ := own_block hrow k hk
    rw [Below.heap_setCell _ _ _ _ (cells_ne hcs hb3 (by decide))]
  · have hvl := h.vsl
    by_cases hi : i < T.length
    · rw [List.getElem?_append_left (by omega)] at hu
      rw [List.getElem?_append_left hi] at hl'
      obtain ⟨h1, h2⟩ := h.shapes i u l' hu hl'
      exact ⟨row_past h1 h.row (by decide) hg h.cells (by decide) _ _, h2⟩
    · rw [List.getElem?_append_right (by omega), hvl] at hu
      rw [List.getElem?_append_right (by omega)] at hl'
      have hi0 : i - T.length = 0 := by
        have := (List.getElem?_eq_some_iff.1 hl').1
        simp at this
        omega
      rw [hi0] at hu hl'
      obtain rfl : v = u := by simpa using hu
      obtain rfl : l = l' := by simpa using hl'
      exact ⟨row_past hv h.row (by decide) hg h.cells (by decide) _ _, hl, hok⟩
theorem RefAt.growW (h : RefAt B0 w b T W vL vW vs) (hx : x.2.2.1.1.size ≤ 1048576)
    (hg : w.grownBy w3 vW.ownBlock) (hrow : w3.ownsRow B0 100 6 v' (W.length + 1) (wayCells W ++ wyCells x)) : RefAt B0 (w3.setCell ⟨b, 1, none⟩ v') b T (W ++ [x]) vL v' vs := by
  have hbv : some b ≠ vW.ownBlock := by
    intro e
    obtain ⟨cs, hcs⟩ := own_block h.ways b e.symm
    exact cells_ne h.cells hcs (by decide) rfl
  have hb3 := (hg.block b (Array.getElem?_eq_some_iff.1 h.cells).1 hbv).trans h.cells
  refine ⟨?_, h.baseB, row_past h.row h.ways (by decide) hg h.cells (by decide) _ _, fun i u l' hu hl' => ?_, ?_, ?_, h.one⟩
  · rw [setCell_block hb3]
    rfl
  · obtain ⟨h1, h2⟩ := h.shapes i u l' hu hl'
    exact ⟨row_past h1 h.ways (by decide) hg h.cells (by decide) _ _, h2⟩
  · rw [wayCells_append, List.length_append, show wayCells [x] = wyCells x from by simp [wayCells]]
    refine ownsRow_of_blocks hrow fun k hk => ?_
    obtain ⟨cs, hcs⟩ := own_block hrow k hk
    rw [Below.heap_setCell _ _ _ _ (cells_ne hcs hb3 (by decide))]
  · intro y hy
    rcases List.mem_append.1 hy with h1 | h1
    · exact h.wok y h1
    · obtain rfl : y = x := by simpa using h1
      exact hx
end

theorem Try.info_sl : (Try.prog.info? 88).map (fun i => (i.zero, i.size, i.bytes)) = some (some (.slice none 0 0), 1, 24) := by kernel_rfl
theorem Try.info_rslot : (Try.prog.info? 90).map (fun i => (i.zero, i.size, i.bytes)) = some (some (.agg #[.string ⟨#[]⟩, .int .i64 0, .int .i64 0]), 3, 32) := by kernel_rfl
theorem Try.info_wy : (Try.prog.info? 100).map (fun i => (i.zero, i.size, i.bytes)) = some (some (.agg #[.int .i64 0, .bool false, .string ⟨#[]⟩, .int .i64 0, .int .i64 0, .int .i64 0]), 6, 56) := by kernel_rfl

theorem lay_ref {B0 : Nat} {w : World} {b : Nat} {T : List (List Sl)} {W : List Wy} {vL vW : Value} {vs : List Value} (h : RefAt B0 w b T W vL vW vs) (hTl : T.length ≤ 1000) (hWl : W.length ≤ 1000) (s : Int) (c : Bool) (k : KK) (fl : Int) (hk : k.1.size ≤ 1048576)
    (A : Option Addr) (nl cp : Nat) (ls : List Sl) (hvs : w.ownsRow B0 90 3 (.slice A nl cp) nl (slotCells ls)) (hnl : ls.length = nl) (hls : nl ≤ 128) (hok : ∀ s ∈ ls, s.1.size ≤ 1048576) (hB : B0 ≤ w.heap.size) :
    Calls Try.prog 32 #[.pointer (some ⟨b, 0, none⟩), .int .i64 s, .bool c, .agg #[.string k.1, .int .i64 k.2, .int .i64 fl], .slice A nl cp] w fun e w' =>
      e = .returned (.tuple #[.int .i64 T.length, .int .i64 0]) ∧ IsRef B0 w' b (T ++ [ls]) (W ++ [(s, c, k, fl, (T.length : Int))]) ∧ Fr B0 touchR w w' := by
  obtain ⟨i0, hi0, hz0, hz1, hz2⟩ := info_parts Try.info_sl
  obtain ⟨i1, hi1, hy0, hy1, hy2⟩ := info_parts Try.info_wy
  have Hnl := Lib.hid hnl
  clear hnl
  obtain ⟨n, sy⟩ := k
  simp only at hk ⊢
  have hb1 : Below w.heap.size w (w.alloc (.cells #[.string n, .int .i64 sy, .int .i64 fl] 90)) := (Below.refl _ _).alloc (Nat.le_refl _) _
  have hs1 : (w.alloc (.cells #[.string n, .int .i64 sy, .int .i64 fl] 90)).heap.size = w.heap.size + 1 := by simp
  have hbx := heap_new' (w := w) (o := .cells #[.string n, .int .i64 sy, .int .i64 fl] 90) rfl
  have h1 := h.of_blocks (w' := w.alloc (.cells #[.string n, .int .i64 sy, .int .i64 fl] 90)) fun k hk _ => hb1.block k hk
  have hv1 := ownsRow_of_blocks (w' := w.alloc (.cells #[.string n, .int .i64 sy, .int .i64 fl] 90)) hvs fun k hk => hb1.block k (hvs.lt k hk).2
  clear h hvs
  obtain ⟨g, cap, rfl, hg1, hg2⟩ := h1.form
  obtain ⟨A2, c2, rfl, _, _, _⟩ := row_slice h1.ways
  have c0 := h1.c0
  have hT1 : ((T.length : Int) ≥ 100000) = False := by simp; omega
  have hT2 : decide ((100000 : Int) ≤ (T.length : Int)) = false := by simp; omega
  have hblt : b < (w.alloc (.cells #[.string n, .int .i64 sy, .int .i64 fl] 90)).heap.size := World.block_lt_of_cell? _ _ c0
  have hbg : some b ≠ some g := by
    intro e
    obtain ⟨cs', hcs'⟩ := own_block h1.row g rfl
    exact cells_ne h1.cells hcs' (by decide) (by injection e)
  have H1 := Lib.hid h1
  have HS1 := Lib.hid hs1
  have HB1 := Lib.hid hb1
  have HBX := Lib.hid hbx
  have HV1 := Lib.hid hv1
  have hrow1 := h1.row.alloc (.cells #[.slice A nl cp] 88)
  have hsz : B0 ≤ ((w.alloc (.cells #[.string n, .int .i64 sy, .int .i64 fl] 90)).alloc (.cells #[.slice A nl cp] 88)).heap.size := by simp; omega
  clear hs1 hb1 hbx hv1 h1
  go_enter Try.func32, Try.ntmps32
  go_wp2_with (at_builtin; refine wpList_append_lies _ rfl _ _ _ rfl B0 88 i0 _ 1 24 Try.underlying44 hi0 hz0 hz1 hz2 rfl (by omega) _ T.length vs rfl hrow1 ⟨w.heap.size + 1, 0, none⟩ 1 1 [.slice A nl cp] rfl rfl (World.news_of_block (cs := #[.slice A nl cp]) (t := 88) (fr := (0, 0)) (heap_new' (by simp))) (by simp [Value.oneCell']) (by omega) (by unfold maxLen; omega) (by omega) hsz (w.heap.size + 2) (by simp) ?_; intro g' cap' w3 hrow3 hg3 hat hlt3; have hg13 := grownBy_trans (grownBy_of_below ((Below.refl (w.alloc (.cells #[.string n, .int .i64 sy, .int .i64 fl] 90)).heap.size (w.alloc (.cells #[.string n, .int .i64 sy, .int .i64 fl] 90))).alloc (Nat.le_refl _) (.cells #[.slice A nl cp] 88)) (some g)) hg3; have cc0 := hg13.cell c0 hbg; have fr0 := frozen_block ((hg13.block b hblt hbg).trans H1.out.cells) 0; clear c0)
  clear hat hg3 hrow1 hsz hT1 hT2 cc0 fr0
  generalize hW4 : w3.setCell _ _ = W4
  have hnl := Hnl.out
  have h4 : RefAt B0 W4 b (T ++ [ls]) W (.slice (some ⟨g', 0, none⟩) (T.length + 1) cap') (.slice A2 W.length c2) (vs ++ [.slice A nl cp]) := by
    rw [← hW4]
    exact H1.out.growL (by rw [hnl]; exact HV1.out) (by omega) hok hg13 hrow3
  have hwb : w.heap.size ≠ b := cells_ne HBX.out H1.out.cells (by decide)
  have hwg : some w.heap.size ≠ some g := by
    intro e
    obtain ⟨cs', hcs'⟩ := own_block H1.out.row g rfl
    exact cells_ne HBX.out hcs' (by decide) (by injection e)
  have hbx4 : W4.heap[w.heap.size]? = some (.cells #[.string n, .int .i64 sy, .int .i64 fl] 90 (0, 0)) := by
    rw [← hW4, Below.heap_setCell _ _ _ _ hwb]
    exact (hg13.block _ (by rw [HS1.out]; omega) hwg).trans HBX.out
  have hsz4 : w.heap.size + 1 ≤ W4.heap.size := by
    rw [← hW4]
    have := hg13.size
    simp [World.setCell] at this ⊢
    omega
  have d0 := h4.c0
  have d1 := h4.c1
  have e0 := cell_block hbx4 0
  have e1 := cell_block hbx4 1
  have e2 := cell_block hbx4 2
  simp at e0 e1 e2
  have hways := h4.ways
  have H4 := Lib.hid h4
  have HW4 := Lib.hid hW4
  clear hnl hbx4 hwg hwb hW4 h4
  refine wp_region_lin (fun w' => w'.cell? ⟨b, 0, none⟩ = some (.slice (some ⟨g', 0, none⟩) (T.length + 1) cap') ∧ w'.cell? ⟨b, 1, none⟩ = some (.slice A2 W.length c2) ∧ w'.cell? ⟨w.heap.size, 0, none⟩ = some (.string n) ∧ w'.cell? ⟨w.heap.size, 1, none⟩ = some (.int .i64 sy) ∧ w'.cell? ⟨w.heap.size, 2, none⟩ = some (.int .i64 fl)) [17, 18, 19] (.block 0 (.block 1 (.block 2 (.block 3 (.block 4 (.block 5 (.block 6 (.block 7 (.block 8 (.block 9 (.block 10 (.block 11 (.block 12 (.block 13 (.block 14 (.scope (.seq (.label 15) (.scope (.seq (.label 16) (.loop (.block 17 (.block 18 (.scope (.seq (.label 19) (.skip))))))))))))))))))))))))) (by kernel_rfl) (by kernel_rfl) (by kernel_rfl) (by kernel_rfl) (by kernel_rfl) ⟨d0, d1, e0, e1, e2⟩ ?_
  repeat
    (refine lin_light (A1 := ?_) rfl rfl rfl rfl rfl (fun w' hS K hK => ?_) ?_ ?_
     rotate_left
     · obtain ⟨_, _, _, _, _⟩ := hS; go_step; exact hK
     · rfl)
  refine lin_group ?_
  refine lin_heavy rfl rfl (fun K hK => ?_)
  go_step
  refine hK.out _ _ ⟨cell_alloc' d0 _, cell_alloc' d1 _, cell_alloc' e0 _, cell_alloc' e1 _, cell_alloc' e2 _⟩ ?_
  clear hK K
  refine lin_group ?_
  refine lin_heavy rfl rfl (fun K hK => ?_)
  refine wp_append_lies _ _ _ _ rfl B0 100 i1 _ 6 56 Try.underlying45 hi1 hy0 hy1 hy2 rfl (by omega) (.slice A2 W.length c2) W.length _ rfl ((hways.alloc _).drew) ⟨W4.heap.size, 0, none⟩ 1 1 (wyCells (s, c, (n, sy), fl, (T.length : Int))) rfl rfl
    (World.news_of_block (cs := #[.int .i64 s, .bool c, .string n, .int .i64 sy, .int .i64 fl, .int .i64 T.length]) (t := 100) (fr := (0, 0)) (heap_alloc_new W4 _)) (by simp [wyCells, Value.oneCell']) (by omega) (by unfold maxLen; omega) (by omega) (by simp; omega) (W4.heap.size + 1) (by simp) ?_
  intro g5 cap5 w5 hrow5 hg5 hat5 hlt5
  have hg45 : W4.grownBy w5 (Value.slice A2 W.length c2).ownBlock := grownBy_trans (grownBy_of_below ((Below.refl _ _).alloc (Nat.le_refl _) _).drew _) hg5
  have hblk : ∀ {k : Nat} {cs : Array Value} {t : TypeId}, W4.heap[k]? = some (.cells cs t (0, 0)) → t ≠ 100 → w5.heap[k]? = some (.cells cs t (0, 0)) := fun {k cs t} hk hne => by
    refine (hg45.block k (Array.getElem?_eq_some_iff.1 hk).1 fun e => ?_).trans hk
    obtain ⟨cs', hcs'⟩ := own_block hways k e.symm
    exact cells_ne hk hcs' hne rfl
  have hb5 := hblk H4.out.cells (by decide)
  have hbx4 : W4.heap[w.heap.size]? = some (.cells #[.string n, .int .i64 sy, .int .i64 fl] 90 (0, 0)) := by
    have hwb : w.heap.size ≠ b := cells_ne HBX.out H1.out.cells (by decide)
    have hwg : some w.heap.size ≠ some g := by
      intro e
      obtain ⟨cs', hcs'⟩ := own_block H1.out.row g rfl
      exact cells_ne HBX.out hcs' (by decide) (by injection e)
    rw [← HW4.out, Below.heap_setCell _ _ _ _ hwb]
    exact (hg13.block _ (by rw [HS1.out]; omega) hwg).trans HBX.out
  have hx5 := hblk hbx4 (by decide)
  have q0 := cell_block hb5 0
  have q1 := cell_block hb5 1
  have q2 := cell_block hx5 0
  have q3 := cell_block hx5 1
  have q4 := cell_block hx5 2
  have fr5 := frozen_block hb5 1
  simp at q0 q1 q2 q3 q4
  refine hK.out _ _ ⟨q0, q1, q2, q3, q4⟩ ?_
  clear hK K d0 d1 e0 e1 e2
  simp only [Act.put, List.setIfInBounds_toArray, List.set_cons_zero, List.set_cons_succ]
  try refine lin_late ?_
  repeat
    (refine lin_light (A1 := ?_) rfl rfl rfl rfl rfl (fun w' hS K hK => ?_) ?_ ?_
     rotate_left
     · clear hS; go_step; exact hK
     · rfl)
  refine lin_group ?_
  refine lin_heavy rfl rfl (fun K hK => ?_)
  go_step
  refine hK.out _ _ trivial ?_
  clear hK K
  refine lin_end ?_
  have h6 := H4.out.growW (x := (s, c, (n, sy), fl, (T.length : Int))) hk hg45 hrow5
  have z0 := h6.c0
  go_wp2_with fail
  go_ret2
  refine ⟨rfl, ⟨_, _, _, h6⟩, ?_⟩
  have sz1 := HS1.out
  have F1 : Fr B0 touchR w (w.alloc (.cells #[.string n, .int .i64 sy, .int .i64 fl] 90)) := Fr.of_below HB1.out hB
  have hold : ∀ {k : Nat} {cs : Array Value} {t : TypeId}, (w.alloc (.cells #[.string n, .int .i64 sy, .int .i64 fl] 90)).heap[k]? = some (.cells cs t (0, 0)) → touchR (.cells cs t (0, 0)) → ∀ o, w.heap[k]? = some o → touchR o := fun {k cs t} h1 h2 o ho => by
    rw [HB1.out.block k (Array.getElem?_eq_some_iff.1 ho).1, ho] at h1
    injection h1 with h1
    subst h1
    exact h2
  have F2 : Fr B0 touchR w w3 := F1.grown hg13 (by omega) (fun k hk => by
    cases hk
    obtain ⟨cs', hcs'⟩ := own_block H1.out.row g rfl
    exact ⟨hg1, hold hcs' (.inr (.inl rfl))⟩)
  have s3 := hg13.size
  have F3 : Fr B0 touchR w W4 := by
    rw [← HW4.out]
    exact F2.setCell (by omega) H1.out.baseB (hold H1.out.cells (.inl rfl)) _
  have F4 : Fr B0 touchR w w5 := F3.grown hg45 (by omega) (fun k hk => by
    obtain ⟨cs', hcs'⟩ := own_block H1.out.ways k hk
    exact ⟨(H1.out.ways.lt k hk).1, hold hcs' (.inr (.inr rfl))⟩)
  have s5 := hg45.size
  exact F4.setCell (by omega) H1.out.baseB (hold H1.out.cells (.inl rfl)) _
end Go.Proofs.Ytopepkcmpogdoaa
