/- The walk of (*shape.Tree).Change. -/
import Derived.Test.YtopepkcmpogdoaaRefCh
namespace Go.Proofs.Ytopepkcmpogdoaa
open Go.RowKit
set_option maxHeartbeats 400000
set_option maxRecDepth 100000

/-- Change, as plain data -/
def changeM (m : TM) (s : Int) (k : KK) (fl : Int) : TM × Int × Int :=
  if ¬ (0 ≤ s ∧ s < m.1.length) then (m, 0, 140)
  else if fl < 0 ∨ 15 < fl then (m, 0, 1)
  else match atFn (lM m s) (plainK k) with
    | none => (m, 0, 3)
    | some i => if flagAt (lM m s) i = fl then (m, s, 0)
      else match m.2 (s, true, (plainK k).1, (plainK k).2, fl) with
        | some n => (m, n, 0)
        | none => ((m.1 ++ [setFl (lM m s) i.toNat fl], updK m.2 (s, true, (plainK k).1, (plainK k).2, fl) m.1.length), m.1.length, 0)

theorem change_any {B0 : Nat} {w : World} {b : Nat} {T : List (List Sl)} {f : WK → Option Int} (h : IsTree B0 w b T f) (s : Int) (k : KK) (fl : Int) (hk : okK k) (hs : (Lit.int .i64 s).wf = true) (hfl : (Lit.int .i64 fl).wf = true) (hT : T.length ≤ 1000) (hB : B0 ≤ w.heap.size) :
    Calls Try.prog 14 #[.pointer (some ⟨b, 0, none⟩), .int .i64 s, encK k, .int .i64 fl] w fun e w' =>
      e = .returned (.tuple #[.int .i64 (changeM (T, f) s k fl).2.1, .int .i64 (changeM (T, f) s k fl).2.2]) ∧ IsTree B0 w' b (changeM (T, f) s k fl).1.1 (changeM (T, f) s k fl).1.2 ∧ Fr B0 touchT w w' := by
  obtain ⟨i0, hi0, hz0, hz1, hz2⟩ := info_parts Try.info_slot
  obtain ⟨vL, mw, sh, h⟩ := h
  by_cases hin : 0 ≤ s ∧ s < T.length
  · have hp := okPlain hk
    obtain ⟨n, sy⟩ := k
    obtain ⟨q, rfl⟩ : ∃ q : Nat, s = q := ⟨s.toNat, by omega⟩
    have hq : q < T.length := by omega
    obtain ⟨l, hl⟩ : ∃ l, T[q]? = some l := ⟨T[q], List.getElem?_eq_getElem hq⟩
    obtain ⟨pr, hpr⟩ : ∃ pr, sh[q]? = some pr := ⟨sh[q]'(by rw [h.shl]; exact hq), List.getElem?_eq_getElem _⟩
    have elM : lM (T, f) q = l := by simp [lM, hl]
    have em : changeM (T, f) q (n, sy) fl = if fl < 0 ∨ 15 < fl then ((T, f), (0 : Int), (1 : Int)) else match atFn l (plainK (n, sy)) with
        | none => ((T, f), 0, 3)
        | some i => if flagAt l i = fl then ((T, f), (q : Int), 0)
          else match f ((q : Int), true, (plainK (n, sy)).1, (plainK (n, sy)).2, fl) with
            | some n => ((T, f), n, 0)
            | none => ((T ++ [setFl l i.toNat fl], updK f ((q : Int), true, (plainK (n, sy)).1, (plainK (n, sy)).2, fl) T.length), (T.length : Int), 0) := by
      unfold changeM
      rw [if_neg (by simp; omega), elM]
    have HEM := Lib.hid em
    have HEL := Lib.hid elM
    clear em elM
    simp only [encK]
    go_enter Try.func14, Try.ntmps14
    go_wp2_with fail
    generalize hW : w.alloc _ = W1
    have hb1 : Below w.heap.size w W1 := by rw [← hW]; exact (Below.refl _ _).alloc (Nat.le_refl _) _
    have hs1 : W1.heap.size = w.heap.size + 1 := by rw [← hW]; simp
    have hbx := hW ▸ heap_new' (w := w) (o := .cells #[.string n, .int .i64 sy] 30) rfl
    clear hW
    have h1 := h.of_blocks (w' := W1) fun k hk _ => hb1.block k hk
    have H0 := Lib.hid h
    clear h
    refine (is_tree h1 q).mono ?_
    rintro e w' ⟨rfl, rfl⟩
    simp only [hin, and_self, decide_true]
    obtain ⟨g, cap, rfl, hg1, hg2⟩ := h1.form
    have c1 := h1.c1
    obtain ⟨pv, m⟩ := pr
    obtain ⟨⟨hsr, hsm, hsB, hsl, hsok⟩, hne⟩ := h1.shapes q _ l hpr hl
    obtain ⟨A, c, epv, hAc, hA1, hA2⟩ := row_slice hsr
    simp only at epv hsm hsB hne
    subst epv
    have cs0 := h1.row.cells (g := g) rfl _ _ (shCells_at sh q _ hpr).1
    have cs1 := h1.row.cells (g := g) rfl _ _ (shCells_at sh q _ hpr).2
    simp only [Addr.add_lit, Nat.zero_add] at cs0 cs1
    have HS1 := Lib.hid hs1
    clear hs1
    go_wp2_with fail
    clear cs0 cs1 c1
    generalize hW2 : W1.alloc _ = W2
    have hb2 : Below W1.heap.size W1 W2 := by rw [← hW2]; exact (Below.refl _ _).alloc (Nat.le_refl _) _
    have hs2 : W2.heap.size = W1.heap.size + 1 := by rw [← hW2]; simp
    have hbt := hW2 ▸ heap_new' (w := W1) (o := .cells #[.slice A l.length c, .map (some m)] 75) rfl
    clear hW2
    have d0 := cell_block hbt 0
    have d1 := cell_block hbt 1
    have hbx2 := (hb2.block _ (Array.getElem?_eq_some_iff.1 hbx).1).trans hbx
    have k0 := cell_block hbx2 0
    have k1 := cell_block hbx2 1
    simp at d0 d1 k0 k1
    have hm2 := hsm.of_block (w' := W2) (hb2.block m hsm.lt)
    have hn := hk.1
    have ep : plainK (n, sy) = (plainName n sy, plainSym sy) := rfl
    have hfacts : ∀ w', Below W2.heap.size W2 w' → w'.cell? ⟨w.heap.size, 0, none⟩ = some (.string n) ∧ w'.cell? ⟨w.heap.size, 1, none⟩ = some (.int .i64 sy) ∧
        w'.cell? ⟨W1.heap.size, 0, none⟩ = some (.slice A l.length c) ∧ w'.cell? ⟨W1.heap.size, 1, none⟩ = some (.map (some m)) ∧
        (Instr.lookup 72 (.map (some m)) (.agg #[.string (plainName n sy), .int .i64 (plainSym sy)]) true).run Try.prog w' = .ok (.tuple #[.int .i64 ((atFn l (plainK (n, sy))).getD 0), .bool (atFn l (plainK (n, sy))).isSome]) w' := fun w' hb =>
      ⟨(hb.cell (World.block_lt_of_cell? _ _ k0)).trans k0, (hb.cell (World.block_lt_of_cell? _ _ k1)).trans k1, (hb.cell (World.block_lt_of_cell? _ _ d0)).trans d0, (hb.cell (World.block_lt_of_cell? _ _ d1)).trans d1,
        (hm2.below hb hm2.lt).look KeyE hp⟩
    rw [ep] at hfacts HEM hp
    have HF := Lib.hid hfacts
    have h2 := h1.of_blocks (w' := W2) fun k hk _ => hb2.block k hk
    have hs22 := ownsRow_of_blocks (w' := W2) hsr fun k hk => hb2.block k (hsr.lt k hk).2
    have hcut := run_slice_full (P := Try.prog) (t := 73) (sz := 3) (by kernel_rfl) (fun w => by kernel_rfl) hAc hA1 (fun g hg => (hA2 g hg).1)
    have HA2 := Lib.hid hA2
    have HS2 := Lib.hid hs2
    have HPR := Lib.hid hpr
    have H2 := Lib.hid h2
    clear ep hsm hsr hA2 h1 hs2 hbx2 hbx hbt hpr h2 d0 d1 k0 k1 hfacts
    generalize hd : atFn l (plainName n sy, plainSym sy) = d at *
    have HD := Lib.hid hd
    clear hd
    refine wp_region_lin (fun w' => Below W2.heap.size W2 w') [9] (.block 0 (.block 1 (.block 2 (.scope (.seq (.label 3) (.block 4 (.block 5 (.block 6 (.block 7 (.block 8 (.loop (.block 9 (.skip))))))))))))) (by kernel_rfl) (by kernel_rfl) (by kernel_rfl) (by kernel_rfl) (by kernel_rfl) (Below.refl _ _).drew ?_
    repeat
      (refine lin_light (A1 := ?_) rfl rfl rfl rfl rfl (fun w' hS K hK => ?_) ?_ ?_
       rotate_left
       · have hF := HF.out _ hS; obtain ⟨_, _, _, _, _⟩ := hF; go_step; exact hK
       · rfl)
    refine lin_group ?_
    refine lin_heavy rfl rfl (fun K hK => ?_)
    go_step
    refine (plain_any n sy _ hn).mono ?_
    rintro e w4 ⟨rfl, hb4⟩
    simp only
    have hb24 : Below W2.heap.size W2 w4 := (Below.refl _ _).drew.trans (hb4.mono (Nat.le_refl _))
    refine hK.out _ _ hb24 ?_
    clear hK K
    repeat
      (refine lin_light (A1 := ?_) rfl rfl rfl rfl rfl (fun w' hS K hK => ?_) ?_ ?_
       rotate_left
       · have hF := HF.out _ hS; obtain ⟨_, _, _, _, _⟩ := hF; go_step; exact hK
       · rfl)
    try refine lin_late ?_
    repeat
      (refine lin_light (A1 := ?_) rfl rfl rfl rfl rfl (fun w' hS K hK => ?_) ?_ ?_
       rotate_left
       · clear hS; go_step; exact hK
       · rfl)
    refine lin_end ?_
    have hfin : IsTree B0 w4 b T f ∧ Fr B0 touchT w w4 := ⟨⟨_, _, _, H2.out.of_blocks fun k hk _ => hb24.block k hk⟩, ((Fr.of_below hb1 hB).then_below hb2 (by have := hb1.size; omega)).then_below hb24 (by have := hb1.size; have := hb2.size; omega)⟩
    by_cases hf0 : fl < 0
    · go_wp2_with fail
      go_ret2
      rw [HEM.out, if_pos (.inl hf0)]
      exact ⟨rfl, hfin⟩
    by_cases hf1 : 15 < fl
    · have hf0' : 0 ≤ fl := by omega
      have hf1' : fl > 15 := hf1
      go_wp2_with fail
      go_ret2
      rw [HEM.out, if_pos (.inr hf1)]
      exact ⟨rfl, hfin⟩
    have hf01 : ¬ (fl < 0 ∨ 15 < fl) := by omega
    cases d with
    | none =>
      simp only [Option.isSome, Option.getD]
      go_wp2_with fail
      go_ret2
      rw [HEM.out, if_neg hf01]
      exact ⟨rfl, hfin⟩
    | some at0 =>
      have hbd := atFn_bound l _ _ HD.out
      obtain ⟨i, rfl⟩ : ∃ i : Nat, at0 = i := ⟨at0.toNat, by omega⟩
      have hi : i < l.length := by omega
      simp only [Option.isSome, Option.getD]
      obtain ⟨e0, e1, e2, e3, _⟩ := HF.out _ hb24
      have hs24 := ownsRow_of_blocks (w' := w4) hs22 fun k hk => hb24.block k (hs22.lt k hk).2
      obtain ⟨⟨s1, s2, s3⟩, hs⟩ : ∃ s, l[i]? = some s := ⟨l[i], List.getElem?_eq_getElem hi⟩
      have hfl3 : flagAt l i = s3 := by simp [flagAt, hs]
      obtain ⟨gs, cs, hA, _, _⟩ := hs24.form (by omega)
      have hAA : A = some ⟨gs, 0, none⟩ := by injection hA
      subst hAA
      have hcell := hs24.cells (g := gs) rfl _ _ (slotCells_at l i _ hs).2.2
      simp only [Addr.add_lit, Nat.zero_add] at hcell
      have HS := Lib.hid hs
      have HEM' := HEM.out
      rw [if_neg hf01] at HEM'
      simp only at HEM'
      have HE2 := Lib.hid HEM'
      clear hs hA HEM HEM'
      cases hsame : (s3 == fl) with
      | true =>
        go_wp2_with fail
        go_ret2
        rw [HE2.out, if_pos (by rw [hfl3]; simpa using hsame)]
        exact ⟨rfl, hfin⟩
      | false =>
      have s24 := hb24.size
      have s1' : w.heap.size < w4.heap.size := by have := HS1.out; have := HS2.out; omega
      have hne2 : ¬ flagAt l i = fl := by rw [hfl3]; simpa using hsame
      go_wp2_with (at_builtin; refine wpList_append_copy rfl _ _ _ rfl 83 i0 _ 3 32 Try.underlying73 hi0 hz0 hz1 hz2 rfl (by omega) rfl (some ⟨gs, 0, none⟩) l.length c (slotCells l) B0 rfl hs24 (slotCells_oneCell l) (by unfold maxLen; omega) (by omega) ?_; intro A8 c8 w7 hrow7 hg7; obtain ⟨g7, c7, hA7, _, _⟩ := hrow7.form (by omega); obtain rfl : A8 = some ⟨g7, 0, none⟩ := (by injection hA7); have hcell7 := (hrow7.cellAt (i * 3 + 2) (by omega)).trans (slotCells_at l i _ HS.out).2.2; have hfr7 := hrow7.frozenAt (i * 3 + 2); have hgne : g7 ≠ w.heap.size := (by omega); have y0 := setCell_other (v := .int .i64 fl) (i * 3 + 2) hgne (hg7.cell e0 (by simp)); have y1 := setCell_other (v := .int .i64 fl) (i * 3 + 2) hgne (hg7.cell e1 (by simp)))
      obtain ⟨hst, hgst⟩ := hrow7.stored (i * 3 + 2) (.int .i64 fl)
      rw [← slotCells_setFl] at hst
      have hb27 : Below W2.heap.size W2 w7 := hb24.grown hg7 hb24.size (by simp)
      have hb28 : Below W2.heap.size W2 (w7.setCell ⟨g7, i * 3 + 2, none⟩ (.int .i64 fl)) := hb27.grown hgst hb27.size (fun k hk => by cases hk; have := hb24.size; omega)
      generalize hW8 : w7.setCell _ _ = w8 at *
      refine (plain_any n sy _ hn).mono ?_
      rintro e w9 ⟨rfl, hb89⟩
      have hb29 : Below W2.heap.size W2 w9 := hb28.trans (hb89.mono hb28.size)
      have s29 := hb29.size
      have s1 := hb1.size
      have s2 := hb2.size
      have h9 := H2.out.of_blocks (w' := w9) fun k hk _ => hb29.block k hk
      have hrow9 := ownsRow_of_blocks (w' := w9) hst fun k hk => hb89.block k (hst.lt k hk).2
      have hrow9' : w9.ownsRow B0 83 3 (.slice (some ⟨g7, 0, none⟩) l.length c8) l.length (slotCells (setFl l i fl)) := ownsRow_base hrow9 (fun k hk => by have := (hrow9.lt k hk).1; omega)
      have hx : okW ((q : Int), true, plainName n sy, plainSym sy, fl) := ⟨hs, hp.1, hp.2, hfl⟩
      have hok9 : ∀ x ∈ setFl l i fl, okSl x := fun x hx => by
        obtain ⟨y, hy, hkey, hflx⟩ := setFl_mem hx
        obtain ⟨o1, o2, o3⟩ := hsok y hy
        have q1 : x.1 = y.1 := congrArg (fun z : KK => z.1) hkey
        have q2 : x.2.1 = y.2.1 := congrArg (fun z : KK => z.2) hkey
        refine ⟨by rw [q1]; exact o1, by rw [q2]; exact o2, ?_⟩
        rcases hflx with q3 | q3
        · rw [q3]; exact o3
        · rw [q3]; exact hfl
      simp only
      go_wp2_with fail
      cases hf : f ((q : Int), true, plainName n sy, plainSym sy, fl) with
      | some n8 =>
        refine (follow_hit h9 ((q : Int), true, plainName n sy, plainSym sy, fl) hx n8 hf _).mono ?_
        rintro e w10 ⟨rfl, hb10⟩
        simp only
        go_wp2_with fail
        go_ret2
        rw [HE2.out, if_neg hne2]
        simp only [hf]
        exact ⟨rfl, ⟨_, _, _, h9.of_blocks fun k hk _ => hb10.block k hk⟩, (((Fr.of_below hb1 hB).then_below hb2 (by omega)).then_below hb29 (by omega)).then_below hb10 (by omega)⟩
      | none =>
        refine (follow_miss h9 ((q : Int), true, plainName n sy, plainSym sy, fl) hx hf hT _ _ _ (setFl l i fl) hrow9' (setFl_length _ _ _) (by omega) hok9 (by omega)).mono ?_
        rintro e w10 ⟨rfl, hT10, hF10, _⟩
        simp only
        go_wp2_with fail
        go_ret2
        rw [HE2.out, if_neg hne2]
        simp only [hf]
        exact ⟨rfl, hT10, (((Fr.of_below hb1 hB).then_below hb2 (by omega)).then_below hb29 (by omega)).trans hF10⟩
  · have em : changeM (T, f) s k fl = ((T, f), 0, 140) := if_pos hin
    rw [em]
    clear em
    obtain ⟨n, sy⟩ := k
    simp only [encK]
    go_enter Try.func14, Try.ntmps14
    go_wp2_with fail
    have hb1 : Below w.heap.size w (w.alloc (Obj.cells #[Value.string n, Value.int IntKind.i64 sy] 30)) := (Below.refl _ _).alloc (Nat.le_refl _) _
    have h1 := h.of_blocks (w' := w.alloc (Obj.cells #[Value.string n, Value.int IntKind.i64 sy] 30)) fun k hk _ => hb1.block k hk
    refine (is_tree h1 s).mono ?_
    rintro e w' ⟨rfl, rfl⟩
    simp only [hin, decide_false]
    go_wp2_with fail
    go_ret2
    exact ⟨rfl, ⟨_, _, _, h1⟩, Fr.of_below hb1 hB⟩
end Go.Proofs.Ytopepkcmpogdoaa
