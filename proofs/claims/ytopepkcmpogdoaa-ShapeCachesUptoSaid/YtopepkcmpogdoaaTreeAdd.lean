/- The walk of (*shape.Tree).Add. -/
import Derived.Test.YtopepkcmpogdoaaTreeF
import Derived.Test.YtopepkcmpogdoaaApp
namespace Go.Proofs.Ytopepkcmpogdoaa
open Go.RowKit
set_option maxHeartbeats 400000
set_option maxRecDepth 100000

abbrev TM := List (List Sl) × (WK → Option Int)
def lM (m : TM) (s : Int) : List Sl := m.1.getD s.toNat []
/-- Add, as plain data -/
def addM (m : TM) (s : Int) (k : KK) (fl : Int) : TM × Int × Int :=
  if ¬ (0 ≤ s ∧ s < m.1.length) then (m, 0, 140)
  else if fl < 0 ∨ 15 < fl then (m, 0, 1)
  else if (atFn (lM m s) (plainK k)).isSome then (m, 0, 141)
  else if 128 ≤ (lM m s).length then (m, 0, 2)
  else match m.2 (s, false, (plainK k).1, (plainK k).2, fl) with
    | some n => (m, n, 0)
    | none => ((m.1 ++ [lM m s ++ [(k.1, k.2, fl)]], updK m.2 (s, false, (plainK k).1, (plainK k).2, fl) m.1.length), m.1.length, 0)

theorem Try.info_slot : (Try.prog.info? 83).map (fun i => (i.zero, i.size, i.bytes)) = some (some (.agg #[.string ⟨#[]⟩, .int .i64 0, .int .i64 0]), 3, 32) := by kernel_rfl

theorem row_slice {w : World} {base : Nat} {e : TypeId} {size n : Nat} {v : Value} {xs : List Value} (h : w.ownsRow base e size v n xs) : ∃ A c, v = .slice A n c ∧ n ≤ c ∧ (A = none → n = 0 ∧ c = 0) ∧ ∀ g, A = some g → (∃ k, g = ⟨k, 0, none⟩) ∧ ∀ j u, xs[j]? = some u → w.cell? (g.add j) = some u := by
  rcases h.2 with ⟨rfl, rfl⟩ | ⟨g, cap, cur, rfl, _, _, hc, _⟩
  · exact ⟨none, 0, rfl, Nat.le_refl _, fun _ => ⟨rfl, rfl⟩, fun g hg => by cases hg⟩
  · refine ⟨some ⟨g, 0, none⟩, cap, rfl, hc, fun hg => (by cases hg), fun g' hg' => ⟨⟨g, by injection hg' with hg'; exact hg'.symm⟩, fun j u hu => ?_⟩⟩
    injection hg' with hg'
    subst hg'
    exact h.cells (g := g) rfl j u hu
/-- 'x[:len(x):len(x)]' -/
theorem run_slice_full {P : Program} {t : TypeId} {A : Option Addr} {n c sz : Nat} (ht : P.underlying t = some (.slice (P.elem t))) (hsz : ∀ w, (sizeOf (P.elem t)).run P w = .ok sz w) (hc : n ≤ c) (h0 : A = none → n = 0 ∧ c = 0) (hA : ∀ g, A = some g → ∃ k, g = ⟨k, 0, none⟩) (w : World) :
    (Instr.slice t (.slice A n c) none (some (.int .i64 n)) (some (.int .i64 n))).run P w = .ok (.slice A n n) w := by
  rw [run_slice_hm w t A n c ht .i64 .i64 n n (by omega) (by omega) (by omega), hsz]
  simp only [Result.andThen, sliced, Int.toNat_natCast]
  cases A with
  | none => obtain ⟨rfl, _⟩ := h0 rfl; rfl
  | some g =>
    obtain ⟨k, rfl⟩ := hA g rfl
    split <;> simp [Addr.add]

theorem cell_of_heap {w w' : World} {i o : Nat} (h : w'.heap[i]? = w.heap[i]?) : w'.cell? ⟨i, o, none⟩ = w.cell? ⟨i, o, none⟩ := by simp [World.cell?, h]

theorem add_any {B0 : Nat} {w : World} {b : Nat} {T : List (List Sl)} {f : WK → Option Int} (h : IsTree B0 w b T f) (s : Int) (k : KK) (fl : Int) (hk : okK k) (hs : (Lit.int .i64 s).wf = true) (hfl : (Lit.int .i64 fl).wf = true) (hT : T.length ≤ 1000) (hB : B0 ≤ w.heap.size) :
    Calls Try.prog 10 #[.pointer (some ⟨b, 0, none⟩), .int .i64 s, encK k, .int .i64 fl] w fun e w' =>
      e = .returned (.tuple #[.int .i64 (addM (T, f) s k fl).2.1, .int .i64 (addM (T, f) s k fl).2.2]) ∧ IsTree B0 w' b (addM (T, f) s k fl).1.1 (addM (T, f) s k fl).1.2 ∧ Fr B0 touchT w w' := by
  obtain ⟨i0, hi0, hz0, hz1, hz2⟩ := info_parts Try.info_slot
  obtain ⟨vL, mw, sh, h⟩ := h
  by_cases hin : 0 ≤ s ∧ s < T.length
  · have hp := okPlain hk
    obtain ⟨n, sy⟩ := k
    obtain ⟨q, rfl⟩ : ∃ q : Nat, s = q := ⟨s.toNat, by omega⟩
    have hq : q < T.length := by omega
    obtain ⟨l, hl⟩ : ∃ l, T[q]? = some l := ⟨T[q], List.getElem?_eq_getElem hq⟩
    obtain ⟨pr, hpr⟩ : ∃ pr, sh[q]? = some pr := ⟨sh[q]'(by rw [h.shl]; exact hq), List.getElem?_eq_getElem _⟩
    have elM : lM (T, f) q = l := by simp [lM, hl]
    have em : addM (T, f) q (n, sy) fl = if fl < 0 ∨ 15 < fl then ((T, f), (0 : Int), (1 : Int)) else if (atFn l (plainK (n, sy))).isSome then ((T, f), 0, 141) else if 128 ≤ l.length then ((T, f), 0, 2)
        else match f ((q : Int), false, (plainK (n, sy)).1, (plainK (n, sy)).2, fl) with
          | some n => ((T, f), n, 0)
          | none => ((T ++ [l ++ [(n, sy, fl)]], updK f ((q : Int), false, (plainK (n, sy)).1, (plainK (n, sy)).2, fl) T.length), (T.length : Int), 0) := by
      unfold addM
      rw [if_neg (by simp; omega), elM]
    have HEM := Lib.hid em
    have HEL := Lib.hid elM
    clear em elM
    simp only [encK]
    go_enter Try.func10, Try.ntmps10
    go_wp2_with fail
    generalize hW : w.alloc _ = W1
    have hb1 : Below w.heap.size w W1 := by rw [← hW]; exact (Below.refl _ _).alloc (Nat.le_refl _) _
    have hs1 : W1.heap.size = w.heap.size + 1 := by rw [← hW]; simp
    have hbx := hW ▸ heap_new' (w := w) (o := .cells #[.string n, .int .i64 sy] 30) rfl
    clear hW
    have h1 := h.of_blocks (w' := W1) fun k hk _ => hb1.block k hk
    have H0 := Lib.hid h
    clear h
    refine (is_tree h1 q).mono ?_
    rintro e w' ⟨rfl, rfl⟩
    simp only [hin, and_self, decide_true]
    obtain ⟨g, cap, rfl, hg1, hg2⟩ := h1.form
    have c1 := h1.c1
    obtain ⟨pv, m⟩ := pr
    obtain ⟨⟨hsr, hsm, hsB, hsl, hsok⟩, hne⟩ := h1.shapes q _ l hpr hl
    obtain ⟨A, c, epv, hAc, hA1, hA2⟩ := row_slice hsr
    simp only at epv hsm hsB hne
    subst epv
    have cs0 := h1.row.cells (g := g) rfl _ _ (shCells_at sh q _ hpr).1
    have cs1 := h1.row.cells (g := g) rfl _ _ (shCells_at sh q _ hpr).2
    simp only [Addr.add_lit, Nat.zero_add] at cs0 cs1
    have HS1 := Lib.hid hs1
    clear hs1
    go_wp2_with fail
    clear cs0 cs1 c1
    generalize hW2 : W1.alloc _ = W2
    have hb2 : Below W1.heap.size W1 W2 := by rw [← hW2]; exact (Below.refl _ _).alloc (Nat.le_refl _) _
    have hs2 : W2.heap.size = W1.heap.size + 1 := by rw [← hW2]; simp
    have hbt := hW2 ▸ heap_new' (w := W1) (o := .cells #[.slice A l.length c, .map (some m)] 75) rfl
    clear hW2
    have d0 := cell_block hbt 0
    have d1 := cell_block hbt 1
    have hbx2 := (hb2.block _ (Array.getElem?_eq_some_iff.1 hbx).1).trans hbx
    have k0 := cell_block hbx2 0
    have k1 := cell_block hbx2 1
    simp at d0 d1 k0 k1
    have hm2 := hsm.of_block (w' := W2) (hb2.block m hsm.lt)
    have hn := hk.1
    have ep : plainK (n, sy) = (plainName n sy, plainSym sy) := rfl
    have hfacts : ∀ w', Below W2.heap.size W2 w' → w'.cell? ⟨w.heap.size, 0, none⟩ = some (.string n) ∧ w'.cell? ⟨w.heap.size, 1, none⟩ = some (.int .i64 sy) ∧
        w'.cell? ⟨W1.heap.size, 0, none⟩ = some (.slice A l.length c) ∧ w'.cell? ⟨W1.heap.size, 1, none⟩ = some (.map (some m)) ∧
        (Instr.lookup 72 (.map (some m)) (.agg #[.string (plainName n sy), .int .i64 (plainSym sy)]) true).run Try.prog w' = .ok (.tuple #[.int .i64 ((atFn l (plainK (n, sy))).getD 0), .bool (atFn l (plainK (n, sy))).isSome]) w' := fun w' hb =>
      ⟨(hb.cell (World.block_lt_of_cell? _ _ k0)).trans k0, (hb.cell (World.block_lt_of_cell? _ _ k1)).trans k1, (hb.cell (World.block_lt_of_cell? _ _ d0)).trans d0, (hb.cell (World.block_lt_of_cell? _ _ d1)).trans d1,
        (hm2.below hb hm2.lt).look KeyE hp⟩
    rw [ep] at hfacts HEM hp
    have HF := Lib.hid hfacts
    have h2 := h1.of_blocks (w' := W2) fun k hk _ => hb2.block k hk
    have hs22 := ownsRow_of_blocks (w' := W2) hsr fun k hk => hb2.block k (hsr.lt k hk).2
    have hcut := run_slice_full (P := Try.prog) (t := 73) (sz := 3) (by kernel_rfl) (fun w => by kernel_rfl) hAc hA1 (fun g hg => (hA2 g hg).1)
    have HA2 := Lib.hid hA2
    have HS2 := Lib.hid hs2
    have HPR := Lib.hid hpr
    have H2 := Lib.hid h2
    clear ep hsm hsr hA2 h1 hs2 hbx2 hbx hbt hpr h2 d0 d1 k0 k1 hfacts
    generalize hd : atFn l (plainName n sy, plainSym sy) = d at *
    have HD := Lib.hid hd
    clear hd
    refine wp_region_lin (fun w' => Below W2.heap.size W2 w') [9] (.block 0 (.block 1 (.block 2 (.scope (.seq (.label 3) (.block 4 (.block 5 (.block 6 (.block 7 (.block 8 (.loop (.block 9 (.skip))))))))))))) (by kernel_rfl) (by kernel_rfl) (by kernel_rfl) (by kernel_rfl) (by kernel_rfl) (Below.refl _ _).drew ?_
    repeat
      (refine lin_light (A1 := ?_) rfl rfl rfl rfl rfl (fun w' hS K hK => ?_) ?_ ?_
       rotate_left
       · have hF := HF.out _ hS; obtain ⟨_, _, _, _, _⟩ := hF; go_step; exact hK
       · rfl)
    refine lin_group ?_
    refine lin_heavy rfl rfl (fun K hK => ?_)
    go_step
    refine (plain_any n sy _ hn).mono ?_
    rintro e w4 ⟨rfl, hb4⟩
    simp only
    have hb24 : Below W2.heap.size W2 w4 := (Below.refl _ _).drew.trans (hb4.mono (Nat.le_refl _))
    refine hK.out _ _ hb24 ?_
    clear hK K
    repeat
      (refine lin_light (A1 := ?_) rfl rfl rfl rfl rfl (fun w' hS K hK => ?_) ?_ ?_
       rotate_left
       · have hF := HF.out _ hS; obtain ⟨_, _, _, _, _⟩ := hF; go_step; exact hK
       · rfl)
    try refine lin_late ?_
    repeat
      (refine lin_light (A1 := ?_) rfl rfl rfl rfl rfl (fun w' hS K hK => ?_) ?_ ?_
       rotate_left
       · clear hS; go_step; exact hK
       · rfl)
    refine lin_end ?_
    have hfin : IsTree B0 w4 b T f ∧ Fr B0 touchT w w4 := ⟨⟨_, _, _, H2.out.of_blocks fun k hk _ => hb24.block k hk⟩, ((Fr.of_below hb1 hB).then_below hb2 (by have := hb1.size; omega)).then_below hb24 (by have := hb1.size; have := hb2.size; omega)⟩
    by_cases hf0 : fl < 0
    · go_wp2_with fail
      go_ret2
      rw [HEM.out, if_pos (.inl hf0)]
      exact ⟨rfl, hfin⟩
    by_cases hf1 : 15 < fl
    · have hf0' : 0 ≤ fl := by omega
      have hf1' : fl > 15 := hf1
      go_wp2_with fail
      go_ret2
      rw [HEM.out, if_pos (.inr hf1)]
      exact ⟨rfl, hfin⟩
    have hf01 : ¬ (fl < 0 ∨ 15 < fl) := by omega
    cases d with
    | some at0 =>
      simp only [Option.isSome, Option.getD]
      go_wp2_with fail
      go_ret2
      rw [HEM.out, if_neg hf01, if_pos (show (some at0).isSome = true from rfl)]
      exact ⟨rfl, hfin⟩
    | none =>
      simp only [Option.isSome, Option.getD]
      obtain ⟨e0, e1, e2, e3, _⟩ := HF.out _ hb24
      by_cases h128 : 128 ≤ l.length
      · go_wp2_with fail
        go_ret2
        rw [HEM.out, if_neg hf01, if_neg (show ¬ (none : Option Int).isSome = true by simp), if_pos h128]
        exact ⟨rfl, hfin⟩
      · have h128' : (l.length : Int) < 128 := by omega
        go_wp2_with fail
        refine wp_region_lin (fun w' => w'.cell? ⟨w.heap.size, 0, none⟩ = some (.string n) ∧ w'.cell? ⟨w.heap.size, 1, none⟩ = some (.int .i64 sy) ∧ w'.cell? ⟨W1.heap.size, 0, none⟩ = some (.slice A l.length c)) [24] (.block 0 (.block 1 (.block 2 (.block 4 (.block 6 (.block 7 (.block 8 (.block 9 (.block 10 (.block 11 (.block 12 (.block 13 (.block 14 (.block 15 (.block 16 (.block 17 (.scope (.cond (.func 0) (.seq (.label 3) (.block 5 (.scope (.seq (.label 18) (.scope (.seq (.label 19) (.scope (.seq (.label 20) (.block 21 (.block 22 (.block 23 (.loop (.block 24 (.skip)))))))))))))) (.seq (.label 18) (.scope (.seq (.label 3) (.block 5 (.scope (.seq (.label 19) (.scope (.seq (.label 20) (.block 21 (.block 22 (.block 23 (.loop (.block 24 (.skip)))))))))))))))))))))))))))))))) (by kernel_rfl) (by kernel_rfl) (by kernel_rfl) (by kernel_rfl) (by kernel_rfl) ⟨e0, e1, e2⟩ ?_
        repeat
          (refine lin_light (A1 := ?_) rfl rfl rfl rfl rfl (fun w' hS K hK => ?_) ?_ ?_
           rotate_left
           · obtain ⟨_, _, _⟩ := hS; go_step; exact hK
           · rfl)
        refine lin_group ?_
        refine lin_both ?_ ?_
        · refine lin_heavy rfl rfl (fun K hK => ?_)
          go_step
          refine (plain_any n sy _ hn).mono ?_
          rintro e w5 ⟨rfl, hb5⟩
          simp only
          have hb5' : Below w4.heap.size w4 w5 := below_undrew hb5
          have r0 := (hb5'.cell (World.block_lt_of_cell? _ _ e0)).trans e0
          have r1 := (hb5'.cell (World.block_lt_of_cell? _ _ e1)).trans e1
          have r2 := (hb5'.cell (World.block_lt_of_cell? _ _ e2)).trans e2
          refine hK.out _ _ ⟨r0, r1, r2⟩ ?_
          clear hK K
          repeat
            (refine lin_light (A1 := ?_) rfl rfl rfl rfl rfl (fun w' hS K hK => ?_) ?_ ?_
             rotate_left
             · obtain ⟨_, _, _⟩ := hS; go_step; exact hK
             · rfl)
          refine lin_group ?_
          refine lin_heavy rfl rfl (fun K hK => ?_)
          go_step
          refine hK.out _ _ ⟨cell_alloc' r0 _, cell_alloc' r1 _, cell_alloc' r2 _⟩ ?_
          clear hK K
          generalize hgx0 : w5.heap.size = gx at *
          generalize hW6 : w5.alloc _ = w6
          have hgx := hW6 ▸ heap_new' (w := w5) (o := .cells #[.string n, .int .i64 sy, .int .i64 fl] 83) hgx0
          have t0 := hW6 ▸ cell_alloc' r0 (.cells #[.string n, .int .i64 sy, .int .i64 fl] 83)
          have t1 := hW6 ▸ cell_alloc' r1 (.cells #[.string n, .int .i64 sy, .int .i64 fl] 83)
          have t2 := hW6 ▸ cell_alloc' r2 (.cells #[.string n, .int .i64 sy, .int .i64 fl] 83)
          have hb26 : Below W2.heap.size W2 w6 := by
            rw [← hW6]
            exact (hb24.trans (hb5'.mono hb24.size)).alloc (by have := hb24.size; have := hb5'.size; omega) _
          clear hW6 r0 r1 r2 hgx0
          have hsz1 := HS1.out
          have hsz2 := HS2.out
          have hsz26 := hb26.size
          have hlt0 := World.block_lt_of_cell? _ _ t0
          have hlt2 := World.block_lt_of_cell? _ _ t2
          have hb16 : Below W1.heap.size W1 w6 := hb2.trans (hb26.mono (by omega))
          have hrow6 : ∀ b, A = some b → ∀ j u, (slotCells l)[j]? = some u → w6.cell? (b.add j) = some u := fun b hb j u hu => by
            have h1 := (HA2.out b hb).2 j u hu
            exact (hb16.cell (World.block_lt_of_cell? _ _ h1)).trans h1
          have hl127 : l.length < 128 := by omega
          clear hcut
          refine lin_group ?_
          refine lin_heavy rfl rfl (fun K hK => ?_)
          refine wp_append_grows (.tmp 60) (.tmp 64) 73 rfl 83 i0 _ 3 32 Try.underlying73 hi0 hz0 hz1 hz2 rfl (by omega) A l.length l.length (slotCells l) rfl (fun h => ⟨(hA1 h).1, (hA1 h).1⟩) (slotCells_length l) hrow6 ⟨gx, 0, none⟩ 1 1 [.string n, .int .i64 sy, .int .i64 fl] rfl rfl (World.news_of_block (cs := #[.string n, .int .i64 sy, .int .i64 fl]) (t := 83) (fr := (0, 0)) hgx) (by simp [Value.oneCell']) (by omega) (by unfold maxLen; omega) (by omega) ?_
          intro v7 w7 hrow7 hg7
          obtain ⟨g7, cap7, rfl, _, _⟩ := hrow7.form (by omega)
          have u0 := hg7.cell t0 (by simp)
          have u1 := hg7.cell t1 (by simp)
          have u2 := hg7.cell t2 (by simp)
          refine hK.out _ _ ⟨u0, u1, u2⟩ ?_
          clear hK K
          simp only [Act.put, List.setIfInBounds_toArray, List.set_cons_zero, List.set_cons_succ]
          have hb27 : Below W2.heap.size W2 w7 := hb26.grown hg7 (by omega) (by simp)
          have h7 := H2.out.of_blocks (w' := w7) fun k hk _ => hb27.block k hk
          have hrow7' : w7.ownsRow B0 83 3 (.slice (some ⟨g7, 0, none⟩) (l.length + 1) cap7) (l.length + 1) (slotCells (l ++ [(n, sy, fl)])) := by
            rw [slotCells_append]
            have hs1 := hb1.size
            exact ownsRow_base hrow7 (fun k hk => by have := (hrow7.lt k hk).1; omega)
          have s7 := hb27.size
          refine lin_group ?_
          refine lin_heavy rfl rfl (fun K hK => ?_)
          go_step
          have hx : okW ((q : Int), false, plainName n sy, plainSym sy, fl) := ⟨hs, hp.1, hp.2, hfl⟩
          cases hf : f ((q : Int), false, plainName n sy, plainSym sy, fl) with
          | some n8 =>
            refine (follow_hit h7 ((q : Int), false, plainName n sy, plainSym sy, fl) hx n8 hf _).mono ?_
            rintro e w8 ⟨rfl, hb8⟩
            simp only
            refine hK.out _ _ ⟨(hb8.cell (World.block_lt_of_cell? _ _ u0)).trans u0, (hb8.cell (World.block_lt_of_cell? _ _ u1)).trans u1, (hb8.cell (World.block_lt_of_cell? _ _ u2)).trans u2⟩ ?_
            clear hK K
            repeat
              (refine lin_light (A1 := ?_) rfl rfl rfl rfl rfl (fun w' hS K hK => ?_) ?_ ?_
               rotate_left
               · obtain ⟨_, _, _⟩ := hS; go_step; exact hK
               · rfl)
            try refine lin_late ?_
            repeat
              (refine lin_light (A1 := ?_) rfl rfl rfl rfl rfl (fun w' hS K hK => ?_) ?_ ?_
               rotate_left
               · clear hS; go_step; exact hK
               · rfl)
            refine lin_end ?_
            go_wp2_with fail
            go_ret2
            rw [HEM.out, if_neg hf01, if_neg (show ¬ (none : Option Int).isSome = true by simp), if_neg h128]
            simp only [hf]
            exact ⟨rfl, ⟨_, _, _, h7.of_blocks fun k hk _ => hb8.block k hk⟩, (((Fr.of_below hb1 hB).then_below hb2 (by have := hb1.size; omega)).then_below hb27 (by have := hb1.size; omega)).then_below hb8 (by have := hb1.size; omega)⟩
          | none =>
            refine (follow_miss h7 ((q : Int), false, plainName n sy, plainSym sy, fl) hx hf hT _ _ _ (l ++ [(n, sy, fl)]) hrow7' (by simp) (by omega) ?_ (by have := hb1.size; omega)).mono ?_
            · intro x hxm
              rcases List.mem_append.1 hxm with h1 | h1
              · exact hsok x h1
              · obtain rfl : x = (n, sy, fl) := by simpa using h1
                exact ⟨hk.1, hk.2, hfl⟩
            rintro e w8 ⟨rfl, hT8, hF8, hb8⟩
            have z1 := hb1.size
            have hsame : ∀ i, w.heap.size ≤ i → i < w7.heap.size → w8.heap[i]? = w7.heap[i]? := fun i h1 h2 => by
              have a1 := (Array.getElem?_eq_some_iff.1 H0.out.cells).1
              have a2 := H0.out.ways.lt
              have a3 : g < w.heap.size := (H0.out.row.lt g rfl).2
              exact hb8 i h2 (by omega) (by omega) (by intro e; injection e with e; have e' : g = i := e; omega)
            simp only
            refine hK.out _ _ ⟨(cell_of_heap (hsame w.heap.size (Nat.le_refl _) (World.block_lt_of_cell? _ _ u0))).trans u0, (cell_of_heap (hsame w.heap.size (Nat.le_refl _) (World.block_lt_of_cell? _ _ u1))).trans u1, (cell_of_heap (hsame W1.heap.size (by omega) (World.block_lt_of_cell? _ _ u2))).trans u2⟩ ?_
            clear hK K
            repeat
              (refine lin_light (A1 := ?_) rfl rfl rfl rfl rfl (fun w' hS K hK => ?_) ?_ ?_
               rotate_left
               · obtain ⟨_, _, _⟩ := hS; go_step; exact hK
               · rfl)
            try refine lin_late ?_
            repeat
              (refine lin_light (A1 := ?_) rfl rfl rfl rfl rfl (fun w' hS K hK => ?_) ?_ ?_
               rotate_left
               · clear hS; go_step; exact hK
               · rfl)
            refine lin_end ?_
            go_wp2_with fail
            go_ret2
            rw [HEM.out, if_neg hf01, if_neg (show ¬ (none : Option Int).isSome = true by simp), if_neg h128]
            simp only [hf]
            exact ⟨rfl, hT8, (((Fr.of_below hb1 hB).then_below hb2 (by have := hb1.size; omega)).then_below hb27 (by have := hb1.size; omega)).trans hF8⟩
        · refine lin_heavy rfl rfl (fun K hK => ?_)
          go_step
          have r0 : (w4.alloc (.cells #[.string n, .int .i64 sy, .int .i64 fl] 83)).drew.cell? ⟨w.heap.size, 0, none⟩ = some (.string n) := cell_alloc' e0 _
          have r1 : (w4.alloc (.cells #[.string n, .int .i64 sy, .int .i64 fl] 83)).drew.cell? ⟨w.heap.size, 1, none⟩ = some (.int .i64 sy) := cell_alloc' e1 _
          have r2 : (w4.alloc (.cells #[.string n, .int .i64 sy, .int .i64 fl] 83)).drew.cell? ⟨W1.heap.size, 0, none⟩ = some (.slice A l.length c) := cell_alloc' e2 _
          refine hK.out _ _ ⟨r0, r1, r2⟩ ?_
          clear hK K
          have hgx5 : (w4.alloc (.cells #[.string n, .int .i64 sy, .int .i64 fl] 83)).drew.heap[w4.heap.size]? = some (.cells #[.string n, .int .i64 sy, .int .i64 fl] 83) := heap_new' rfl
          have hb25 : Below W2.heap.size W2 (w4.alloc (.cells #[.string n, .int .i64 sy, .int .i64 fl] 83)).drew := (hb24.alloc hb24.size _).drew
          generalize hW5 : (w4.alloc _).drew = w5 at *
          clear hW5
          refine lin_group ?_
          refine lin_heavy rfl rfl (fun K hK => ?_)
          go_step
          refine (plain_any n sy _ hn).mono ?_
          rintro e w6 ⟨rfl, hb6⟩
          simp only
          have t0 := (hb6.cell (World.block_lt_of_cell? _ _ r0)).trans r0
          have t1 := (hb6.cell (World.block_lt_of_cell? _ _ r1)).trans r1
          have t2 := (hb6.cell (World.block_lt_of_cell? _ _ r2)).trans r2
          refine hK.out _ _ ⟨t0, t1, t2⟩ ?_
          clear hK K
          repeat
            (refine lin_light (A1 := ?_) rfl rfl rfl rfl rfl (fun w' hS K hK => ?_) ?_ ?_
             rotate_left
             · obtain ⟨_, _, _⟩ := hS; go_step; exact hK
             · rfl)
          generalize hgx0 : w4.heap.size = gx at *
          have hgx := (hb6.block gx (Array.getElem?_eq_some_iff.1 hgx5).1).trans hgx5
          have hb26 : Below W2.heap.size W2 w6 := hb25.trans (hb6.mono hb25.size)
          clear hgx5 hgx0 r0 r1 r2 hb6
          have hsz1 := HS1.out
          have hsz2 := HS2.out
          have hsz26 := hb26.size
          have hlt0 := World.block_lt_of_cell? _ _ t0
          have hlt2 := World.block_lt_of_cell? _ _ t2
          have hb16 : Below W1.heap.size W1 w6 := hb2.trans (hb26.mono (by omega))
          have hrow6 : ∀ b, A = some b → ∀ j u, (slotCells l)[j]? = some u → w6.cell? (b.add j) = some u := fun b hb j u hu => by
            have h1 := (HA2.out b hb).2 j u hu
            exact (hb16.cell (World.block_lt_of_cell? _ _ h1)).trans h1
          have hl127 : l.length < 128 := by omega
          clear hcut
          refine lin_group ?_
          refine lin_heavy rfl rfl (fun K hK => ?_)
          refine wp_append_grows (.tmp 60) (.tmp 64) 73 rfl 83 i0 _ 3 32 Try.underlying73 hi0 hz0 hz1 hz2 rfl (by omega) A l.length l.length (slotCells l) rfl (fun h => ⟨(hA1 h).1, (hA1 h).1⟩) (slotCells_length l) hrow6 ⟨gx, 0, none⟩ 1 1 [.string n, .int .i64 sy, .int .i64 fl] rfl rfl (World.news_of_block (cs := #[.string n, .int .i64 sy, .int .i64 fl]) (t := 83) (fr := (0, 0)) hgx) (by simp [Value.oneCell']) (by omega) (by unfold maxLen; omega) (by omega) ?_
          intro v7 w7 hrow7 hg7
          obtain ⟨g7, cap7, rfl, _, _⟩ := hrow7.form (by omega)
          have u0 := hg7.cell t0 (by simp)
          have u1 := hg7.cell t1 (by simp)
          have u2 := hg7.cell t2 (by simp)
          refine hK.out _ _ ⟨u0, u1, u2⟩ ?_
          clear hK K
          simp only [Act.put, List.setIfInBounds_toArray, List.set_cons_zero, List.set_cons_succ]
          have hb27 : Below W2.heap.size W2 w7 := hb26.grown hg7 (by omega) (by simp)
          have h7 := H2.out.of_blocks (w' := w7) fun k hk _ => hb27.block k hk
          have hrow7' : w7.ownsRow B0 83 3 (.slice (some ⟨g7, 0, none⟩) (l.length + 1) cap7) (l.length + 1) (slotCells (l ++ [(n, sy, fl)])) := by
            rw [slotCells_append]
            have hs1 := hb1.size
            exact ownsRow_base hrow7 (fun k hk => by have := (hrow7.lt k hk).1; omega)
          have s7 := hb27.size
          refine lin_group ?_
          refine lin_heavy rfl rfl (fun K hK => ?_)
          go_step
          have hx : okW ((q : Int), false, plainName n sy, plainSym sy, fl) := ⟨hs, hp.1, hp.2, hfl⟩
          cases hf : f ((q : Int), false, plainName n sy, plainSym sy, fl) with
          | some n8 =>
            refine (follow_hit h7 ((q : Int), false, plainName n sy, plainSym sy, fl) hx n8 hf _).mono ?_
            rintro e w8 ⟨rfl, hb8⟩
            simp only
            refine hK.out _ _ ⟨(hb8.cell (World.block_lt_of_cell? _ _ u0)).trans u0, (hb8.cell (World.block_lt_of_cell? _ _ u1)).trans u1, (hb8.cell (World.block_lt_of_cell? _ _ u2)).trans u2⟩ ?_
            clear hK K
            repeat
              (refine lin_light (A1 := ?_) rfl rfl rfl rfl rfl (fun w' hS K hK => ?_) ?_ ?_
               rotate_left
               · obtain ⟨_, _, _⟩ := hS; go_step; exact hK
               · rfl)
            try refine lin_late ?_
            repeat
              (refine lin_light (A1 := ?_) rfl rfl rfl rfl rfl (fun w' hS K hK => ?_) ?_ ?_
               rotate_left
               · clear hS; go_step; exact hK
               · rfl)
            refine lin_end ?_
            go_wp2_with fail
            go_ret2
            rw [HEM.out, if_neg hf01, if_neg (show ¬ (none : Option Int).isSome = true by simp), if_neg h128]
            simp only [hf]
            exact ⟨rfl, ⟨_, _, _, h7.of_blocks fun k hk _ => hb8.block k hk⟩, (((Fr.of_below hb1 hB).then_below hb2 (by have := hb1.size; omega)).then_below hb27 (by have := hb1.size; omega)).then_below hb8 (by have := hb1.size; omega)⟩
          | none =>
            refine (follow_miss h7 ((q : Int), false, plainName n sy, plainSym sy, fl) hx hf hT _ _ _ (l ++ [(n, sy, fl)]) hrow7' (by simp) (by omega) ?_ (by have := hb1.size; omega)).mono ?_
            · intro x hxm
              rcases List.mem_append.1 hxm with h1 | h1
              · exact hsok x h1
              · obtain rfl : x = (n, sy, fl) := by simpa using h1
                exact ⟨hk.1, hk.2, hfl⟩
            rintro e w8 ⟨rfl, hT8, hF8, hb8⟩
            have z1 := hb1.size
            have hsame : ∀ i, w.heap.size ≤ i → i < w7.heap.size → w8.heap[i]? = w7.heap[i]? := fun i h1 h2 => by
              have a1 := (Array.getElem?_eq_some_iff.1 H0.out.cells).1
              have a2 := H0.out.ways.lt
              have a3 : g < w.heap.size := (H0.out.row.lt g rfl).2
              exact hb8 i h2 (by omega) (by omega) (by intro e; injection e with e; have e' : g = i := e; omega)
            simp only
            refine hK.out _ _ ⟨(cell_of_heap (hsame w.heap.size (Nat.le_refl _) (World.block_lt_of_cell? _ _ u0))).trans u0, (cell_of_heap (hsame w.heap.size (Nat.le_refl _) (World.block_lt_of_cell? _ _ u1))).trans u1, (cell_of_heap (hsame W1.heap.size (by omega) (World.block_lt_of_cell? _ _ u2))).trans u2⟩ ?_
            clear hK K
            repeat
              (refine lin_light (A1 := ?_) rfl rfl rfl rfl rfl (fun w' hS K hK => ?_) ?_ ?_
               rotate_left
               · obtain ⟨_, _, _⟩ := hS; go_step; exact hK
               · rfl)
            try refine lin_late ?_
            repeat
              (refine lin_light (A1 := ?_) rfl rfl rfl rfl rfl (fun w' hS K hK => ?_) ?_ ?_
               rotate_left
               · clear hS; go_step; exact hK
               · rfl)
            refine lin_end ?_
            go_wp2_with fail
            go_ret2
            rw [HEM.out, if_neg hf01, if_neg (show ¬ (none : Option Int).isSome = true by simp), if_neg h128]
            simp only [hf]
            exact ⟨rfl, hT8, (((Fr.of_below hb1 hB).then_below hb2 (by have := hb1.size; omega)).then_below hb27 (by have := hb1.size; omega)).trans hF8⟩
  · have em : addM (T, f) s k fl = ((T, f), 0, 140) := if_pos hin
    rw [em]
    clear em
    obtain ⟨n, sy⟩ := k
    simp only [encK]
    go_enter Try.func10, Try.ntmps10
    go_wp2_with fail
    have hb1 : Below w.heap.size w (w.alloc (Obj.cells #[Value.string n, Value.int IntKind.i64 sy] 30)) := (Below.refl _ _).alloc (Nat.le_refl _) _
    have h1 := h.of_blocks (w' := w.alloc (Obj.cells #[Value.string n, Value.int IntKind.i64 sy] 30)) fun k hk _ => hb1.block k hk
    refine (is_tree h1 s).mono ?_
    rintro e w' ⟨rfl, rfl⟩
    simp only [hin, decide_false]
    go_wp2_with fail
    go_ret2
    exact ⟨rfl, ⟨_, _, _, h1⟩, Fr.of_below hb1 hB⟩
end Go.Proofs.Ytopepkcmpogdoaa
