/- The walk of (*lintelref14.Tree).Add. -/
import Derived.Test.YtopepkcmpogdoaaRefF
namespace Go.Proofs.Ytopepkcmpogdoaa
open Go.RowKit
set_option maxHeartbeats 400000
set_option maxRecDepth 100000

/-- the document's Add, as plain data -/
def addD (m : RM) (s : Int) (k : KK) (fl : Int) : RM × Int × Int :=
  if ¬ (0 ≤ s ∧ s < m.1.length) then (m, 0, 140)
  else if fl < 0 ∨ 15 < fl then (m, 0, 1)
  else if 0 ≤ findR (m.1.getD s.toNat []) k then (m, 0, 141)
  else if 128 ≤ (m.1.getD s.toNat []).length then (m, 0, 2)
  else if 0 ≤ wayF s false k fl m.2 then (m, wayF s false k fl m.2, 0)
  else ((m.1 ++ [m.1.getD s.toNat [] ++ [(k.1, k.2, fl)]], m.2 ++ [(s, false, k, fl, (m.1.length : Int))]), m.1.length, 0)

/-- append(nil, v...): a row copied -/
theorem wp_append_copy {P : Program} {o : Oper} {a : Act} {w : World} {K : Act → World → Prop} {Q : Exit → Act → World → Prop} (s x : Operand) (t : TypeId)
    (hop : o.op = Op.call { callee := Callee.builtin Builtin.append, args := #[s, x], argTypes := #[t, t] })
    (e : TypeId) (i : TypeInfo) (z : Value) (size bytes : Nat) (h1 : P.underlying t = some (.slice e)) (h2 : P.info? e = some i) (h3 : i.zero = some z) (h4 : i.size = size) (h5 : i.bytes = bytes) (h6 : z.cells.size = size) (h7 : 0 < size)
    (hs : a.eval s = .slice none 0 0) (A : Option Addr) (n c : Nat) (xs : List Value) (B0 : Nat) (hx : a.eval x = .slice A n c) (hrow : w.ownsRow B0 e size (.slice A n c) n xs) (h1c : ∀ u ∈ xs, u.oneCell' = true)
    (b1 : n ≤ maxLen) (b2 : n * bytes ≤ 140737488355328)
    (hK : ∀ A' c' w', w'.ownsRow w.heap.size e size (.slice A' n c') n xs → w.grownBy w' none → K (a.put o.dst (.slice A' n c')) w') : o.wp P a w K Q := by
  obtain ⟨A1, c1, e1, hc, hA1, hA2⟩ := row_slice hrow
  injection e1 with e1 _ e3
  subst e1
  subst e3
  have hlen := hrow.1
  rcases Nat.eq_zero_or_pos n with h0 | h0
  · subst h0
    have hxs : xs = [] := List.eq_nil_of_length_eq_zero (by simpa using hlen)
    subst hxs
    have hsrc : Src P i.size t (.slice A 0 c) 0 [] w := by
      cases A with
      | none => exact Src.ofNil w h1 c
      | some ad => exact Src.ofSlice w h1 ad 0 c [] (by simp) (by simp) (by simp)
    have hrun := run_append_nothing (P := P) w t t o.type e i h1 h2 none 0 0 (Nat.le_refl _) (.slice A 0 c) hsrc
    unfold Oper.wp
    simp [execOp, hop, resolve, invoke, builtin, hs, hx, hrun, Result.andThen]
    exact hK none 0 w (World.ownsRow_nil _ _ _ _) (World.grownBy.refl _ _)
  · cases A with
    | none => have := hA1 rfl; omega
    | some ad =>
      refine wp_append_lies w s x t hop w.heap.size e i z size bytes h1 h2 h3 h4 h5 h6 h7 (.slice none 0 0) 0 [] hs (World.ownsRow_nil _ _ _ _) ad n c xs hx hlen (hA2 ad rfl).2 h1c h0 (by omega) (by rw [Nat.zero_add]; exact b2) (Nat.le_refl _) w.heap.size rfl ?_
      intro g cap w' hr hg _ _
      have hK' := hK (some ⟨g, 0, none⟩) cap w'
      simp only [Nat.zero_add, List.nil_append] at hr hK' ⊢
      exact hK' hr hg

theorem add_doc {B0 : Nat} {w : World} {b : Nat} {T : List (List Sl)} {W : List Wy} (h : IsRef B0 w b T W) (s : Int) (k : KK) (fl : Int) (hk : k.1.size ≤ 1048576) (hTl : T.length ≤ 1000) (hWl : W.length ≤ 1000) (hB : B0 ≤ w.heap.size) :
    Calls Try.prog 16 #[.pointer (some ⟨b, 0, none⟩), .int .i64 s, encK k, .int .i64 fl] w fun e w' =>
      e = .returned (.tuple #[.int .i64 (addD (T, W) s k fl).2.1, .int .i64 (addD (T, W) s k fl).2.2]) ∧ IsRef B0 w' b (addD (T, W) s k fl).1.1 (addD (T, W) s k fl).1.2 ∧ Fr B0 touchR w w' := by
  obtain ⟨i0, hi0, hz0, hz1, hz2⟩ := info_parts Try.info_rslot
  obtain ⟨vL, vW, vs, h⟩ := h
  obtain ⟨n, sy⟩ := k
  simp only at hk
  simp only [encK]
  have hb1 : Below w.heap.size w (w.alloc (Obj.cells #[Value.string n, Value.int IntKind.i64 sy] 30)) := (Below.refl _ _).alloc (Nat.le_refl _) _
  have h1 := h.of_blocks (w' := w.alloc (Obj.cells #[Value.string n, Value.int IntKind.i64 sy] 30)) fun k hk _ => hb1.block k hk
  obtain ⟨g, cap, rfl, hg1, hg2⟩ := h1.form
  have H0 := Lib.hid h
  clear h
  have c0 := h1.c0
  by_cases hin : 0 ≤ s ∧ s < T.length
  · obtain ⟨q, rfl⟩ : ∃ q : Nat, s = q := ⟨s.toNat, by omega⟩
    have hq : q < T.length := by omega
    obtain ⟨l, hl⟩ : ∃ l, T[q]? = some l := ⟨T[q], List.getElem?_eq_getElem hq⟩
    obtain ⟨v, hv⟩ : ∃ v, vs[q]? = some v := ⟨vs[q]'(by rw [h1.vsl]; exact hq), List.getElem?_eq_getElem _⟩
    obtain ⟨hrow, hl128, hok⟩ := h1.shapes q v l hv hl
    obtain ⟨A, c, rfl, hAc, hA1, hA2⟩ := row_slice hrow
    have em : addD (T, W) q (n, sy) fl = if fl < 0 ∨ 15 < fl then ((T, W), 0, 1)
        else if 0 ≤ findR l (n, sy) then ((T, W), 0, 141)
        else if 128 ≤ l.length then ((T, W), 0, 2)
        else if 0 ≤ wayF q false (n, sy) fl W then ((T, W), wayF q false (n, sy) fl W, 0)
        else ((T ++ [l ++ [(n, sy, fl)]], W ++ [((q : Int), false, (n, sy), fl, (T.length : Int))]), T.length, 0) := by
      unfold addD
      rw [if_neg (by simp; omega)]
      simp [hl]
    have HEM := Lib.hid em
    clear em
    have cs0 := h1.row.cells (g := g) rfl _ _ hv
    simp only [Addr.add_lit, Nat.zero_add] at cs0
    have hbd := findR_bound l (n, sy)
    have hg1' : ((q : Int) ≥ (T.length : Int)) = False := by simp; omega
    have hg2' : decide ((T.length : Int) ≤ (q : Int)) = false := by simp; omega
    have H1 := Lib.hid h1
    have HROW := Lib.hid hrow
    clear h1 hA2 hrow
    have hfin0 : ∀ w', Below w.heap.size w w' → IsRef B0 w' b T W ∧ Fr B0 touchR w w' := fun w' hb => ⟨⟨_, _, _, H0.out.of_blocks fun k hk _ => hb.block k hk⟩, Fr.of_below hb hB⟩
    by_cases hf0 : fl < 0
    · go_enter Try.func16, Try.ntmps16
      go_wp2_with fail
      go_ret2
      rw [HEM.out, if_pos (.inl hf0)]
      exact ⟨rfl, hfin0 _ hb1⟩
    by_cases hf1 : 15 < fl
    · have hf0' : 0 ≤ fl := by omega
      have hf1' : fl > 15 := hf1
      go_enter Try.func16, Try.ntmps16
      go_wp2_with fail
      go_ret2
      rw [HEM.out, if_pos (.inr hf1)]
      exact ⟨rfl, hfin0 _ hb1⟩
    have hf01 : ¬ (fl < 0 ∨ 15 < fl) := by omega
    go_enter Try.func16, Try.ntmps16
    go_wp2_with fail
    generalize hW : w.alloc _ = W1 at *
    have k0 := hW ▸ cell_block (heap_new' (w := w) (o := .cells #[.string n, .int .i64 sy] 30) rfl) 0
    have k1 := hW ▸ cell_block (heap_new' (w := w) (o := .cells #[.string n, .int .i64 sy] 30) rfl) 1
    simp at k0 k1
    refine wp_region_lin (fun w' => Below W1.heap.size W1 w' ∧ w'.cell? ⟨w.heap.size, 0, none⟩ = some (.string n) ∧ w'.cell? ⟨w.heap.size, 1, none⟩ = some (.int .i64 sy) ∧ w'.cell? ⟨b, 0, none⟩ = some (.slice (some ⟨g, 0, none⟩) T.length cap) ∧ w'.cell? ⟨g, q, none⟩ = some (.slice A l.length c)) [] (.block 0 (.block 1 (.block 2 (.block 3 (.block 4 (.block 5 (.block 6 (.block 7 (.scope (.seq (.label 8) (.block 9 (.skip)))))))))))) (by kernel_rfl) (by kernel_rfl) (by kernel_rfl) (by kernel_rfl) (by kernel_rfl) ⟨(Below.refl _ _).drew, k0, k1, c0, cs0⟩ ?_
    repeat
      (refine lin_light (A1 := ?_) rfl rfl rfl rfl rfl (fun w' hS K hK => ?_) ?_ ?_
       rotate_left
       · obtain ⟨_, _, _, _, _⟩ := hS; go_step; exact hK
       · rfl)
    refine lin_group ?_
    refine lin_heavy rfl rfl (fun K hK => ?_)
    go_step
    refine (find_ref (B0 := B0) (w := W1.drew) (v := .slice A l.length c) (l := l) HROW.out.drew hok hl128 (n, sy) hk).mono ?_
    rintro e w4 ⟨rfl, hb4⟩
    simp only
    have hb14 : Below W1.heap.size W1 w4 := (Below.refl _ _).drew.trans (hb4.mono (Nat.le_refl _))
    have d0 := (hb14.cell (World.block_lt_of_cell? _ _ k0)).trans k0
    have d1 := (hb14.cell (World.block_lt_of_cell? _ _ k1)).trans k1
    have d2 := (hb14.cell (World.block_lt_of_cell? _ _ c0)).trans c0
    have d3 := (hb14.cell (World.block_lt_of_cell? _ _ cs0)).trans cs0
    refine hK.out _ _ ⟨hb14, d0, d1, d2, d3⟩ ?_
    clear hK K
    try refine lin_late ?_
    repeat
      (refine lin_light (A1 := ?_) rfl rfl rfl rfl rfl (fun w' hS K hK => ?_) ?_ ?_
       rotate_left
       · clear hS; go_step; exact hK
       · rfl)
    refine lin_end ?_
    have hb0 : Below w.heap.size w w4 := hb1.trans (hb14.mono hb1.size)
    have h4 := H1.out.of_blocks (w' := w4) fun k hk _ => hb14.block k hk
    have hrow4 := ownsRow_of_blocks (w' := w4) HROW.out fun k hk => hb14.block k (HROW.out.lt k hk).2
    clear k0 k1 c0 cs0 hb4
    by_cases hpos : 0 ≤ findR l (n, sy)
    · have hpos' : findR l (n, sy) ≥ 0 := hpos
      go_wp2_with fail
      go_ret2
      rw [HEM.out, if_neg hf01, if_pos hpos]
      exact ⟨rfl, hfin0 _ hb0⟩
    have hneg : findR l (n, sy) < 0 := by omega
    by_cases h128 : 128 ≤ l.length
    · go_wp2_with fail
      go_ret2
      rw [HEM.out, if_neg hf01, if_neg (show ¬ 0 ≤ findR l (n, sy) by omega), if_pos h128]
      exact ⟨rfl, hfin0 _ hb0⟩
    have h128' : (l.length : Int) < 128 := by omega
    go_wp2_with fail
    have hb5 : Below W1.heap.size W1 (w4.alloc (.cells #[.string n, .int .i64 sy, .int .i64 fl] 90)) := hb14.alloc hb14.size _
    have h5 := H1.out.of_blocks (w' := w4.alloc (.cells #[.string n, .int .i64 sy, .int .i64 fl] 90)) fun k hk _ => hb5.block k hk
    refine (way_ref h5 hWl q false (n, sy) fl hk).mono ?_
    rintro e w6 ⟨rfl, hb56⟩
    have hb16 : Below W1.heap.size W1 w6 := hb5.trans (hb56.mono hb5.size)
    have hb06 : Below w.heap.size w w6 := hb1.trans (hb16.mono hb1.size)
    clear h5
    simp only
    by_cases hwpos : 0 ≤ wayF q false (n, sy) fl W
    · have hwpos' : wayF q false (n, sy) fl W ≥ 0 := hwpos
      go_wp2_with fail
      go_ret2
      rw [HEM.out, if_neg hf01, if_neg (show ¬ 0 ≤ findR l (n, sy) by omega), if_neg h128, if_pos hwpos]
      exact ⟨rfl, hfin0 _ hb06⟩
    have hwneg : ¬ 0 ≤ wayF q false (n, sy) fl W := hwpos
    have hwneg' : (wayF q false (n, sy) fl W ≥ 0) = False := by simp; omega
    go_wp2_with fail
    have hb46 : Below w4.heap.size w4 w6 := ((Below.refl _ _).alloc (Nat.le_refl _) _).trans (hb56.mono (by simp))
    have h6 := h4.of_blocks (w' := w6) fun k hk _ => hb46.block k hk
    have hrow6 := ownsRow_of_blocks (w' := w6) hrow4 fun k hk => hb46.block k (hrow4.lt k hk).2
    have p0 := (hb46.cell (World.block_lt_of_cell? _ _ d2)).trans d2
    have p1 := (hb46.cell (World.block_lt_of_cell? _ _ d3)).trans d3
    have hx6 := (hb56.block w4.heap.size (by simp)).trans (heap_new' (w := w4) (o := .cells #[.string n, .int .i64 sy, .int .i64 fl] 90) rfl)
    have p2 := cell_block hx6 0
    have p3 := cell_block hx6 1
    have p4 := cell_block hx6 2
    simp at p2 p3 p4
    have H6 := Lib.hid h6
    have s06 := hb06.size
    clear h6 h4 hrow4 d0 d1 d2 d3 hb5 hb56 hx6 hb46 hv
    refine wp_region_lin (fun w' => w'.cell? ⟨b, 0, none⟩ = some (.slice (some ⟨g, 0, none⟩) T.length cap) ∧ w'.cell? ⟨g, q, none⟩ = some (.slice A l.length c) ∧ w'.cell? ⟨w4.heap.size, 0, none⟩ = some (.string n) ∧ w'.cell? ⟨w4.heap.size, 1, none⟩ = some (.int .i64 sy) ∧ w'.cell? ⟨w4.heap.size, 2, none⟩ = some (.int .i64 fl)) [14, 15, 16, 17, 18] (.block 0 (.block 1 (.block 2 (.block 3 (.block 4 (.block 5 (.block 6 (.block 7 (.block 8 (.block 9 (.block 11 (.scope (.cond (.func 0) (.seq (.label 10) (.scope (.seq (.label 12) (.scope (.seq (.label 13) (.loop (.scope (.seq (.label 14) (.block 15 (.block 16 (.block 17 (.block 18 (.skip))))))))))))) (.seq (.label 12) (.scope (.seq (.label 10) (.scope (.seq (.label 13) (.loop (.scope (.seq (.label 14) (.block 15 (.block 16 (.block 17 (.block 18 (.skip)))))))))))))))))))))))))) (by kernel_rfl) (by kernel_rfl) (by kernel_rfl) (by kernel_rfl) (by kernel_rfl) ⟨p0, p1, p2, p3, p4⟩ ?_
    repeat
      (refine lin_light (A1 := ?_) rfl rfl rfl rfl rfl (fun w' hS K hK => ?_) ?_ ?_
       rotate_left
       · obtain ⟨_, _, _, _, _⟩ := hS; go_step; exact hK
       · rfl)
    refine lin_group ?_
    refine lin_both ?_ ?_
    · refine lin_heavy rfl rfl (fun K hK => ?_)
      refine wp_append_copy _ _ _ rfl 90 i0 _ 3 32 Try.underlying88 hi0 hz0 hz1 hz2 rfl (by omega) rfl A l.length c (slotCells l) B0 rfl hrow6.drew (slotCells_oneCell l) (by unfold maxLen; omega) (by omega) ?_
      intro A8 c8 w7 hrow7 hg7
      have hb67 : Below w6.heap.size w6 w7 := (Below.refl _ _).drew.grown hg7 (Nat.le_refl _) (by simp)
      refine hK.out _ _ ⟨(hb67.cell (World.block_lt_of_cell? _ _ p0)).trans p0, (hb67.cell (World.block_lt_of_cell? _ _ p1)).trans p1, (hb67.cell (World.block_lt_of_cell? _ _ p2)).trans p2, (hb67.cell (World.block_lt_of_cell? _ _ p3)).trans p3, (hb67.cell (World.block_lt_of_cell? _ _ p4)).trans p4⟩ ?_
      clear hK K
      simp only [Act.put, List.setIfInBounds_toArray, List.set_cons_zero, List.set_cons_succ]
      repeat
        (refine lin_light (A1 := ?_) rfl rfl rfl rfl rfl (fun w' hS K hK => ?_) ?_ ?_
         rotate_left
         · obtain ⟨_, _, _, _, _⟩ := hS; go_step; exact hK
         · rfl)
      refine lin_group ?_
      refine lin_heavy rfl rfl (fun K hK => ?_)
      go_step
      have hb68 : Below w6.heap.size w6 (w7.alloc (.cells #[.string n, .int .i64 sy, .int .i64 fl] 90)) := hb67.alloc hb67.size _
      refine hK.out _ _ ⟨(hb68.cell (World.block_lt_of_cell? _ _ p0)).trans p0, (hb68.cell (World.block_lt_of_cell? _ _ p1)).trans p1, (hb68.cell (World.block_lt_of_cell? _ _ p2)).trans p2, (hb68.cell (World.block_lt_of_cell? _ _ p3)).trans p3, (hb68.cell (World.block_lt_of_cell? _ _ p4)).trans p4⟩ ?_
      clear hK K
      generalize hgx0 : w7.heap.size = gx at *
      have hrow8 : (w7.alloc (.cells #[.string n, .int .i64 sy, .int .i64 fl] 90)).ownsRow w6.heap.size 90 3 (.slice A8 l.length c8) l.length (slotCells l) := hrow7.alloc _
      have hgx := heap_new' (w := w7) (o := .cells #[.string n, .int .i64 sy, .int .i64 fl] 90) hgx0
      generalize hW8 : w7.alloc _ = w8 at *
      clear hrow7 hg7 hb67
      refine lin_group ?_
      refine lin_heavy rfl rfl (fun K hK => ?_)
      refine wp_append_lies _ _ _ _ rfl w6.heap.size 90 i0 _ 3 32 Try.underlying88 hi0 hz0 hz1 hz2 rfl (by omega) (.slice A8 l.length c8) l.length _ rfl hrow8 ⟨gx, 0, none⟩ 1 1 [.string n, .int .i64 sy, .int .i64 fl] rfl rfl (World.news_of_block (cs := #[.string n, .int .i64 sy, .int .i64 fl]) (t := 90) (fr := (0, 0)) hgx) (by simp [Value.oneCell']) (by omega) (by unfold maxLen; omega) (by omega) hb68.size w8.heap.size rfl ?_
      intro g9 cap9 w9 hrow9 hg9 hat9 hlt9
      have hb69 : Below w6.heap.size w6 w9 := hb68.grown hg9 hb68.size (fun k hk => (hrow8.lt k hk).1)
      refine hK.out _ _ ⟨(hb69.cell (World.block_lt_of_cell? _ _ p0)).trans p0, (hb69.cell (World.block_lt_of_cell? _ _ p1)).trans p1, (hb69.cell (World.block_lt_of_cell? _ _ p2)).trans p2, (hb69.cell (World.block_lt_of_cell? _ _ p3)).trans p3, (hb69.cell (World.block_lt_of_cell? _ _ p4)).trans p4⟩ ?_
      clear hK K
      simp only [Act.put, List.setIfInBounds_toArray, List.set_cons_zero, List.set_cons_succ]
      refine lin_late ?_
      refine lin_group ?_
      refine lin_heavy rfl rfl (fun K hK => ?_)
      go_step
      have h9 := H6.out.of_blocks (w' := w9) fun k hk _ => hb69.block k hk
      have hrow9' : w9.ownsRow B0 90 3 (.slice (some ⟨g9, 0, none⟩) (l.length + 1) cap9) (l.length + 1) (slotCells (l ++ [(n, sy, fl)])) := by
        rw [slotCells_append]
        exact ownsRow_base hrow9 (fun k hk => by have := (hrow9.lt k hk).1; omega)
      refine (lay_ref h9 hTl hWl (q : Int) false (n, sy) fl hk _ _ _ (l ++ [(n, sy, fl)]) hrow9' (by simp) (by omega) ?_ (by have := hb69.size; omega)).mono ?_
      · intro x hxm
        rcases List.mem_append.1 hxm with h1 | h1
        · exact hok x h1
        · obtain rfl : x = (n, sy, fl) := by simpa using h1
          exact hk
      rintro e w10 ⟨rfl, hI10, hF10⟩
      simp only
      refine hK.out _ _ trivial ?_
      clear hK K
      repeat
        (refine lin_light (A1 := ?_) rfl rfl rfl rfl rfl (fun w' hS K hK => ?_) ?_ ?_
         rotate_left
         · clear hS; go_step; exact hK
         · rfl)
      refine lin_end ?_
      go_wp2_with fail
      go_ret2
      rw [HEM.out, if_neg hf01, if_neg (show ¬ 0 ≤ findR l (n, sy) by omega), if_neg h128, if_neg (show ¬ 0 ≤ wayF q false (n, sy) fl W by omega)]
      refine ⟨rfl, hI10, ?_⟩
      exact (Fr.of_below (hb06.trans (hb69.mono hb06.size)) hB).trans hF10
    · refine lin_heavy rfl rfl (fun K hK => ?_)
      go_step
      have hb67 : Below w6.heap.size w6 ((w6.alloc (.cells #[.string n, .int .i64 sy, .int .i64 fl] 90)).drew) := ((Below.refl _ _).alloc (Nat.le_refl _) _).drew
      refine hK.out _ _ ⟨(hb67.cell (World.block_lt_of_cell? _ _ p0)).trans p0, (hb67.cell (World.block_lt_of_cell? _ _ p1)).trans p1, (hb67.cell (World.block_lt_of_cell? _ _ p2)).trans p2, (hb67.cell (World.block_lt_of_cell? _ _ p3)).trans p3, (hb67.cell (World.block_lt_of_cell? _ _ p4)).trans p4⟩ ?_
      clear hK K
      have hgx7 : ((w6.alloc (.cells #[.string n, .int .i64 sy, .int .i64 fl] 90)).drew).heap[w6.heap.size]? = some (.cells #[.string n, .int .i64 sy, .int .i64 fl] 90 (0, 0)) := heap_new' (w := w6) (o := .cells #[.string n, .int .i64 sy, .int .i64 fl] 90) rfl
      have hrow7 := ownsRow_of_blocks (w' := (w6.alloc (.cells #[.string n, .int .i64 sy, .int .i64 fl] 90)).drew) hrow6 fun k hk => hb67.block k (hrow6.lt k hk).2
      generalize hW7 : (w6.alloc _).drew = w7 at *
      have hsz67 : w6.heap.size ≤ w7.heap.size := hb67.size
      refine lin_group ?_
      refine lin_heavy rfl rfl (fun K hK => ?_)
      refine wp_append_copy _ _ _ rfl 90 i0 _ 3 32 Try.underlying88 hi0 hz0 hz1 hz2 rfl (by omega) rfl A l.length c (slotCells l) B0 rfl hrow7 (slotCells_oneCell l) (by unfold maxLen; omega) (by omega) ?_
      intro A8 c8 w8 hrow8' hg8
      have hb68 : Below w6.heap.size w6 w8 := hb67.grown hg8 hb67.size (by simp)
      have hrow8 : w8.ownsRow w6.heap.size 90 3 (.slice A8 l.length c8) l.length (slotCells l) := ownsRow_base hrow8' (fun k hk => by have := (hrow8'.lt k hk).1; omega)
      refine hK.out _ _ ⟨(hb68.cell (World.block_lt_of_cell? _ _ p0)).trans p0, (hb68.cell (World.block_lt_of_cell? _ _ p1)).trans p1, (hb68.cell (World.block_lt_of_cell? _ _ p2)).trans p2, (hb68.cell (World.block_lt_of_cell? _ _ p3)).trans p3, (hb68.cell (World.block_lt_of_cell? _ _ p4)).trans p4⟩ ?_
      clear hK K
      simp only [Act.put, List.setIfInBounds_toArray, List.set_cons_zero, List.set_cons_succ]
      have hgx := (hg8.block _ (Array.getElem?_eq_some_iff.1 hgx7).1 (by simp)).trans hgx7
      generalize hgx0 : w6.heap.size = gx at hgx ⊢
      refine lin_group ?_
      refine lin_heavy rfl rfl (fun K hK => ?_)
      refine wp_append_lies _ _ _ _ rfl w6.heap.size 90 i0 _ 3 32 Try.underlying88 hi0 hz0 hz1 hz2 rfl (by omega) (.slice A8 l.length c8) l.length _ rfl hrow8 ⟨gx, 0, none⟩ 1 1 [.string n, .int .i64 sy, .int .i64 fl] rfl rfl (World.news_of_block (cs := #[.string n, .int .i64 sy, .int .i64 fl]) (t := 90) (fr := (0, 0)) hgx) (by simp [Value.oneCell']) (by omega) (by unfold maxLen; omega) (by omega) hb68.size w8.heap.size rfl ?_
      intro g9 cap9 w9 hrow9 hg9 hat9 hlt9
      have hb69 : Below w6.heap.size w6 w9 := hb68.grown hg9 hb68.size (fun k hk => (hrow8.lt k hk).1)
      refine hK.out _ _ ⟨(hb69.cell (World.block_lt_of_cell? _ _ p0)).trans p0, (hb69.cell (World.block_lt_of_cell? _ _ p1)).trans p1, (hb69.cell (World.block_lt_of_cell? _ _ p2)).trans p2, (hb69.cell (World.block_lt_of_cell? _ _ p3)).trans p3, (hb69.cell (World.block_lt_of_cell? _ _ p4)).trans p4⟩ ?_
      clear hK K
      simp only [Act.put, List.setIfInBounds_toArray, List.set_cons_zero, List.set_cons_succ]
      refine lin_late ?_
      refine lin_group ?_
      refine lin_heavy rfl rfl (fun K hK => ?_)
      go_step
      have h9 := H6.out.of_blocks (w' := w9) fun k hk _ => hb69.block k hk
      have hrow9' : w9.ownsRow B0 90 3 (.slice (some ⟨g9, 0, none⟩) (l.length + 1) cap9) (l.length + 1) (slotCells (l ++ [(n, sy, fl)])) := by
        rw [slotCells_append]
        exact ownsRow_base hrow9 (fun k hk => by have := (hrow9.lt k hk).1; omega)
      refine (lay_ref h9 hTl hWl (q : Int) false (n, sy) fl hk _ _ _ (l ++ [(n, sy, fl)]) hrow9' (by simp) (by omega) ?_ (by have := hb69.size; omega)).mono ?_
      · intro x hxm
        rcases List.mem_append.1 hxm with h1 | h1
        · exact hok x h1
        · obtain rfl : x = (n, sy, fl) := by simpa using h1
          exact hk
      rintro e w10 ⟨rfl, hI10, hF10⟩
      simp only
      refine hK.out _ _ trivial ?_
      clear hK K
      repeat
        (refine lin_light (A1 := ?_) rfl rfl rfl rfl rfl (fun w' hS K hK => ?_) ?_ ?_
         rotate_left
         · clear hS; go_step; exact hK
         · rfl)
      refine lin_end ?_
      go_wp2_with fail
      go_ret2
      rw [HEM.out, if_neg hf01, if_neg (show ¬ 0 ≤ findR l (n, sy) by omega), if_neg h128, if_neg (show ¬ 0 ≤ wayF q false (n, sy) fl W by omega)]
      refine ⟨rfl, hI10, ?_⟩
      exact (Fr.of_below (hb06.trans (hb69.mono hb06.size)) hB).trans hF10
  · have em : addD (T, W) s (n, sy) fl = ((T, W), 0, 140) := if_pos hin
    rw [em]
    clear em
    by_cases hneg : s < 0
    · go_enter Try.func16, Try.ntmps16
      go_wp2_with fail
      go_ret2
      exact ⟨rfl, ⟨_, _, _, h1⟩, Fr.of_below hb1 hB⟩
    · have hge : (T.length : Int) ≤ s := by omega
      go_enter Try.func16, Try.ntmps16
      go_wp2_with fail
      go_ret2
      exact ⟨rfl, ⟨_, _, _, h1⟩, Fr.of_below hb1 hB⟩
end Go.Proofs.Ytopepkcmpogdoaa
