/- The walk of (*lintelref14.Tree).Change. -/
import Derived.Test.YtopepkcmpogdoaaRefAdd
namespace Go.Proofs.Ytopepkcmpogdoaa
open Go.RowKit
set_option maxHeartbeats 400000
set_option maxRecDepth 100000

/-- a slot's flags changed -/
def setFl : List Sl → Nat → Int → List Sl
  | [], _, _ => []
  | s :: r, 0, fl => (s.1, s.2.1, fl) :: r
  | s :: r, i + 1, fl => s :: setFl r i fl
theorem setFl_length (l : List Sl) (i : Nat) (fl : Int) : (setFl l i fl).length = l.length := by
  induction l generalizing i with
  | nil => rfl
  | cons s r ih => cases i <;> simp [setFl, ih]
theorem setFl_mem {l : List Sl} {i : Nat} {fl : Int} {x : Sl} (h : x ∈ setFl l i fl) : ∃ y ∈ l, slKey x = slKey y ∧ (x.2.2 = y.2.2 ∨ x.2.2 = fl) := by
  induction l generalizing i with
  | nil => simp [setFl] at h
  | cons s r ih =>
    cases i with
    | zero =>
      simp only [setFl, List.mem_cons] at h
      rcases h with rfl | h
      · exact ⟨s, by simp, rfl, .inr rfl⟩
      · exact ⟨x, by simp [h], rfl, .inl rfl⟩
    | succ i =>
      simp only [setFl, List.mem_cons] at h
      rcases h with rfl | h
      · exact ⟨x, by simp, rfl, .inl rfl⟩
      · obtain ⟨y, hy, h1⟩ := ih h
        exact ⟨y, by simp [hy], h1⟩
theorem slotCells_setFl (l : List Sl) (i : Nat) (fl : Int) : slotCells (setFl l i fl) = (slotCells l).set (i * 3 + 2) (.int .i64 fl) := by
  induction l generalizing i with
  | nil => simp [setFl, slotCells]
  | cons s r ih =>
    have e : ∀ (x : Sl) (t : List Sl), slotCells (x :: t) = .string x.1 :: .int .i64 x.2.1 :: .int .i64 x.2.2 :: slotCells t := fun x t => by simp [slotCells, slCells]
    cases i with
    | zero =>
      show slotCells ((s.1, s.2.1, fl) :: r) = _
      rw [e, e]
      rfl
    | succ i =>
      show slotCells (s :: setFl r i fl) = _
      rw [e, e, ih, show (i + 1) * 3 + 2 = (i * 3 + 2) + 1 + 1 + 1 from by omega]
      rfl

/-- the document's Change, as plain data -/
def changeD (m : RM) (s : Int) (k : KK) (fl : Int) : RM × Int × Int :=
  if ¬ (0 ≤ s ∧ s < m.1.length) then (m, 0, 140)
  else if fl < 0 ∨ 15 < fl then (m, 0, 1)
  else if findR (m.1.getD s.toNat []) k < 0 then (m, 0, 3)
  else if flagAt (m.1.getD s.toNat []) (findR (m.1.getD s.toNat []) k) = fl then (m, s, 0)
  else if 0 ≤ wayF s true k fl m.2 then (m, wayF s true k fl m.2, 0)
  else ((m.1 ++ [setFl (m.1.getD s.toNat []) (findR (m.1.getD s.toNat []) k).toNat fl], m.2 ++ [(s, true, k, fl, (m.1.length : Int))]), m.1.length, 0)

theorem wpList_append_copy {P : Program} {ops : Array Oper} {rest : List Oper} {o : Oper} {a : Act} {w : World} {Q : Exit → Act → World → Prop} (hgd : o.guard = none) (s x : Operand) (t : TypeId)
    (hop : o.op = Op.call { callee := Callee.builtin Builtin.append, args := #[s, x], argTypes := #[t, t] })
    (e : TypeId) (i : TypeInfo) (z : Value) (size bytes : Nat) (h1 : P.underlying t = some (.slice e)) (h2 : P.info? e = some i) (h3 : i.zero = some z) (h4 : i.size = size) (h5 : i.bytes = bytes) (h6 : z.cells.size = size) (h7 : 0 < size)
    (hs : a.eval s = .slice none 0 0) (A : Option Addr) (n c : Nat) (xs : List Value) (B0 : Nat) (hx : a.eval x = .slice A n c) (hrow : w.ownsRow B0 e size (.slice A n c) n xs) (h1c : ∀ u ∈ xs, u.oneCell' = true)
    (b1 : n ≤ maxLen) (b2 : n * bytes ≤ 140737488355328)
    (hK : ∀ A' c' w', w'.ownsRow w.heap.size e size (.slice A' n c') n xs → w.grownBy w' none → wpList P ops Q rest (a.put o.dst (.slice A' n c')) w') : wpList P ops Q (o :: rest) a w :=
  wpList_plain hgd fun _ hK' => wp_append_copy s x t hop e i z size bytes h1 h2 h3 h4 h5 h6 h7 hs A n c xs B0 hx hrow h1c b1 b2 fun A' c' w' r g => hK' _ _ (hK A' c' w' r g)

theorem change_doc {B0 : Nat} {w : World} {b : Nat} {T : List (List Sl)} {W : List Wy} (h : IsRef B0 w b T W) (s : Int) (k : KK) (fl : Int) (hk : k.1.size ≤ 1048576) (hTl : T.length ≤ 1000) (hWl : W.length ≤ 1000) (hB : B0 ≤ w.heap.size) :
    Calls Try.prog 15 #[.pointer (some ⟨b, 0, none⟩), .int .i64 s, encK k, .int .i64 fl] w fun e w' =>
      e = .returned (.tuple #[.int .i64 (changeD (T, W) s k fl).2.1, .int .i64 (changeD (T, W) s k fl).2.2]) ∧ IsRef B0 w' b (changeD (T, W) s k fl).1.1 (changeD (T, W) s k fl).1.2 ∧ Fr B0 touchR w w' := by
  obtain ⟨i0, hi0, hz0, hz1, hz2⟩ := info_parts Try.info_rslot
  obtain ⟨vL, vW, vs, h⟩ := h
  obtain ⟨n, sy⟩ := k
  simp only at hk
  simp only [encK]
  have hb1 : Below w.heap.size w (w.alloc (Obj.cells #[Value.string n, Value.int IntKind.i64 sy] 30)) := (Below.refl _ _).alloc (Nat.le_refl _) _
  have h1 := h.of_blocks (w' := w.alloc (Obj.cells #[Value.string n, Value.int IntKind.i64 sy] 30)) fun k hk _ => hb1.block k hk
  obtain ⟨g, cap, rfl, hg1, hg2⟩ := h1.form
  have H0 := Lib.hid h
  clear h
  have c0 := h1.c0
  by_cases hin : 0 ≤ s ∧ s < T.length
  · obtain ⟨q, rfl⟩ : ∃ q : Nat, s = q := ⟨s.toNat, by omega⟩
    have hq : q < T.length := by omega
    obtain ⟨l, hl⟩ : ∃ l, T[q]? = some l := ⟨T[q], List.getElem?_eq_getElem hq⟩
    obtain ⟨v, hv⟩ : ∃ v, vs[q]? = some v := ⟨vs[q]'(by rw [h1.vsl]; exact hq), List.getElem?_eq_getElem _⟩
    obtain ⟨hrow, hl128, hok⟩ := h1.shapes q v l hv hl
    obtain ⟨A, c, rfl, hAc, hA1, hA2⟩ := row_slice hrow
    have em : changeD (T, W) q (n, sy) fl = if fl < 0 ∨ 15 < fl then ((T, W), 0, 1)
        else if findR l (n, sy) < 0 then ((T, W), 0, 3)
        else if flagAt l (findR l (n, sy)) = fl then ((T, W), (q : Int), 0)
        else if 0 ≤ wayF q true (n, sy) fl W then ((T, W), wayF q true (n, sy) fl W, 0)
        else ((T ++ [setFl l (findR l (n, sy)).toNat fl], W ++ [((q : Int), true, (n, sy), fl, (T.length : Int))]), T.length, 0) := by
      unfold changeD
      rw [if_neg (by simp; omega)]
      simp [hl]
    have HEM := Lib.hid em
    clear em
    have cs0 := h1.row.cells (g := g) rfl _ _ hv
    simp only [Addr.add_lit, Nat.zero_add] at cs0
    have hbd := findR_bound l (n, sy)
    have hg1' : ((q : Int) ≥ (T.length : Int)) = False := by simp; omega
    have hg2' : decide ((T.length : Int) ≤ (q : Int)) = false := by simp; omega
    have H1 := Lib.hid h1
    have HROW := Lib.hid hrow
    clear h1 hA2 hrow
    have hfin0 : ∀ w', Below w.heap.size w w' → IsRef B0 w' b T W ∧ Fr B0 touchR w w' := fun w' hb => ⟨⟨_, _, _, H0.out.of_blocks fun k hk _ => hb.block k hk⟩, Fr.of_below hb hB⟩
    by_cases hf0 : fl < 0
    · go_enter Try.func15, Try.ntmps15
      go_wp2_with fail
      go_ret2
      rw [HEM.out, if_pos (.inl hf0)]
      exact ⟨rfl, hfin0 _ hb1⟩
    by_cases hf1 : 15 < fl
    · have hf0' : 0 ≤ fl := by omega
      have hf1' : fl > 15 := hf1
      go_enter Try.func15, Try.ntmps15
      go_wp2_with fail
      go_ret2
      rw [HEM.out, if_pos (.inr hf1)]
      exact ⟨rfl, hfin0 _ hb1⟩
    have hf01 : ¬ (fl < 0 ∨ 15 < fl) := by omega
    go_enter Try.func15, Try.ntmps15
    go_wp2_with fail
    generalize hW : w.alloc _ = W1 at *
    have k0 := hW ▸ cell_block (heap_new' (w := w) (o := .cells #[.string n, .int .i64 sy] 30) rfl) 0
    have k1 := hW ▸ cell_block (heap_new' (w := w) (o := .cells #[.string n, .int .i64 sy] 30) rfl) 1
    simp at k0 k1
    refine wp_region_lin (fun w' => Below W1.heap.size W1 w' ∧ w'.cell? ⟨w.heap.size, 0, none⟩ = some (.string n) ∧ w'.cell? ⟨w.heap.size, 1, none⟩ = some (.int .i64 sy) ∧ w'.cell? ⟨b, 0, none⟩ = some (.slice (some ⟨g, 0, none⟩) T.length cap) ∧ w'.cell? ⟨g, q, none⟩ = some (.slice A l.length c)) [9] (.block 0 (.block 1 (.block 2 (.block 3 (.block 4 (.block 5 (.block 6 (.block 7 (.scope (.seq (.label 8) (.loop (.block 9 (.skip))))))))))))) (by kernel_rfl) (by kernel_rfl) (by kernel_rfl) (by kernel_rfl) (by kernel_rfl) ⟨(Below.refl _ _).drew, k0, k1, c0, cs0⟩ ?_
    repeat
      (refine lin_light (A1 := ?_) rfl rfl rfl rfl rfl (fun w' hS K hK => ?_) ?_ ?_
       rotate_left
       · obtain ⟨_, _, _, _, _⟩ := hS; go_step; exact hK
       · rfl)
    refine lin_group ?_
    refine lin_heavy rfl rfl (fun K hK => ?_)
    go_step
    refine (find_ref (B0 := B0) (w := W1.drew) (v := .slice A l.length c) (l := l) HROW.out.drew hok hl128 (n, sy) hk).mono ?_
    rintro e w4 ⟨rfl, hb4⟩
    simp only
    have hb14 : Below W1.heap.size W1 w4 := (Below.refl _ _).drew.trans (hb4.mono (Nat.le_refl _))
    have d0 := (hb14.cell (World.block_lt_of_cell? _ _ k0)).trans k0
    have d1 := (hb14.cell (World.block_lt_of_cell? _ _ k1)).trans k1
    have d2 := (hb14.cell (World.block_lt_of_cell? _ _ c0)).trans c0
    have d3 := (hb14.cell (World.block_lt_of_cell? _ _ cs0)).trans cs0
    refine hK.out _ _ ⟨hb14, d0, d1, d2, d3⟩ ?_
    clear hK K
    try refine lin_late ?_
    repeat
      (refine lin_light (A1 := ?_) rfl rfl rfl rfl rfl (fun w' hS K hK => ?_) ?_ ?_
       rotate_left
       · clear hS; go_step; exact hK
       · rfl)
    refine lin_end ?_
    have hb0 : Below w.heap.size w w4 := hb1.trans (hb14.mono hb1.size)
    have h4 := H1.out.of_blocks (w' := w4) fun k hk _ => hb14.block k hk
    have hrow4 := ownsRow_of_blocks (w' := w4) HROW.out fun k hk => hb14.block k (HROW.out.lt k hk).2
    clear k0 k1 c0 cs0 hb4
    by_cases hneg : findR l (n, sy) < 0
    · go_wp2_with fail
      go_ret2
      rw [HEM.out, if_neg hf01, if_pos hneg]
      exact ⟨rfl, hfin0 _ hb0⟩
    obtain ⟨i, hi⟩ : ∃ i : Nat, findR l (n, sy) = i := ⟨(findR l (n, sy)).toNat, by omega⟩
    have HEM' := HEM.out
    rw [if_neg hf01, if_neg hneg, hi] at HEM'
    have HE2 := Lib.hid HEM'
    clear HEM HEM'
    rw [hi] at hbd hneg ⊢
    clear hi
    have hil : i < l.length := by omega
    obtain ⟨⟨s1, s2, s3⟩, hs⟩ : ∃ s, l[i]? = some s := ⟨l[i], List.getElem?_eq_getElem hil⟩
    have hfl : flagAt l i = s3 := by simp [flagAt, hs]
    obtain ⟨gs, cs, hA, _, _⟩ := HROW.out.form (by omega)
    have hAA : A = some ⟨gs, 0, none⟩ := by injection hA
    subst hAA
    have hcell := hrow4.cells (g := gs) rfl _ _ (slotCells_at l i _ hs).2.2
    simp only [Addr.add_lit, Nat.zero_add] at hcell
    have HS := Lib.hid hs
    clear hs hA
    cases hsame : (s3 == fl) with
    | true =>
      go_wp2_with fail
      go_ret2
      rw [HE2.out, if_pos (by rw [hfl]; simpa using hsame)]
      exact ⟨rfl, hfin0 _ hb0⟩
    | false =>
    have hne : ¬ flagAt l i = fl := by rw [hfl]; simpa using hsame
    go_wp2_with fail
    have hb5 : Below W1.heap.size W1 (w4.alloc (.cells #[.string n, .int .i64 sy, .int .i64 fl] 90)) := hb14.alloc hb14.size _
    have h5 := H1.out.of_blocks (w' := w4.alloc (.cells #[.string n, .int .i64 sy, .int .i64 fl] 90)) fun k hk _ => hb5.block k hk
    refine (way_ref h5 hWl q true (n, sy) fl hk).mono ?_
    rintro e w6 ⟨rfl, hb56⟩
    have hb16 : Below W1.heap.size W1 w6 := hb5.trans (hb56.mono hb5.size)
    have hb06 : Below w.heap.size w w6 := hb1.trans (hb16.mono hb1.size)
    clear h5
    simp only
    by_cases hwpos : 0 ≤ wayF q true (n, sy) fl W
    · have hwpos' : wayF q true (n, sy) fl W ≥ 0 := hwpos
      go_wp2_with fail
      go_ret2
      rw [HE2.out, if_neg hne, if_pos hwpos]
      exact ⟨rfl, hfin0 _ hb06⟩
    have hwneg' : (wayF q true (n, sy) fl W ≥ 0) = False := by simp; omega
    have hb46 : Below w4.heap.size w4 w6 := ((Below.refl _ _).alloc (Nat.le_refl _) _).trans (hb56.mono (by simp))
    have h6 := h4.of_blocks (w' := w6) fun k hk _ => hb46.block k hk
    have hrow6 := ownsRow_of_blocks (w' := w6) hrow4 fun k hk => hb46.block k (hrow4.lt k hk).2
    have p0 := (hb46.cell (World.block_lt_of_cell? _ _ d2)).trans d2
    have p1 := (hb46.cell (World.block_lt_of_cell? _ _ d3)).trans d3
    have hx6 := (hb56.block w4.heap.size (by simp)).trans (heap_new' (w := w4) (o := .cells #[.string n, .int .i64 sy, .int .i64 fl] 90) rfl)
    have H6 := Lib.hid h6
    have s06 := hb06.size
    have s46 : w4.heap.size < w6.heap.size := (Array.getElem?_eq_some_iff.1 hx6).1
    clear h6 h4 hrow4 d0 d1 d2 d3 hb5 hb56 hb46 hv hcell
    go_wp2_with (at_builtin; refine wpList_append_copy rfl _ _ _ rfl 90 i0 _ 3 32 Try.underlying88 hi0 hz0 hz1 hz2 rfl (by omega) rfl (some ⟨gs, 0, none⟩) l.length c (slotCells l) B0 rfl hrow6 (slotCells_oneCell l) (by unfold maxLen; omega) (by omega) ?_; intro A8 c8 w7 hrow7 hg7; obtain ⟨g7, c7, hA7, _, _⟩ := hrow7.form (by omega); obtain rfl : A8 = some ⟨g7, 0, none⟩ := (by injection hA7); have hcell7 := (hrow7.cellAt (i * 3 + 2) (by omega)).trans (slotCells_at l i _ HS.out).2.2; have hfr7 := hrow7.frozenAt (i * 3 + 2); have hgne : w4.heap.size ≠ g7 := (by omega); have hx7 := (Below.heap_setCell w7 ⟨g7, i * 3 + 2, none⟩ (.int .i64 fl) _ hgne).trans ((hg7.block _ (Array.getElem?_eq_some_iff.1 hx6).1 (by simp)).trans hx6); have y0 := cell_block hx7 0; have y1 := cell_block hx7 1; have y2 := cell_block hx7 2; simp only [List.getElem?_toArray, List.getElem?_cons_zero, List.getElem?_cons_succ] at y0 y1 y2)
    obtain ⟨hst, hgst⟩ := hrow7.stored (i * 3 + 2) (.int .i64 fl)
    rw [← slotCells_setFl] at hst
    have hb67 : Below w6.heap.size w6 w7 := (Below.refl _ _).grown hg7 (Nat.le_refl _) (by simp)
    have hb68 : Below w6.heap.size w6 (w7.setCell ⟨g7, i * 3 + 2, none⟩ (.int .i64 fl)) := hb67.grown hgst hb67.size (fun k hk => by cases hk; omega)
    have h8 := H6.out.of_blocks (w' := w7.setCell ⟨g7, i * 3 + 2, none⟩ (.int .i64 fl)) fun k hk _ => hb68.block k hk
    have s68 := hb68.size
    refine (lay_ref h8 hTl hWl (q : Int) true (n, sy) fl hk _ _ _ (setFl l i fl) (ownsRow_base hst (fun k hk => by have := (hst.lt k hk).1; omega)) (setFl_length _ _ _) hl128 (fun x hx => ?_) (by omega)).mono ?_
    · obtain ⟨y, hy, hkey, _⟩ := setFl_mem hx
      have e1 : x.1 = y.1 := congrArg (fun z : KK => z.1) hkey
      rw [e1]
      exact hok y hy
    rintro e w9 ⟨rfl, hI9, hF9⟩
    simp only
    go_wp2_with fail
    go_ret2
    rw [HE2.out, if_neg hne, if_neg (show ¬ 0 ≤ wayF q true (n, sy) fl W by omega)]
    refine ⟨rfl, hI9, ?_⟩
    exact (Fr.of_below (hb06.trans (hb68.mono hb06.size)) hB).trans hF9
  · have em : changeD (T, W) s (n, sy) fl = ((T, W), 0, 140) := if_pos hin
    rw [em]
    clear em
    by_cases hneg : s < 0
    · go_enter Try.func15, Try.ntmps15
      go_wp2_with fail
      go_ret2
      exact ⟨rfl, ⟨_, _, _, h1⟩, Fr.of_below hb1 hB⟩
    · have hge : (T.length : Int) ≤ s := by omega
      go_enter Try.func15, Try.ntmps15
      go_wp2_with fail
      go_ret2
      exact ⟨rfl, ⟨_, _, _, h1⟩, Fr.of_below hb1 hB⟩
end Go.Proofs.Ytopepkcmpogdoaa
