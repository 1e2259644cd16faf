/- The walk of (*lintelref14.Tree).Find. -/
import Derived.Test.YtopepkcmpogdoaaRefG
namespace Go.Proofs.Ytopepkcmpogdoaa
open Go.RowKit
set_option maxHeartbeats 400000
set_option maxRecDepth 100000

abbrev RM := List (List Sl) × List Wy
/-- the document's Find, as plain data -/
def findD (T : List (List Sl)) (s : Int) (k : KK) : Int × Int × Bool :=
  if ¬ (0 ≤ s ∧ s < T.length) then (0, 0, false)
  else if findR (T.getD s.toNat []) k < 0 then (0, 0, false)
  else (findR (T.getD s.toNat []) k, flagAt (T.getD s.toNat []) (findR (T.getD s.toNat []) k), true)

theorem findF_bound (k : KK) (l : List Sl) (i : Int) (hi : 0 ≤ i) : findF k l i = -1 ∨ (i ≤ findF k l i ∧ findF k l i < i + l.length) := by
  induction l generalizing i with
  | nil => exact .inl rfl
  | cons s r ih =>
    simp only [findF, List.length_cons]
    split
    · right; omega
    · rcases ih (i + 1) (by omega) with h | h
      · exact .inl h
      · right; omega
theorem findR_bound (l : List Sl) (k : KK) : findR l k = -1 ∨ (0 ≤ findR l k ∧ findR l k < l.length) := by
  have := findF_bound k l 0 (by omega)
  unfold findR
  omega

theorem find_doc {B0 : Nat} {w : World} {b : Nat} {T : List (List Sl)} {W : List Wy} (h : IsRef B0 w b T W) (s : Int) (k : KK) (hk : k.1.size ≤ 1048576) :
    Calls Try.prog 21 #[.pointer (some ⟨b, 0, none⟩), .int .i64 s, encK k] w fun e w' =>
      e = .returned (.tuple #[.int .i64 (findD T s k).1, .int .i64 (findD T s k).2.1, .bool (findD T s k).2.2]) ∧ Below w.heap.size w w' := by
  obtain ⟨vL, vW, vs, h⟩ := h
  obtain ⟨n, sy⟩ := k
  simp only at hk
  simp only [encK]
  have hb1 : Below w.heap.size w (w.alloc (Obj.cells #[Value.string n, Value.int IntKind.i64 sy] 30)) := (Below.refl _ _).alloc (Nat.le_refl _) _
  have h1 := h.of_blocks (w' := w.alloc (Obj.cells #[Value.string n, Value.int IntKind.i64 sy] 30)) fun k hk _ => hb1.block k hk
  clear h
  obtain ⟨g, cap, rfl, hg1, hg2⟩ := h1.form
  have c0 := h1.c0
  by_cases hin : 0 ≤ s ∧ s < T.length
  · obtain ⟨q, rfl⟩ : ∃ q : Nat, s = q := ⟨s.toNat, by omega⟩
    have hq : q < T.length := by omega
    obtain ⟨l, hl⟩ : ∃ l, T[q]? = some l := ⟨T[q], List.getElem?_eq_getElem hq⟩
    obtain ⟨v, hv⟩ : ∃ v, vs[q]? = some v := ⟨vs[q]'(by rw [h1.vsl]; exact hq), List.getElem?_eq_getElem _⟩
    obtain ⟨hrow, hl128, hok⟩ := h1.shapes q v l hv hl
    obtain ⟨A, c, rfl, hAc, hA1, hA2⟩ := row_slice hrow
    have em : findD T q (n, sy) = if findR l (n, sy) < 0 then (0, 0, false) else (findR l (n, sy), flagAt l (findR l (n, sy)), true) := by
      unfold findD
      rw [if_neg (by simp; omega)]
      simp [hl]
    have HEM := Lib.hid em
    clear em
    have cs0 := h1.row.cells (g := g) rfl _ _ hv
    simp only [Addr.add_lit, Nat.zero_add] at cs0
    have hbd := findR_bound l (n, sy)
    have hg1' : ((q : Int) ≥ (T.length : Int)) = False := by simp; omega
    have hg2' : decide ((T.length : Int) ≤ (q : Int)) = false := by simp; omega
    have HH1 := Lib.hid h1
    have HA2 := Lib.hid hA2
    have HROW := Lib.hid hrow
    clear h1 hA2 hrow
    go_enter Try.func21, Try.ntmps21
    go_wp2_with fail
    generalize hW : w.alloc _ = W1 at *
    have k0 := hW ▸ cell_block (heap_new' (w := w) (o := .cells #[.string n, .int .i64 sy] 30) rfl) 0
    have k1 := hW ▸ cell_block (heap_new' (w := w) (o := .cells #[.string n, .int .i64 sy] 30) rfl) 1
    simp at k0 k1
    refine wp_region_lin (fun w' => Below W1.heap.size W1 w' ∧ w'.cell? ⟨w.heap.size, 0, none⟩ = some (.string n) ∧ w'.cell? ⟨w.heap.size, 1, none⟩ = some (.int .i64 sy) ∧ w'.cell? ⟨b, 0, none⟩ = some (.slice (some ⟨g, 0, none⟩) T.length cap) ∧ w'.cell? ⟨g, q, none⟩ = some (.slice A l.length c)) [9] (.block 0 (.block 1 (.block 2 (.block 3 (.block 4 (.block 5 (.block 6 (.block 7 (.scope (.seq (.label 8) (.loop (.block 9 (.skip))))))))))))) (by kernel_rfl) (by kernel_rfl) (by kernel_rfl) (by kernel_rfl) (by kernel_rfl) ⟨(Below.refl _ _).drew, k0, k1, c0, cs0⟩ ?_
    repeat
      (refine lin_light (A1 := ?_) rfl rfl rfl rfl rfl (fun w' hS K hK => ?_) ?_ ?_
       rotate_left
       · obtain ⟨_, _, _, _, _⟩ := hS; go_step; exact hK
       · rfl)
    refine lin_group ?_
    refine lin_heavy rfl rfl (fun K hK => ?_)
    go_step
    refine (find_ref (B0 := B0) (w := W1.drew) (v := .slice A l.length c) (l := l) HROW.out.drew hok hl128 (n, sy) hk).mono ?_
    rintro e w4 ⟨rfl, hb4⟩
    simp only
    have hb14 : Below W1.heap.size W1 w4 := (Below.refl _ _).drew.trans (hb4.mono (Nat.le_refl _))
    have d0 := (hb14.cell (World.block_lt_of_cell? _ _ k0)).trans k0
    have d1 := (hb14.cell (World.block_lt_of_cell? _ _ k1)).trans k1
    have d2 := (hb14.cell (World.block_lt_of_cell? _ _ c0)).trans c0
    have d3 := (hb14.cell (World.block_lt_of_cell? _ _ cs0)).trans cs0
    refine hK.out _ _ ⟨hb14, d0, d1, d2, d3⟩ ?_
    clear hK K
    try refine lin_late ?_
    repeat
      (refine lin_light (A1 := ?_) rfl rfl rfl rfl rfl (fun w' hS K hK => ?_) ?_ ?_
       rotate_left
       · clear hS; go_step; exact hK
       · rfl)
    refine lin_end ?_
    have hb0 : Below w.heap.size w w4 := hb1.trans (hb14.mono hb1.size)
    clear k0 k1 c0 cs0 hb4
    by_cases hneg : findR l (n, sy) < 0
    · go_wp2_with fail
      refine bodyPost_ret (v := .tuple #[.int .i64 0, .int .i64 0, .bool false]) (by simp [results, Try.results21, go_sem]) rfl ?_
      rw [HEM.out, if_pos hneg]
      exact ⟨rfl, hb0⟩
    · obtain ⟨i, hi⟩ : ∃ i : Nat, findR l (n, sy) = i := ⟨(findR l (n, sy)).toNat, by omega⟩
      have HEM' := HEM.out
      rw [if_neg hneg] at HEM'
      have HE2 := Lib.hid HEM'
      clear HEM HEM'
      rw [hi] at hbd hneg ⊢
      have HI := Lib.hid hi
      clear hi
      have hil : i < l.length := by omega
      obtain ⟨⟨s1, s2, s3⟩, hs⟩ : ∃ s, l[i]? = some s := ⟨l[i], List.getElem?_eq_getElem hil⟩
      have hfl : flagAt l i = s3 := by simp [flagAt, hs]
      obtain ⟨gs, cs, hA, _, _⟩ := HROW.out.form (by omega)
      have hAA : A = some ⟨gs, 0, none⟩ := by injection hA
      subst hAA
      have hcell := (HA2.out ⟨gs, 0, none⟩ rfl).2 _ _ (slotCells_at l i _ hs).2.2
      simp only [Addr.add_lit, Nat.zero_add] at hcell
      have hc4 := (hb14.cell (World.block_lt_of_cell? _ _ hcell)).trans hcell
      clear hcell hs hA
      go_wp2_with fail
      refine wp_region_lin (fun w' => w' = w4.drew) [14] (.block 0 (.block 1 (.block 2 (.block 3 (.block 4 (.block 5 (.block 6 (.block 7 (.block 8 (.block 9 (.block 10 (.block 11 (.block 12 (.block 13 (.loop (.block 14 (.skip))))))))))))))))) (by kernel_rfl) (by kernel_rfl) (by kernel_rfl) (by kernel_rfl) (by kernel_rfl) rfl ?_
      repeat
        (refine lin_light (A1 := ?_) rfl rfl rfl rfl rfl (fun w' hS K hK => ?_) ?_ ?_
         rotate_left
         · obtain rfl := hS; go_step; exact hK
         · rfl)
      try refine lin_late ?_
      repeat
        (refine lin_light (A1 := ?_) rfl rfl rfl rfl rfl (fun w' hS K hK => ?_) ?_ ?_
         rotate_left
         · clear hS; go_step; exact hK
         · rfl)
      refine lin_end ?_
      go_wp2_with fail
      refine bodyPost_ret (v := .tuple #[.int .i64 i, .int .i64 s3, .bool true]) (by simp [results, Try.results21, go_sem]) rfl ?_
      rw [HE2.out]
      simp only [HI.out, hfl]
      exact ⟨trivial, hb0.drew⟩
  · have em : findD T s (n, sy) = (0, 0, false) := if_pos hin
    rw [em]
    clear em
    by_cases hneg : s < 0
    · go_enter Try.func21, Try.ntmps21
      go_wp2_with fail
      refine bodyPost_ret (v := .tuple #[.int .i64 0, .int .i64 0, .bool false]) (by simp [results, Try.results21, go_sem]) rfl ?_
      exact ⟨rfl, hb1⟩
    · have hge : (T.length : Int) ≤ s := by omega
      go_enter Try.func21, Try.ntmps21
      go_wp2_with fail
      refine bodyPost_ret (v := .tuple #[.int .i64 0, .int .i64 0, .bool false]) (by simp [results, Try.results21, go_sem]) rfl ?_
      exact ⟨rfl, hb1⟩
end Go.Proofs.Ytopepkcmpogdoaa
