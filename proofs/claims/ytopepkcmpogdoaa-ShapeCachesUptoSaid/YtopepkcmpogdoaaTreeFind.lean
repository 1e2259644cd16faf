/- The walks of (*shape.Tree).Find and Len. -/
import Derived.Test.YtopepkcmpogdoaaTreeAdd
namespace Go.Proofs.Ytopepkcmpogdoaa
open Go.RowKit
set_option maxHeartbeats 400000
set_option maxRecDepth 100000

def flagAt (l : List Sl) (i : Int) : Int := ((l[i.toNat]?).map (·.2.2)).getD 0
/-- Find, as plain data -/
def findM (T : List (List Sl)) (s : Int) (k : KK) : Int × Int × Bool :=
  if ¬ (0 ≤ s ∧ s < T.length) then (0, 0, false)
  else match atFn (T.getD s.toNat []) (plainK k) with
    | none => (0, 0, false)
    | some i => (i, flagAt (T.getD s.toNat []) i, true)

theorem len_tree {B0 : Nat} {w : World} {b : Nat} {T : List (List Sl)} {f : WK → Option Int} (h : IsTree B0 w b T f) :
    Calls Try.prog 11 #[.pointer (some ⟨b, 0, none⟩)] w fun e w' => e = .returned (.int .i64 T.length) ∧ w = w' := by
  obtain ⟨vL, mw, sh, h⟩ := h
  go_enter Try.func11, Try.ntmps11
  go_wp2_with fail
  refine (is_tree h 0).mono ?_
  rintro e w' ⟨rfl, rfl⟩
  have e0 : decide ((0 : Int) ≤ 0 ∧ (0 : Int) < (T.length : Int)) = true := by have := h.one; simp; omega
  simp only [e0]
  obtain ⟨g, cap, rfl, hg1, hg2⟩ := h.form
  have c1 := h.c1
  go_wp2_with fail
  go_ret
  exact ⟨rfl, rfl⟩

theorem find_any {B0 : Nat} {w : World} {b : Nat} {T : List (List Sl)} {f : WK → Option Int} (h : IsTree B0 w b T f) (s : Int) (k : KK) (hk : okK k) (hT : T.length ≤ 1000) :
    Calls Try.prog 24 #[.pointer (some ⟨b, 0, none⟩), .int .i64 s, encK k] w fun e w' =>
      e = .returned (.tuple #[.int .i64 (findM T s k).1, .int .i64 (findM T s k).2.1, .bool (findM T s k).2.2]) ∧ Below w.heap.size w w' := by
  obtain ⟨vL, mw, sh, h⟩ := h
  by_cases hin : 0 ≤ s ∧ s < T.length
  · have hp := okPlain hk
    obtain ⟨n, sy⟩ := k
    obtain ⟨q, rfl⟩ : ∃ q : Nat, s = q := ⟨s.toNat, by omega⟩
    have hq : q < T.length := by omega
    obtain ⟨l, hl⟩ : ∃ l, T[q]? = some l := ⟨T[q], List.getElem?_eq_getElem hq⟩
    obtain ⟨pr, hpr⟩ : ∃ pr, sh[q]? = some pr := ⟨sh[q]'(by rw [h.shl]; exact hq), List.getElem?_eq_getElem _⟩
    have em : findM T q (n, sy) = match atFn l (plainK (n, sy)) with
        | none => (0, 0, false)
        | some i => (i, flagAt l i, true) := by
      unfold findM
      rw [if_neg (by simp; omega)]
      simp [hl]
    have HEM := Lib.hid em
    clear em
    simp only [encK]
    go_enter Try.func24, Try.ntmps24
    go_wp2_with fail
    generalize hW : w.alloc _ = W1
    have hb1 : Below w.heap.size w W1 := by rw [← hW]; exact (Below.refl _ _).alloc (Nat.le_refl _) _
    have hbx := hW ▸ heap_new' (w := w) (o := .cells #[.string n, .int .i64 sy] 30) rfl
    clear hW
    have k0 := cell_block hbx 0
    have k1 := cell_block hbx 1
    simp at k0 k1
    have h1 := h.of_blocks (w' := W1) fun k hk _ => hb1.block k hk
    clear h
    refine (is_tree h1 q).mono ?_
    rintro e w' ⟨rfl, rfl⟩
    simp only [hin, and_self, decide_true]
    obtain ⟨g, cap, rfl, hg1, hg2⟩ := h1.form
    have c1 := h1.c1
    obtain ⟨pv, m⟩ := pr
    obtain ⟨⟨hsr, hsm, hsB, hsl, hsok⟩, hne⟩ := h1.shapes q _ l hpr hl
    obtain ⟨A, c, epv, hAc, hA1, hA2⟩ := row_slice hsr
    simp only at epv hsm hsB hne
    subst epv
    have cs0 := h1.row.cells (g := g) rfl _ _ (shCells_at sh q _ hpr).1
    have cs1 := h1.row.cells (g := g) rfl _ _ (shCells_at sh q _ hpr).2
    simp only [Addr.add_lit, Nat.zero_add] at cs0 cs1
    have hn := hk.1
    have hfacts : ∀ w', Below W1.heap.size W1 w' → w'.cell? ⟨w.heap.size, 0, none⟩ = some (.string n) ∧ w'.cell? ⟨w.heap.size, 1, none⟩ = some (.int .i64 sy) ∧
        w'.cell? ⟨b, 1, none⟩ = some (.slice (some ⟨g, 0, none⟩) T.length cap) ∧ w'.cell? ⟨g, q * 2, none⟩ = some (.slice A l.length c) ∧ w'.cell? ⟨g, q * 2 + 1, none⟩ = some (.map (some m)) ∧
        (Instr.lookup 72 (.map (some m)) (.agg #[.string (plainName n sy), .int .i64 (plainSym sy)]) true).run Try.prog w' = .ok (.tuple #[.int .i64 ((atFn l (plainK (n, sy))).getD 0), .bool (atFn l (plainK (n, sy))).isSome]) w' := fun w' hb =>
      ⟨(hb.cell (World.block_lt_of_cell? _ _ k0)).trans k0, (hb.cell (World.block_lt_of_cell? _ _ k1)).trans k1, (hb.cell (World.block_lt_of_cell? _ _ c1)).trans c1, (hb.cell (World.block_lt_of_cell? _ _ cs0)).trans cs0, (hb.cell (World.block_lt_of_cell? _ _ cs1)).trans cs1,
        (hsm.below hb hsm.lt).look KeyE hp⟩
    have HF := Lib.hid hfacts
    have HSR := Lib.hid hsr
    have HA2 := Lib.hid hA2
    clear hfacts k0 k1 c1 cs0 cs1 hsr hA2 hbx hsm
    go_wp2_with fail
    refine wp_region_lin (fun w' => Below W1.heap.size W1 w') [15] (.block 0 (.block 1 (.block 2 (.block 3 (.block 4 (.block 5 (.block 6 (.block 7 (.block 8 (.scope (.seq (.label 9) (.block 10 (.block 11 (.block 12 (.block 13 (.block 14 (.loop (.block 15 (.skip))))))))))))))))))) (by kernel_rfl) (by kernel_rfl) (by kernel_rfl) (by kernel_rfl) (by kernel_rfl) (Below.refl _ _).drew ?_
    repeat
      (refine lin_light (A1 := ?_) rfl rfl rfl rfl rfl (fun w' hS K hK => ?_) ?_ ?_
       rotate_left
       · have hF := HF.out _ hS; obtain ⟨_, _, _, _, _, _⟩ := hF; go_step; exact hK
       · rfl)
    refine lin_group ?_
    refine lin_heavy rfl rfl (fun K hK => ?_)
    go_step
    refine (plain_any n sy _ hn).mono ?_
    rintro e w4 ⟨rfl, hb4⟩
    simp only
    have hb14 : Below W1.heap.size W1 w4 := (Below.refl _ _).drew.trans (hb4.mono (Nat.le_refl _))
    refine hK.out _ _ hb14 ?_
    clear hK K
    repeat
      (refine lin_light (A1 := ?_) rfl rfl rfl rfl rfl (fun w' hS K hK => ?_) ?_ ?_
       rotate_left
       · have hF := HF.out _ hS; obtain ⟨_, _, _, _, _, _⟩ := hF; go_step; exact hK
       · rfl)
    try refine lin_late ?_
    repeat
      (refine lin_light (A1 := ?_) rfl rfl rfl rfl rfl (fun w' hS K hK => ?_) ?_ ?_
       rotate_left
       · clear hS; go_step; exact hK
       · rfl)
    refine lin_end ?_
    have hb0 : Below w.heap.size w w4 := hb1.trans (hb14.mono hb1.size)
    cases hd : atFn l (plainK (n, sy)) with
    | none =>
      simp only [Option.isSome, Option.getD]
      go_wp2_with fail
      refine bodyPost_ret (v := .tuple #[.int .i64 0, .int .i64 0, .bool false]) (by simp [results, Try.results24, go_sem]) rfl ?_
      rw [HEM.out]
      simp only [hd]
      exact ⟨trivial, hb0⟩
    | some at0 =>
      have hbd := atFn_bound l _ _ hd
      obtain ⟨i, rfl⟩ : ∃ i : Nat, at0 = i := ⟨at0.toNat, by omega⟩
      have hi : i < l.length := by omega
      obtain ⟨⟨s1, s2, s3⟩, hs⟩ : ∃ s, l[i]? = some s := ⟨l[i], List.getElem?_eq_getElem hi⟩
      have hfl : flagAt l i = s3 := by simp [flagAt, hs]
      obtain ⟨gs, cs, hA, _, _⟩ := HSR.out.form (by omega)
      have hAA : A = some ⟨gs, 0, none⟩ := by injection hA
      have hcell := (HA2.out ⟨gs, 0, none⟩ hAA).2 _ _ (slotCells_at l i _ hs).2.2
      simp only [Addr.add_lit, Nat.zero_add] at hcell
      have hc4 := (hb14.cell (World.block_lt_of_cell? _ _ hcell)).trans hcell
      obtain ⟨_, _, e2, e3, _, _⟩ := HF.out _ hb14
      rw [hAA] at e3
      have HD := Lib.hid hd
      clear hd hA hcell hs
      simp only [Option.isSome, Option.getD]
      go_wp2_with fail
      refine wp_region_lin (fun w' => w' = w4.drew) [15] (.block 0 (.block 1 (.block 2 (.block 3 (.block 4 (.block 5 (.block 6 (.block 7 (.block 8 (.block 9 (.block 10 (.block 11 (.block 12 (.block 13 (.block 14 (.loop (.block 15 (.skip)))))))))))))))))) (by kernel_rfl) (by kernel_rfl) (by kernel_rfl) (by kernel_rfl) (by kernel_rfl) rfl ?_
      repeat
        (refine lin_light (A1 := ?_) rfl rfl rfl rfl rfl (fun w' hS K hK => ?_) ?_ ?_
         rotate_left
         · obtain rfl := hS; go_step; exact hK
         · rfl)
      try refine lin_late ?_
      repeat
        (refine lin_light (A1 := ?_) rfl rfl rfl rfl rfl (fun w' hS K hK => ?_) ?_ ?_
         rotate_left
         · clear hS; go_step; exact hK
         · rfl)
      refine lin_end ?_
      go_wp2_with fail
      refine bodyPost_ret (v := .tuple #[.int .i64 i, .int .i64 s3, .bool true]) (by simp [results, Try.results24, go_sem]) rfl ?_
      rw [HEM.out]
      simp only [HD.out, hfl]
      exact ⟨trivial, hb0.drew⟩
  · have em : findM T s k = (0, 0, false) := if_pos hin
    rw [em]
    clear em
    obtain ⟨n, sy⟩ := k
    simp only [encK]
    go_enter Try.func24, Try.ntmps24
    go_wp2_with fail
    have hb1 : Below w.heap.size w (w.alloc (Obj.cells #[Value.string n, Value.int IntKind.i64 sy] 30)) := (Below.refl _ _).alloc (Nat.le_refl _) _
    have h1 := h.of_blocks (w' := w.alloc (Obj.cells #[Value.string n, Value.int IntKind.i64 sy] 30)) fun k hk _ => hb1.block k hk
    refine (is_tree h1 s).mono ?_
    rintro e w' ⟨rfl, rfl⟩
    simp only [hin, decide_false]
    go_wp2_with fail
    refine bodyPost_ret (v := .tuple #[.int .i64 0, .int .i64 0, .bool false]) (by simp [results, Try.results24, go_sem]) rfl ?_
    exact ⟨rfl, hb1⟩
end Go.Proofs.Ytopepkcmpogdoaa
