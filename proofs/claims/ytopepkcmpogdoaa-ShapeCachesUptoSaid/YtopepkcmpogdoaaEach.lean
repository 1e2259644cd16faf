/- (*shape.Tree).Each: the iterator. -/
import Derived.Test.YtopepkcmpogdoaaTreeFind
import Derived.Test.YtopepkcmpogdoaaRound
import Derived.OwnWalkIn
import Derived.TacticsInMore
import Derived.LoopNIn
import Derived.LoopIn
namespace Go.Proofs.Ytopepkcmpogdoaa
open Go.RowKit
set_option maxHeartbeats 400000
set_option maxRecDepth 100000

abbrev SlP (p : Sl → Prop) := { x : Sl // p x }
abbrev SlO := SlP okSl
def encSl {p : Sl → Prop} (x : SlP p) : Array Value := #[encK (x.1.1, x.1.2.1), .int .i64 x.1.2.2]
/-- the slots of shape s, if there is such a shape -/
def atShape (T : List (List Sl)) (s : Int) : List Sl := if 0 ≤ s ∧ s < T.length then T.getD s.toNat [] else []

/-- Each: hands back the iterator -/
theorem each_any (w : World) (p : Option Addr) (s : Int) :
    Calls Try.prog 29 #[.pointer p, .int .i64 s] w fun e w' => e = .returned (.func (.func 40) #[] #[.pointer (some ⟨w.heap.size, 0, none⟩), .pointer (some ⟨w.heap.size + 1, 0, none⟩)]) ∧
      w' = (w.alloc (.cells #[.pointer p] 25)).alloc (.cells #[.int .i64 s] 3) := by
  go_enter Try.func29, Try.ntmps29
  go_wp2_with fail
  go_ret
  exact ⟨rfl, rfl⟩

theorem each1_in {p : Sl → Prop} (n : Nat) {B0 l Bt Bs b : Nat} {w0 : World} {T : List (List Sl)} {f : WK → Option Int} (s : Int) (xs : List (SlP p)) (hxs : xs.map (·.1) = atShape T s) (J Jx : List (SlP p) → World → Prop) (W : World)
    (h : IsTree B0 w0 b T f) (hW : Below w0.heap.size w0 W) (hJ : ∀ pre W W', J pre W → W.grownBy W' none → J pre W')
    (hY : ∀ pre x W, J pre W → pre.length < xs.length → YieldAt Fence.wide (n - 1) Try.prog l (encSl x) W fun e W' =>
      (e = .returned (.bool true) ∧ J (pre ++ [x]) W' ∧ Below w0.heap.size W W') ∨ (e = .returned (.bool false) ∧ Jx (pre ++ [x]) W'))
    (ht : W.cell? ⟨Bt, 0, none⟩ = some (.pointer (some ⟨b, 0, none⟩))) (hs : W.cell? ⟨Bs, 0, none⟩ = some (.int .i64 s)) (h0 : J [] W) :
    CallsIn Fence.wide n Try.prog 40 #[.func (.yield l) #[] #[], .pointer (some ⟨Bt, 0, none⟩), .pointer (some ⟨Bs, 0, none⟩)] W fun e W' => (∃ v, e = .returned v) ∧
      ((∃ ys, ys = xs ∧ J ys W') ∨ (∃ pre, pre <+: xs ∧ Jx pre W')) := by
  refine callsIn_of_wp Try.func40 rfl trivial ?_ rfl
  simp only [Try.ntmps40, List.size_toArray, List.length_cons, List.length_nil, Nat.reduceAdd, Nat.reduceSub, Array.replicate_succ, Array.replicate_zero, List.push_toArray, List.append_toArray, List.nil_append, List.cons_append]
  obtain ⟨vL, mw, sh, h0'⟩ := h
  have h := h0'.of_blocks (w' := W) fun k hk _ => hW.block k hk
  by_cases hin : 0 ≤ s ∧ s < T.length
  · obtain ⟨q, rfl⟩ : ∃ q : Nat, s = q := ⟨s.toNat, by omega⟩
    have hq : q < T.length := by omega
    obtain ⟨ls, hl⟩ : ∃ l, T[q]? = some l := ⟨T[q], List.getElem?_eq_getElem hq⟩
    obtain ⟨pr, hpr⟩ : ∃ pr, sh[q]? = some pr := ⟨sh[q]'(by rw [h.shl]; exact hq), List.getElem?_eq_getElem _⟩
    have hxl : xs.map (·.1) = ls := by
      rw [hxs, atShape, if_pos hin]
      simp [hl]
    have hlen : ls.length = xs.length := by rw [← hxl, List.length_map]
    obtain ⟨g, cap, rfl, hg1, hg2⟩ := h.form
    obtain ⟨pv, m⟩ := pr
    obtain ⟨⟨hsr, hsm, hsB, hsl, hsok⟩, hne⟩ := h0'.shapes q _ ls hpr hl
    obtain ⟨A, c, epv, hAc, hA1, hA2⟩ := row_slice hsr
    simp only at epv
    subst epv
    have cs0 := h.row.cells (g := g) rfl _ _ (shCells_at sh q _ hpr).1
    have cs1 := h.row.cells (g := g) rfl _ _ (shCells_at sh q _ hpr).2
    simp only [Addr.add_lit, Nat.zero_add] at cs0 cs1
    have c1 := h.c1
    have HXS := Lib.hid hxs
    have HHL := Lib.hid hl
    have HPR := Lib.hid hpr
    clear hxs hl hpr
    gi_wp2
    refine ⟨trivial, fun h => (by cases h), ?_⟩
    refine (callsIn_wide.2 (is_tree h q)).mono ?_
    rintro e w' ⟨rfl, rfl⟩
    simp only [hin, and_self, decide_true]
    gi_wp2
    refine wpIn_wide.2 ?_
    refine wp_region_lin (fun w' => w' = W.drew) [] (.block 0 (.block 1 (.block 2 (.block 3 (.block 4 (.block 5 (.block 6 (.block 7 (.block 8 (.block 9 (.skip))))))))))) (by kernel_rfl) (by kernel_rfl) (by kernel_rfl) (by kernel_rfl) (by kernel_rfl) rfl ?_
    repeat
      (refine lin_light (A1 := ?_) rfl rfl rfl rfl rfl (fun w' hS K hK => ?_) ?_ ?_
       rotate_left
       · obtain rfl := hS; go_step; exact hK
       · rfl)
    refine lin_end ?_
    gi_wp2
    gi_loopw [19] (fun i wr => ∃ k : Nat, k ≤ ls.length ∧ i = .int .i64 k ∧ J (xs.take k) wr ∧ Below w0.heap.size w0 wr)
      (fun i _ => ls.length - (intOf i).toNat)
    case atStart => exact ⟨0, Nat.zero_le _, rfl, hJ _ W _ (by simpa using h0) ⟨rfl, rfl, rfl, Nat.le_refl _, fun _ _ _ => rfl⟩, hW.drew⟩
    case round =>
      obtain ⟨k, hk, rfl, hJs, hbk⟩ := hrel
      by_cases hlt : k < ls.length
      · obtain ⟨x, hx⟩ : ∃ x, xs[k]? = some x := ⟨xs[k]'(by omega), List.getElem?_eq_getElem _⟩
        have hs1 : ls[k]? = some x.1 := by rw [← hxl, List.getElem?_map, hx]; rfl
        obtain ⟨⟨s1, s2, s3⟩, hxok⟩ := x
        obtain ⟨q0, q1, q2⟩ := slotCells_at ls k _ hs1
        obtain ⟨gs, cs, hA, _, hgs⟩ := hsr.form (by omega)
        have hAA : A = some ⟨gs, 0, none⟩ := by injection hA
        have r0 := (hA2 _ hAA).2 _ _ q0
        have r1 := (hA2 _ hAA).2 _ _ q1
        have r2 := (hA2 _ hAA).2 _ _ q2
        simp only [Addr.add_lit, Nat.zero_add] at r0 r1 r2
        have p0 := (hbk.cell (World.block_lt_of_cell? _ _ r0)).trans r0
        have p1 := (hbk.cell (World.block_lt_of_cell? _ _ r1)).trans r1
        have p2 := (hbk.cell (World.block_lt_of_cell? _ _ r2)).trans r2
        rw [hAA]
        clear q0 q1 q2 hA hAA r0 r1 r2
        have htk : xs.take (k + 1) = xs.take k ++ [⟨(s1, s2, s3), hxok⟩] := by
          rw [List.take_add_one, hx]
          rfl
        obtain ⟨fn, tmps, assign, body, hy, hR⟩ := hY (xs.take k) ⟨(s1, s2, s3), hxok⟩ (wr.alloc (.cells #[.string s1, .int .i64 s2, .int .i64 s3] 83)) (hJ _ _ _ hJs (World.grownBy_alloc _ _ _)) (by rw [List.length_take]; omega)
        simp only [encSl, encK] at hy
        gi_wp2
        refine ⟨fun h => (by cases h), hR.mono ?_⟩
        rintro e W3 (⟨rfl, hJ3, hk3⟩ | ⟨rfl, hJx3⟩)
        · gi_wp2
          go_roundw
          case rel => exact ⟨k + 1, by omega, by go_num, by rw [htk]; exact hJ3, (hbk.alloc hbk.size _).trans hk3⟩
          case measure => simp [intOf]; omega
        · gi_wp2
          refine bodyPost_ret (results_none rfl _ _ _) rfl ?_
          exact ⟨⟨_, rfl⟩, .inr ⟨_, by rw [← htk]; exact List.take_prefix _ _, hJx3⟩⟩
      · obtain rfl : k = ls.length := by omega
        gi_wp2
        go_end0
        exact ⟨⟨_, rfl⟩, .inl ⟨_, rfl, by rw [List.take_of_length_le (by omega)] at hJs; exact hJs⟩⟩
  · have hx0 : xs = [] := by
      rw [atShape, if_neg hin] at hxs
      simpa using hxs
    gi_wp2
    refine ⟨trivial, fun h => (by cases h), ?_⟩
    refine (callsIn_wide.2 (is_tree h s)).mono ?_
    rintro e w' ⟨rfl, rfl⟩
    simp only [hin, decide_false]
    gi_wp2
    refine bodyPost_ret (results_none rfl _ _ _) rfl ?_
    exact ⟨⟨_, rfl⟩, .inl ⟨[], hx0.symm, h0⟩⟩

theorem each_stops {p : Sl → Prop} (n : Nat) {B0 Bt Bs b : Nat} {w0 w : World} {T : List (List Sl)} {f : WK → Option Int} (h : IsTree B0 w0 b T f) (hw : Below w0.heap.size w0 w) (s : Int) (xs : List (SlP p)) (hxs : xs.map (·.1) = atShape T s)
    (ht : w.cell? ⟨Bt, 0, none⟩ = some (.pointer (some ⟨b, 0, none⟩))) (hs : w.cell? ⟨Bs, 0, none⟩ = some (.int .i64 s)) :
    SeqStopsK Fence.wide n Try.prog 40 #[.pointer (some ⟨Bt, 0, none⟩), .pointer (some ⟨Bs, 0, none⟩)] encSl (Below w0.heap.size) (fun ys => ys = xs) (fun pre => pre <+: xs) xs.length w := fun l J Jx W hW hJ _ hY h0 =>
  each1_in n s xs hxs J Jx W h (hw.trans (hW.mono hw.size)) (fun pre W W' hj hg => hJ pre W W' none hj hg (fun r e => by cases e)) hY
    ((hW.cell (World.block_lt_of_cell? _ _ ht)).trans ht) ((hW.cell (World.block_lt_of_cell? _ _ hs)).trans hs) h0

/-- each slot of a tree is ok -/
theorem slots_ok {B0 : Nat} {w : World} {b : Nat} {T : List (List Sl)} {f : WK → Option Int} (h : IsTree B0 w b T f) (s : Int) : ∃ xs : List SlO, xs.map (·.1) = atShape T s ∧ xs.length ≤ 128 := by
  obtain ⟨vL, mw, sh, h⟩ := h
  have hok : (∀ x ∈ atShape T s, okSl x) ∧ (atShape T s).length ≤ 128 := by
    unfold atShape
    split
    · rename_i hin
      have hq : s.toNat < T.length := by omega
      obtain ⟨ls, hl⟩ : ∃ l, T[s.toNat]? = some l := ⟨T[s.toNat], List.getElem?_eq_getElem hq⟩
      obtain ⟨pr, hpr⟩ : ∃ pr, sh[s.toNat]? = some pr := ⟨sh[s.toNat]'(by rw [h.shl]; exact hq), List.getElem?_eq_getElem _⟩
      have h1 := (h.shapes _ _ ls hpr hl).1
      have e : T.getD s.toNat [] = ls := by simp [hl]
      rw [e]
      exact ⟨h1.2.2.2.2, h1.2.2.2.1⟩
    · simp
  have ex : (List.pmap Subtype.mk (atShape T s) hok.1).map (·.1) = atShape T s := by rw [List.map_pmap]; simp
  exact ⟨_, ex, by simpa using hok.2⟩
end Go.Proofs.Ytopepkcmpogdoaa
