/- The walk of lintellaw14.ShapeDoes. -/
import Derived.Test.YtopepkcmpogdoaaPair
namespace Go.Proofs.Ytopepkcmpogdoaa
open Go.RowKit
set_option maxHeartbeats 400000
set_option maxRecDepth 100000

/-- what told answers -/
def ToldOK : Prop := ∀ (B0 B1 : Nat) (w : World) (tb rb : Nat) (m : TM) (r : RM) (s : Int), IsTree B0 w tb m.1 m.2 → IsRef B1 w rb r.1 r.2 → Sim m r → m.1.length ≤ 1000 → -1 ≤ s → s ≤ m.1.length →
  Calls Try.prog 17 #[.pointer (some ⟨tb, 0, none⟩), .pointer (some ⟨rb, 0, none⟩), .int .i64 s] w fun e w' => e = .returned (.bool true) ∧ Below w.heap.size w w'

theorem Fr.op {B : Nat} {w w' : World} {i : Nat} {cs : Array Value} (h : Fr B touchT w w') (ho : w.heap[i]? = some (.cells cs 32 (0, 0))) : w'.heap[i]? = some (.cells cs 32 (0, 0)) :=
  h.same _ _ ho (by show ¬ (_ = _ ∨ _ = _); decide)

theorem does_any (hTold : ToldOK) {w : World} {A : Option Addr} {c : Nat} {l : List OpT} (h : Ops w A l) (hok : ∀ o ∈ l, okOp o) (hl : l.length + fewS l ≤ 1099511627776) :
    Calls Try.prog 4 #[.slice A l.length c] w fun e w' => e = .returned (.bool true) ∧ Below w.heap.size w w' := by
  go_enter Try.func4, Try.ntmps4
  go_wp2_with fail
  refine (awake_any _).mono ?_
  rintro e w1 ⟨rfl, hb1⟩
  simp only
  go_wp2_with fail
  have s1 := hb1.size
  refine (few_any (h.below hb1) hl).mono ?_
  rintro e w2 ⟨rfl, hb2⟩
  have s2 := hb2.size
  simp only
  by_cases hfew : l.length + fewS l ≤ 300
  · simp only [hfew, decide_true]
    have HL := Lib.hid hl
    clear hl
    go_wp2_with fail
    refine (new_any _).mono ?_
    rintro e w3 ⟨rfl, hT, hb3⟩
    have s3 := hb3.size
    simp only
    go_wp2_with fail
    refine (new_ref _).mono ?_
    rintro e w4 ⟨rfl, hR, hb4⟩
    have s4 := hb4.size
    have hl300 : l.length ≤ 300 := by omega
    have hF300 : fewS l ≤ 300 := by omega
    have HF := Lib.hid hfew
    clear hfew
    simp only
    have hOps := (h.below hb1).below hb2
    have hT4 := hT.below hb4
    have hb24 : Below w2.heap.size w2 w4 := hb3.trans (hb4.mono s3)
    clear hT
    go_wp2_with fail
    go_loopw [23] (fun i wr => ∃ k : Nat, k ≤ l.length ∧ i = .int .i64 k ∧ IsTree w2.heap.size wr (w2.heap.size + 3) (stT l k).1 (stT l k).2 ∧ IsRef w3.heap.size wr (w3.heap.size + 1) (stR l k).1 (stR l k).2 ∧ Below w2.heap.size w2 wr ∧ w3.heap.size ≤ wr.heap.size)
      (fun i _ => l.length - (intOf i).toNat)
    case atStart => exact ⟨0, Nat.zero_le _, rfl, by simpa [stT] using hT4, by simpa [stR] using hR, hb24, s4⟩
    case round =>
      obtain ⟨k, hk, rfl, hTk, hRk, hbk, hsk⟩ := hrel
      obtain ⟨g1, g2, g3⟩ := stTR_good l k hk
      by_cases hlt : k < l.length
      · obtain ⟨o, ho⟩ : ∃ o, l[k]? = some o := ⟨l[k], List.getElem?_eq_getElem hlt⟩
        obtain ⟨b, off, hAe, c0, c1, c2, c3, c4, c5⟩ := hOps.below hbk k o ho
        have hmem := List.mem_of_getElem? ho
        have hoo := hok o hmem
        have hsize := few_size hmem hF300
        have hsT := stT_succ l k o ho
        have hsR := stR_succ l k o ho
        have hbn := hbk.size
        obtain ⟨o1, o2, ⟨o3, o4⟩, o5, o6⟩ := o
        simp only at c0 c1 c2 c3 c4 c5 hsize
        subst hAe
        have HSAME := Lib.hid g1.same
        by_cases hkind : o1 = 1
        · obtain ⟨q1, hS3⟩ := g1.change o2 (o3, o4) o5
          have hsT' : stT l (k + 1) = (changeM (stT l k) o2 (o3, o4) o5).1 := by rw [hsT]; exact if_pos hkind
          have hsR' : stR l (k + 1) = (changeD (stR l k) o2 (o3, o4) o5).1 := by rw [hsR]; exact if_pos hkind
          rw [← hsT', ← hsR'] at hS3
          have HST := Lib.hid hsT'
          have HSR := Lib.hid hsR'
          clear hsT hsR hsT' hsR'
          have hk1 : (o1 == 1) = true := by simpa using hkind
          go_wp2_with fail
          clear c0 c1 c2 c3 c4 c5
          refine (change_any (hTk.below ((Below.refl _ _).alloc (Nat.le_refl _) _)) o2 (o3, o4) o5 hoo.2.2.1 hoo.2.1 hoo.2.2.2.1 (by omega) (by simp; omega)).mono ?_
          rintro e W2 ⟨rfl, hT2, hF2⟩
          have hx2 := hF2.op (heap_new' (w := wr) rfl)
          have r1 := cell_block hx2 1
          have r2 := cell_block hx2 2
          have r3 := cell_block hx2 3
          have r4 := cell_block hx2 4
          simp at r1 r2 r3 r4
          have hR2 := (hRk.below ((Below.refl _ _).alloc (Nat.le_refl _) _)).fr hF2
          have hb2W : Below w2.heap.size w2 W2 := (hbk.alloc hbn _).trans hF2.below
          have sW2 : wr.heap.size ≤ W2.heap.size := by have := hF2.size; simp at this; omega
          have HR2 := Lib.hid hR2
          have HT2 := Lib.hid hT2
          clear hx2 hT2 hR2 hTk hRk
          simp only [show changeM ((stT l k).1, (stT l k).2) o2 (o3, o4) o5 = changeM (stT l k) o2 (o3, o4) o5 from rfl]
          go_wp2_with fail
          refine (change_doc HR2.out o2 (o3, o4) o5 (by simp only; omega) (by rw [← HSAME.out]; omega) (by omega) (by omega)).mono ?_
          rintro e W3 ⟨rfl, hR3, hF3⟩
          have hT3 := HT2.out.fr hF3
          change IsTree _ W3 _ (changeM (stT l k) o2 (o3, o4) o5).1.1 (changeM (stT l k) o2 (o3, o4) o5).1.2 at hT3
          change IsRef _ W3 _ (changeD (stR l k) o2 (o3, o4) o5).1.1 (changeD (stR l k) o2 (o3, o4) o5).1.2 at hR3
          rw [← HST.out] at hT3
          rw [← HSR.out] at hR3
          simp only [show changeM ((stT l k).1, (stT l k).2) o2 (o3, o4) o5 = changeM (stT l k) o2 (o3, o4) o5 from rfl, show changeD ((stR l k).1, (stR l k).2) o2 (o3, o4) o5 = changeD (stR l k) o2 (o3, o4) o5 from rfl, ← q1]
          clear q1 HST HSR r1 r2 r3 r4
          generalize (changeM (stT l k) o2 (o3, o4) o5).2.1 = x at *
          generalize (changeM (stT l k) o2 (o3, o4) o5).2.2 = er at *
          go_wp2_with fail
          obtain ⟨gr, capr, hc3⟩ := hR3.len
          have HS' := Lib.hid hS3.same
          have hT3' := hT3.below (w' := W3.drew) (Below.refl _ _).drew
          have HT3 := Lib.hid hT3
          have HR3 := Lib.hid hR3
          clear hT3 hR3
          have hbz : Below w2.heap.size w2 W3.drew := (hb2W.trans (hF3.below.mono (by omega))).drew
          have sz3 : w3.heap.size ≤ W3.heap.size := by have := hF3.size; omega
          rw [← HS'.out] at hc3
          have hc3' : W3.drew.cell? ⟨w3.heap.size + 1, 0, none⟩ = some (.slice (some ⟨gr, 0, none⟩) (stT l (k + 1)).1.length capr) := hc3
          clear hc3
          refine wp_region_lin (fun w' => w' = W3.drew) [] (.block 0 (.block 1 (.block 2 (.block 3 (.block 4 (.block 5 (.block 6 (.block 7 (.block 8 (.block 9 (.block 11 (.block 12 (.block 13 (.block 14 (.block 15 (.scope (.seq (.label 10) (.block 16 (.block 17 (.skip)))))))))))))))))))) (by kernel_rfl) (by kernel_rfl) (by kernel_rfl) (by kernel_rfl) (by kernel_rfl) rfl ?_
          repeat first
            | (refine lin_light (A1 := ?_) rfl rfl rfl rfl rfl (fun w' hS K hK => ?_) ?_ ?_
               rotate_left
               · obtain rfl := hS; go_step; exact hK
               · rfl)
            | (refine lin_skip rfl rfl ?_; simp only [Act.put, List.setIfInBounds_toArray, List.set_cons_zero, List.set_cons_succ])
          refine lin_group ?_
          refine lin_heavy rfl rfl (fun K hK => ?_)
          go_step
          refine (len_tree hT3').mono ?_
          rintro e w' ⟨rfl, rfl⟩
          simp only
          refine hK.out _ _ rfl ?_
          clear hK K
          repeat first
            | (refine lin_light (A1 := ?_) rfl rfl rfl rfl rfl (fun w' hS K hK => ?_) ?_ ?_
               rotate_left
               · obtain rfl := hS; go_step; exact hK
               · rfl)
            | (refine lin_skip rfl rfl ?_; simp only [Act.put, List.setIfInBounds_toArray, List.set_cons_zero, List.set_cons_succ])
          refine lin_end ?_
          go_wp2_with fail
          go_roundw
          case rel => first | exact ⟨k + 1, by omega, by go_num, HT3.out.below ((Below.refl _ _).drew), HR3.out.below ((Below.refl _ _).drew), hbz, sz3⟩ | ((repeat apply Exists.intro); exact ⟨⟨k + 1, by omega, by go_num, HT3.out.below ((Below.refl _ _).drew), HR3.out.below ((Below.refl _ _).drew), hbz, sz3⟩, rfl⟩)
          case measure => simp [intOf]; omega
        · obtain ⟨q1, hS3⟩ := g1.add o2 (o3, o4) o5
          have hsT' : stT l (k + 1) = (addM (stT l k) o2 (o3, o4) o5).1 := by rw [hsT]; exact if_neg hkind
          have hsR' : stR l (k + 1) = (addD (stR l k) o2 (o3, o4) o5).1 := by rw [hsR]; exact if_neg hkind
          rw [← hsT', ← hsR'] at hS3
          have HST := Lib.hid hsT'
          have HSR := Lib.hid hsR'
          clear hsT hsR hsT' hsR'
          have hk1 : (o1 == 1) = false := by simpa using hkind
          go_wp2_with fail
          clear c0 c1 c2 c3 c4 c5
          refine (add_any (hTk.below ((Below.refl _ _).alloc (Nat.le_refl _) _)) o2 (o3, o4) o5 hoo.2.2.1 hoo.2.1 hoo.2.2.2.1 (by omega) (by simp; omega)).mono ?_
          rintro e W2 ⟨rfl, hT2, hF2⟩
          have hx2 := hF2.op (heap_new' (w := wr) rfl)
          have r1 := cell_block hx2 1
          have r2 := cell_block hx2 2
          have r3 := cell_block hx2 3
          have r4 := cell_block hx2 4
          simp at r1 r2 r3 r4
          have hR2 := (hRk.below ((Below.refl _ _).alloc (Nat.le_refl _) _)).fr hF2
          have hb2W : Below w2.heap.size w2 W2 := (hbk.alloc hbn _).trans hF2.below
          have sW2 : wr.heap.size ≤ W2.heap.size := by have := hF2.size; simp at this; omega
          have HR2 := Lib.hid hR2
          have HT2 := Lib.hid hT2
          clear hx2 hT2 hR2 hTk hRk
          simp only [show addM ((stT l k).1, (stT l k).2) o2 (o3, o4) o5 = addM (stT l k) o2 (o3, o4) o5 from rfl]
          go_wp2_with fail
          refine (add_doc HR2.out o2 (o3, o4) o5 (by simp only; omega) (by rw [← HSAME.out]; omega) (by omega) (by omega)).mono ?_
          rintro e W3 ⟨rfl, hR3, hF3⟩
          have hT3 := HT2.out.fr hF3
          change IsTree _ W3 _ (addM (stT l k) o2 (o3, o4) o5).1.1 (addM (stT l k) o2 (o3, o4) o5).1.2 at hT3
          change IsRef _ W3 _ (addD (stR l k) o2 (o3, o4) o5).1.1 (addD (stR l k) o2 (o3, o4) o5).1.2 at hR3
          rw [← HST.out] at hT3
          rw [← HSR.out] at hR3
          simp only [show addM ((stT l k).1, (stT l k).2) o2 (o3, o4) o5 = addM (stT l k) o2 (o3, o4) o5 from rfl, show addD ((stR l k).1, (stR l k).2) o2 (o3, o4) o5 = addD (stR l k) o2 (o3, o4) o5 from rfl, ← q1]
          clear q1 HST HSR r1 r2 r3 r4
          generalize (addM (stT l k) o2 (o3, o4) o5).2.1 = x at *
          generalize (addM (stT l k) o2 (o3, o4) o5).2.2 = er at *
          go_wp2_with fail
          obtain ⟨gr, capr, hc3⟩ := hR3.len
          have HS' := Lib.hid hS3.same
          have hT3' := hT3.below (w' := W3.drew) (Below.refl _ _).drew
          have HT3 := Lib.hid hT3
          have HR3 := Lib.hid hR3
          clear hT3 hR3
          have hbz : Below w2.heap.size w2 W3.drew := (hb2W.trans (hF3.below.mono (by omega))).drew
          have sz3 : w3.heap.size ≤ W3.heap.size := by have := hF3.size; omega
          rw [← HS'.out] at hc3
          have hc3' : W3.drew.cell? ⟨w3.heap.size + 1, 0, none⟩ = some (.slice (some ⟨gr, 0, none⟩) (stT l (k + 1)).1.length capr) := hc3
          clear hc3
          refine wp_region_lin (fun w' => w' = W3.drew) [] (.block 0 (.block 1 (.block 2 (.block 3 (.block 4 (.block 5 (.block 6 (.block 7 (.block 8 (.block 9 (.block 11 (.block 12 (.block 13 (.block 14 (.block 15 (.scope (.seq (.label 10) (.block 16 (.block 17 (.skip)))))))))))))))))))) (by kernel_rfl) (by kernel_rfl) (by kernel_rfl) (by kernel_rfl) (by kernel_rfl) rfl ?_
          repeat first
            | (refine lin_light (A1 := ?_) rfl rfl rfl rfl rfl (fun w' hS K hK => ?_) ?_ ?_
               rotate_left
               · obtain rfl := hS; go_step; exact hK
               · rfl)
            | (refine lin_skip rfl rfl ?_; simp only [Act.put, List.setIfInBounds_toArray, List.set_cons_zero, List.set_cons_succ])
          refine lin_group ?_
          refine lin_heavy rfl rfl (fun K hK => ?_)
          go_step
          refine (len_tree hT3').mono ?_
          rintro e w' ⟨rfl, rfl⟩
          simp only
          refine hK.out _ _ rfl ?_
          clear hK K
          repeat first
            | (refine lin_light (A1 := ?_) rfl rfl rfl rfl rfl (fun w' hS K hK => ?_) ?_ ?_
               rotate_left
               · obtain rfl := hS; go_step; exact hK
               · rfl)
            | (refine lin_skip rfl rfl ?_; simp only [Act.put, List.setIfInBounds_toArray, List.set_cons_zero, List.set_cons_succ])
          refine lin_end ?_
          go_wp2_with fail
          go_roundw
          case rel => first | exact ⟨k + 1, by omega, by go_num, HT3.out.below ((Below.refl _ _).drew), HR3.out.below ((Below.refl _ _).drew), hbz, sz3⟩ | ((repeat apply Exists.intro); exact ⟨⟨k + 1, by omega, by go_num, HT3.out.below ((Below.refl _ _).drew), HR3.out.below ((Below.refl _ _).drew), hbz, sz3⟩, rfl⟩)
          case measure => simp [intOf]; omega
      · obtain rfl : k = l.length := by omega
        have HSAME := Lib.hid g1.same
        obtain ⟨gr, capr, hc3⟩ := hRk.len
        rw [← HSAME.out] at hc3
        go_wp2_with fail
        go_loopw [11] (fun i wr' => ∃ j : Nat, j ≤ (stT l l.length).1.length + 2 ∧ i = .int .i64 ((j : Int) - 1) ∧ Below wr.heap.size wr wr')
          (fun i _ => ((stT l l.length).1.length + 2) - (intOf i + 1).toNat)
        case atStart => exact ⟨0, Nat.zero_le _, rfl, Below.refl _ _⟩
        case round =>
          obtain ⟨j, hj, rfl, hbj⟩ := hrel
          have hc4 := (hbj.cell (World.block_lt_of_cell? _ _ hc3)).trans hc3
          by_cases hjl : (j : Int) - 1 ≤ (stT l l.length).1.length
          · go_wp2_with fail
            refine (hTold w2.heap.size w3.heap.size _ (w2.heap.size + 3) (w3.heap.size + 1) (stT l l.length) (stR l l.length) ((j : Int) - 1) (hTk.below hbj) (hRk.below hbj) g1 (by omega) (by omega) hjl).mono ?_
            rintro e w' ⟨rfl, hb'⟩
            simp only
            go_wp2_with fail
            refine ⟨⟨j + 1, by omega, by go_num, hbj.trans (hb'.mono hbj.size)⟩, by simp [intOf]; omega⟩
          · go_wp2_with fail
            go_ret
            exact ⟨rfl, hb1.trans ((hb2.trans ((hbk.trans (hbj.mono hbk.size)).mono s2)).mono s1)⟩
  · simp only [hfew, decide_false]
    go_wp2_with fail
    go_ret
    exact ⟨rfl, hb1.trans (hb2.mono s1)⟩
end Go.Proofs.Ytopepkcmpogdoaa
