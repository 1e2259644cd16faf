/- The walk of checker.tries. -/
import Derived.Test.YtoihoackmkapaaaDoorKHead
import Derived.Test.YtoihoackmkapaaaDoorLin
namespace Go.Proofs.YtoihoackmkapaaaDoor
open Go.RowKit
set_option maxHeartbeats 4000000
set_option maxRecDepth 100000

def allN (p : Nat → Bool) : Nat → Nat → Bool
  | 0, _ => true
  | f + 1, i => p i && allN p f (i + 1)
theorem allN_step (p : Nat → Bool) {N k : Nat} (h : k < N) : allN p (N - k) k = (p k && allN p (N - (k + 1)) (k + 1)) := by
  rw [show N - k = (N - (k + 1)) + 1 by omega]
  rfl
theorem allN_end (p : Nat → Bool) {N k : Nat} (h : N ≤ k) : allN p (N - k) k = true := by
  rw [show N - k = 0 by omega]
  rfl
def tryB (f : FnT) (t : TryT) : Bool := decide (0 ≤ t.1 ∧ t.1 < t.2.1 ∧ t.2.1 ≤ f.code.length) && (regB f.code.length t.2.2.1 && regB f.regs t.2.2.2)
def compB (t o : TryT) : Bool := decide (o.2.1 ≤ t.1 ∨ t.2.1 ≤ o.1 ∨ (t.1 ≤ o.1 ∧ o.2.1 ≤ t.2.1))
def compP (l : List TryT) (t : TryT) (j : Nat) : Bool := match l[j]? with | some o => compB t o | none => true
def tryP (f : FnT) (k : Nat) : Bool := match f.tries[k]? with | some t => tryB f t && allN (compP f.tries t) k 0 | none => true
def triesB (f : FnT) : Bool := allN (tryP f) f.tries.length 0
theorem tryP_at {f : FnT} {k : Nat} {t : TryT} (h : f.tries[k]? = some t) : tryP f k = (tryB f t && allN (compP f.tries t) k 0) := by unfold tryP; rw [h]
theorem compP_at {l : List TryT} {t o : TryT} {j : Nat} (h : l[j]? = some o) : compP l t j = compB t o := by unfold compP; rw [h]

section
variable {w : World} {cb : Nat} {A : Option Addr} {m c : Nat} {at_ : Int} {f : FnT}
theorem Chk.drew (h : Chk w cb A m c at_ f) : Chk w.drew cb A m c at_ f := h
theorem tries_any (h : Chk w cb A m c at_ f) (hF : FnIn w w.heap.size f) (hl : f.tries.length ≤ 1000) :
    Calls Tryd.prog 21 #[.pointer (some ⟨cb, 0, none⟩)] w fun e w' => e = .returned (.bool (triesB f)) ∧ Below w.heap.size w w' := by
  obtain ⟨c0, c1, c2, c3, c4, c5, c6, c7, c8, c9, c10⟩ := h.cells
  have htr := hF.tr
  have htc := hF.tc
  obtain ⟨R, hR⟩ : ∃ R, triesB f = R := ⟨_, rfl⟩
  rw [hR]
  obtain ⟨nt, hnt⟩ : ∃ x, f.tries.length = x := ⟨_, rfl⟩
  obtain ⟨nk, hnk⟩ : ∃ x, f.code.length = x := ⟨_, rfl⟩
  have hR2 : allN (tryP f) (nt - 0) 0 = R := by rw [← hR, ← hnt]; rfl
  rw [hnt] at c9 hl htc
  rw [hnk] at c8
  obtain ⟨regs, hrg⟩ : ∃ x, f.regs = x := ⟨_, rfl⟩
  rw [hrg] at c6
  obtain ⟨TA, hTA⟩ : ∃ x, f.tA = x := ⟨_, rfl⟩
  rw [hTA] at c9 htr
  have HTA := Lib.hid hTA
  have HNT := Lib.hid hnt
  have HNK := Lib.hid hnk
  have HRG := Lib.hid hrg
  have HR2 := Lib.hid hR2
  clear hR hnt hnk hrg hR2 hTA
  go_enter Tryd.func21, Tryd.ntmps21
  go_wp2_with fail
  go_loopw [13] (fun i wr => ∃ k : Nat, k ≤ nt ∧ i = .int .i64 k ∧ allN (tryP f) (nt - k) k = R ∧ Below w.heap.size w wr)
    (fun i _ => nt - (intOf i).toNat)
  case atStart => exact ⟨0, Nat.zero_le _, rfl, HR2.out, Below.refl _ _⟩
  case round =>
    obtain ⟨k, hk, rfl, hall, hb⟩ := hrel
    have HALL := Lib.hid hall
    clear hall
    by_cases hlt : k < nt
    · obtain ⟨⟨t1, t2, t3, t4⟩, ht⟩ : ∃ t, f.tries[k]? = some t := ⟨f.tries[k]'(by have := HNT.out; omega), List.getElem?_eq_getElem _⟩
      obtain ⟨b, off, rfl, hbl, d0, d1, d2, d3⟩ := (htr.below hb (Nat.le_refl _)).try_ ht
      simp only at d0 d1 d2 d3
      have HST := Lib.hid (allN_step (tryP f) hlt)
      have HTP := Lib.hid (tryP_at ht)
      have hCr := h.below hb (Nat.le_refl _)
      have hw0 : (wr.alloc (.cells #[.int .i64 t1, .int .i64 t2, .int .i64 t3, .int .i64 t4] 65)).heap[wr.heap.size]? = some (.cells #[.int .i64 t1, .int .i64 t2, .int .i64 t3, .int .i64 t4] 65 (0, 0)) := heap_alloc_new wr _
      have hbW : Below w.heap.size w (wr.alloc (.cells #[.int .i64 t1, .int .i64 t2, .int .i64 t3, .int .i64 t4] 65)) := hb.alloc hb.size _
      have hsW : wr.heap.size < (wr.alloc (.cells #[.int .i64 t1, .int .i64 t2, .int .i64 t3, .int .i64 t4] 65)).heap.size := by simp
      obtain ⟨W, hW⟩ : ∃ W, wr.alloc (.cells #[.int .i64 t1, .int .i64 t2, .int .i64 t3, .int .i64 t4] 65) = W := ⟨_, rfl⟩
      rw [hW] at hw0 hbW hsW
      have x0 := cell_blockK hw0 0
      have x1 := cell_blockK hw0 1
      have x2 := cell_blockK hw0 2
      have x3 := cell_blockK hw0 3
      simp at x0 x1 x2 x3
      have hCW := h.below hbW (Nat.le_refl _)
      obtain ⟨_, _, _, _, _, _, e6, _, e8, e9, _⟩ := hCW.cells
      rw [HNT.out, HTA.out] at e9
      rw [HNK.out] at e8
      rw [HRG.out] at e6
      have hklt : k ≤ f.tC := by omega
      have htrW := htr.below hbW (Nat.le_refl _)
      have hsb := hb.size
      clear ht
      go_wp2_with fail
      clear hW
      by_cases g1 : t1 < 0
      · have hfin : R = false := by rw [← HALL.out, HST.out, HTP.out]; simp [tryB]; omega
        subst hfin
        refine wp_region_lin (fun w' => w' = W.drew) [] (.block 0 (.block 1 (.block 2 (.block 3 (.block 4 (.block 5 (.block 6 (.block 7 (.block 8 (.block 9 (.block 10 (.block 11 (.block 12 (.block 13 (.block 14 (.block 15 (.block 16 (.block 17 (.block 18 (.block 19 (.block 20 (.block 21 (.block 22 (.block 23 (.block 24 (.scope (.seq (.label 25) (.block 26 (.block 27 (.block 28 (.block 29 (.block 30 (.block 31 (.scope (.seq (.label 32) (.block 33 (.block 34 (.skip)))))))))))))))))))))))))))))))))))))) (by kernel_rfl) (by kernel_rfl) (by kernel_rfl) (by kernel_rfl) (by kernel_rfl) rfl ?_
        repeat first
          | (refine lin_light (A1 := ?_) rfl rfl rfl rfl rfl (fun w' hS K hK => ?_) ?_ ?_
             rotate_left
             · obtain rfl := hS; go_step; exact hK
             · rfl)
          | (refine lin_skip rfl rfl ?_; simp only [Act.put, List.setIfInBounds_toArray, List.set_cons_zero, List.set_cons_succ])
        refine lin_group ?_
        refine lin_skip_heavy rfl rfl rfl ?_
        simp only [Act.put, List.setIfInBounds_toArray, List.set_cons_zero, List.set_cons_succ]
        repeat first
          | (refine lin_light (A1 := ?_) rfl rfl rfl rfl rfl (fun w' hS K hK => ?_) ?_ ?_
             rotate_left
             · obtain rfl := hS; go_step; exact hK
             · rfl)
          | (refine lin_skip rfl rfl ?_; simp only [Act.put, List.setIfInBounds_toArray, List.set_cons_zero, List.set_cons_succ])
        refine lin_group ?_
        refine lin_skip_heavy rfl rfl rfl ?_
        simp only [Act.put, List.setIfInBounds_toArray, List.set_cons_zero, List.set_cons_succ]
        repeat first
          | (refine lin_light (A1 := ?_) rfl rfl rfl rfl rfl (fun w' hS K hK => ?_) ?_ ?_
             rotate_left
             · obtain rfl := hS; go_step; exact hK
             · rfl)
          | (refine lin_skip rfl rfl ?_; simp only [Act.put, List.setIfInBounds_toArray, List.set_cons_zero, List.set_cons_succ])
        refine lin_end ?_
        go_wp2_with fail
        go_ret
        exact ⟨rfl, hbW.drew⟩
      by_cases g2 : t2 ≤ t1
      · have hfin : R = false := by rw [← HALL.out, HST.out, HTP.out]; simp [tryB]; omega
        subst hfin
        refine wp_region_lin (fun w' => w' = W.drew) [] (.block 0 (.block 1 (.block 2 (.block 3 (.block 4 (.block 5 (.block 6 (.block 7 (.block 8 (.block 9 (.block 10 (.block 11 (.block 12 (.block 13 (.block 14 (.block 15 (.block 16 (.block 17 (.block 18 (.block 19 (.block 20 (.block 21 (.block 22 (.block 23 (.block 24 (.scope (.seq (.label 25) (.block 26 (.block 27 (.block 28 (.block 29 (.block 30 (.block 31 (.scope (.seq (.label 32) (.block 33 (.block 34 (.skip)))))))))))))))))))))))))))))))))))))) (by kernel_rfl) (by kernel_rfl) (by kernel_rfl) (by kernel_rfl) (by kernel_rfl) rfl ?_
        repeat first
          | (refine lin_light (A1 := ?_) rfl rfl rfl rfl rfl (fun w' hS K hK => ?_) ?_ ?_
             rotate_left
             · obtain rfl := hS; go_step; exact hK
             · rfl)
          | (refine lin_skip rfl rfl ?_; simp only [Act.put, List.setIfInBounds_toArray, List.set_cons_zero, List.set_cons_succ])
        refine lin_group ?_
        refine lin_skip_heavy rfl rfl rfl ?_
        simp only [Act.put, List.setIfInBounds_toArray, List.set_cons_zero, List.set_cons_succ]
        repeat first
          | (refine lin_light (A1 := ?_) rfl rfl rfl rfl rfl (fun w' hS K hK => ?_) ?_ ?_
             rotate_left
             · obtain rfl := hS; go_step; exact hK
             · rfl)
          | (refine lin_skip rfl rfl ?_; simp only [Act.put, List.setIfInBounds_toArray, List.set_cons_zero, List.set_cons_succ])
        refine lin_group ?_
        refine lin_skip_heavy rfl rfl rfl ?_
        simp only [Act.put, List.setIfInBounds_toArray, List.set_cons_zero, List.set_cons_succ]
        repeat first
          | (refine lin_light (A1 := ?_) rfl rfl rfl rfl rfl (fun w' hS K hK => ?_) ?_ ?_
             rotate_left
             · obtain rfl := hS; go_step; exact hK
             · rfl)
          | (refine lin_skip rfl rfl ?_; simp only [Act.put, List.setIfInBounds_toArray, List.set_cons_zero, List.set_cons_succ])
        refine lin_end ?_
        go_wp2_with fail
        go_ret
        exact ⟨rfl, hbW.drew⟩
      by_cases g3 : nk < t2
      · have hfin : R = false := by rw [← HALL.out, HST.out, HTP.out]; simp [tryB, HNK.out]; omega
        subst hfin
        refine wp_region_lin (fun w' => w' = W.drew) [] (.block 0 (.block 1 (.block 2 (.block 3 (.block 4 (.block 5 (.block 6 (.block 7 (.block 8 (.block 9 (.block 10 (.block 11 (.block 12 (.block 13 (.block 14 (.block 15 (.block 16 (.block 17 (.block 18 (.block 19 (.block 20 (.block 21 (.block 22 (.block 23 (.block 24 (.scope (.seq (.label 25) (.block 26 (.block 27 (.block 28 (.block 29 (.block 30 (.block 31 (.scope (.seq (.label 32) (.block 33 (.block 34 (.skip)))))))))))))))))))))))))))))))))))))) (by kernel_rfl) (by kernel_rfl) (by kernel_rfl) (by kernel_rfl) (by kernel_rfl) rfl ?_
        repeat first
          | (refine lin_light (A1 := ?_) rfl rfl rfl rfl rfl (fun w' hS K hK => ?_) ?_ ?_
             rotate_left
             · obtain rfl := hS; go_step; exact hK
             · rfl)
          | (refine lin_skip rfl rfl ?_; simp only [Act.put, List.setIfInBounds_toArray, List.set_cons_zero, List.set_cons_succ])
        refine lin_group ?_
        refine lin_skip_heavy rfl rfl rfl ?_
        simp only [Act.put, List.setIfInBounds_toArray, List.set_cons_zero, List.set_cons_succ]
        repeat first
          | (refine lin_light (A1 := ?_) rfl rfl rfl rfl rfl (fun w' hS K hK => ?_) ?_ ?_
             rotate_left
             · obtain rfl := hS; go_step; exact hK
             · rfl)
          | (refine lin_skip rfl rfl ?_; simp only [Act.put, List.setIfInBounds_toArray, List.set_cons_zero, List.set_cons_succ])
        refine lin_group ?_
        refine lin_skip_heavy rfl rfl rfl ?_
        simp only [Act.put, List.setIfInBounds_toArray, List.set_cons_zero, List.set_cons_succ]
        repeat first
          | (refine lin_light (A1 := ?_) rfl rfl rfl rfl rfl (fun w' hS K hK => ?_) ?_ ?_
             rotate_left
             · obtain rfl := hS; go_step; exact hK
             · rfl)
          | (refine lin_skip rfl rfl ?_; simp only [Act.put, List.setIfInBounds_toArray, List.set_cons_zero, List.set_cons_succ])
        refine lin_end ?_
        go_wp2_with fail
        go_ret
        exact ⟨rfl, hbW.drew⟩
      cases g4 : regB nk t3 with
      | false =>
        have hfin : R = false := by rw [← HALL.out, HST.out, HTP.out]; simp [tryB, HNK.out, g4]
        subst hfin
        refine wp_region_lin (fun w' => w' = W.drew) [] (.block 0 (.block 1 (.block 2 (.block 3 (.block 4 (.block 5 (.block 6 (.block 7 (.block 8 (.block 9 (.block 10 (.block 11 (.block 12 (.block 13 (.block 14 (.block 15 (.block 16 (.block 17 (.block 18 (.block 19 (.block 20 (.block 21 (.block 22 (.block 23 (.block 24 (.scope (.seq (.label 25) (.block 26 (.block 27 (.block 28 (.block 29 (.block 30 (.block 31 (.scope (.seq (.label 32) (.block 33 (.block 34 (.skip)))))))))))))))))))))))))))))))))))))) (by kernel_rfl) (by kernel_rfl) (by kernel_rfl) (by kernel_rfl) (by kernel_rfl) rfl ?_
        repeat first
          | (refine lin_light (A1 := ?_) rfl rfl rfl rfl rfl (fun w' hS K hK => ?_) ?_ ?_
             rotate_left
             · obtain rfl := hS; go_step; exact hK
             · rfl)
          | (refine lin_skip rfl rfl ?_; simp only [Act.put, List.setIfInBounds_toArray, List.set_cons_zero, List.set_cons_succ])
        refine lin_group ?_
        refine lin_heavy rfl rfl (fun K hK => ?_)
        go_step
        refine (target_any hCW.drew t3).mono ?_
        rintro e w6 ⟨rfl, rfl⟩
        rw [HNK.out]
        simp only
        rw [g4]
        refine hK.out _ _ rfl ?_
        clear hK K
        repeat first
          | (refine lin_light (A1 := ?_) rfl rfl rfl rfl rfl (fun w' hS K hK => ?_) ?_ ?_
             rotate_left
             · obtain rfl := hS; go_step; exact hK
             · rfl)
          | (refine lin_skip rfl rfl ?_; simp only [Act.put, List.setIfInBounds_toArray, List.set_cons_zero, List.set_cons_succ])
        refine lin_group ?_
        refine lin_skip_heavy rfl rfl rfl ?_
        simp only [Act.put, List.setIfInBounds_toArray, List.set_cons_zero, List.set_cons_succ]
        repeat first
          | (refine lin_light (A1 := ?_) rfl rfl rfl rfl rfl (fun w' hS K hK => ?_) ?_ ?_
             rotate_left
             · obtain rfl := hS; go_step; exact hK
             · rfl)
          | (refine lin_skip rfl rfl ?_; simp only [Act.put, List.setIfInBounds_toArray, List.set_cons_zero, List.set_cons_succ])
        refine lin_end ?_
        go_wp2_with fail
        go_ret
        exact ⟨rfl, hbW.drew⟩
      | true =>
        cases g5 : regB regs t4 with
        | false =>
          have hfin : R = false := by rw [← HALL.out, HST.out, HTP.out]; simp [tryB, HNK.out, g4, HRG.out, g5]
          subst hfin
          refine wp_region_lin (fun w' => w' = W.drew) [] (.block 0 (.block 1 (.block 2 (.block 3 (.block 4 (.block 5 (.block 6 (.block 7 (.block 8 (.block 9 (.block 10 (.block 11 (.block 12 (.block 13 (.block 14 (.block 15 (.block 16 (.block 17 (.block 18 (.block 19 (.block 20 (.block 21 (.block 22 (.block 23 (.block 24 (.scope (.seq (.label 25) (.block 26 (.block 27 (.block 28 (.block 29 (.block 30 (.block 31 (.scope (.seq (.label 32) (.block 33 (.block 34 (.skip)))))))))))))))))))))))))))))))))))))) (by kernel_rfl) (by kernel_rfl) (by kernel_rfl) (by kernel_rfl) (by kernel_rfl) rfl ?_
          repeat first
            | (refine lin_light (A1 := ?_) rfl rfl rfl rfl rfl (fun w' hS K hK => ?_) ?_ ?_
               rotate_left
               · obtain rfl := hS; go_step; exact hK
               · rfl)
            | (refine lin_skip rfl rfl ?_; simp only [Act.put, List.setIfInBounds_toArray, List.set_cons_zero, List.set_cons_succ])
          refine lin_group ?_
          refine lin_heavy rfl rfl (fun K hK => ?_)
          go_step
          refine (target_any hCW.drew t3).mono ?_
          rintro e w6 ⟨rfl, rfl⟩
          rw [HNK.out]
          simp only
          rw [g4]
          refine hK.out _ _ rfl ?_
          clear hK K
          repeat first
            | (refine lin_light (A1 := ?_) rfl rfl rfl rfl rfl (fun w' hS K hK => ?_) ?_ ?_
               rotate_left
               · obtain rfl := hS; go_step; exact hK
               · rfl)
            | (refine lin_skip rfl rfl ?_; simp only [Act.put, List.setIfInBounds_toArray, List.set_cons_zero, List.set_cons_succ])
          refine lin_group ?_
          refine lin_heavy rfl rfl (fun K hK => ?_)
          go_step
          refine (register_any hCW.drew t4).mono ?_
          rintro e w6 ⟨rfl, rfl⟩
          simp only
          rw [HRG.out, g5]
          refine hK.out _ _ rfl ?_
          clear hK K
          repeat first
            | (refine lin_light (A1 := ?_) rfl rfl rfl rfl rfl (fun w' hS K hK => ?_) ?_ ?_
               rotate_left
               · obtain rfl := hS; go_step; exact hK
               · rfl)
            | (refine lin_skip rfl rfl ?_; simp only [Act.put, List.setIfInBounds_toArray, List.set_cons_zero, List.set_cons_succ])
          refine lin_end ?_
          go_wp2_with fail
          go_ret
          exact ⟨rfl, hbW.drew⟩
        | true =>
          have htb : tryB f (t1, t2, t3, t4) = true := by simp [tryB, HNK.out, g4, HRG.out, g5]; omega
          have HTB := Lib.hid htb
          clear htb
          refine wp_region_lin (fun w' => w' = W.drew) [] (.block 0 (.block 1 (.block 2 (.block 3 (.block 4 (.block 5 (.block 6 (.block 7 (.block 8 (.block 9 (.block 10 (.block 11 (.block 12 (.block 13 (.block 14 (.block 15 (.block 16 (.block 17 (.block 18 (.block 19 (.block 20 (.block 21 (.block 22 (.block 23 (.block 24 (.scope (.seq (.label 25) (.block 26 (.block 27 (.block 28 (.block 29 (.block 30 (.block 31 (.scope (.seq (.label 32) (.block 33 (.block 34 (.skip)))))))))))))))))))))))))))))))))))))) (by kernel_rfl) (by kernel_rfl) (by kernel_rfl) (by kernel_rfl) (by kernel_rfl) rfl ?_
          repeat first
            | (refine lin_light (A1 := ?_) rfl rfl rfl rfl rfl (fun w' hS K hK => ?_) ?_ ?_
               rotate_left
               · obtain rfl := hS; go_step; exact hK
               · rfl)
            | (refine lin_skip rfl rfl ?_; simp only [Act.put, List.setIfInBounds_toArray, List.set_cons_zero, List.set_cons_succ])
          refine lin_group ?_
          refine lin_heavy rfl rfl (fun K hK => ?_)
          go_step
          refine (target_any hCW.drew t3).mono ?_
          rintro e w6 ⟨rfl, rfl⟩
          rw [HNK.out]
          simp only
          rw [g4]
          refine hK.out _ _ rfl ?_
          clear hK K
          repeat first
            | (refine lin_light (A1 := ?_) rfl rfl rfl rfl rfl (fun w' hS K hK => ?_) ?_ ?_
               rotate_left
               · obtain rfl := hS; go_step; exact hK
               · rfl)
            | (refine lin_skip rfl rfl ?_; simp only [Act.put, List.setIfInBounds_toArray, List.set_cons_zero, List.set_cons_succ])
          refine lin_group ?_
          refine lin_heavy rfl rfl (fun K hK => ?_)
          go_step
          refine (register_any hCW.drew t4).mono ?_
          rintro e w6 ⟨rfl, rfl⟩
          simp only
          rw [HRG.out, g5]
          refine hK.out _ _ rfl ?_
          clear hK K
          repeat first
            | (refine lin_light (A1 := ?_) rfl rfl rfl rfl rfl (fun w' hS K hK => ?_) ?_ ?_
               rotate_left
               · obtain rfl := hS; go_step; exact hK
               · rfl)
            | (refine lin_skip rfl rfl ?_; simp only [Act.put, List.setIfInBounds_toArray, List.set_cons_zero, List.set_cons_succ])
          refine lin_end ?_
          go_wp2_with fail
          obtain ⟨C, hC⟩ : ∃ C, allN (compP f.tries (t1, t2, t3, t4)) k 0 = C := ⟨_, rfl⟩
          have HC := Lib.hid hC
          go_loopw [61] (fun j wr => ∃ q : Nat, q ≤ k ∧ j = .int .i64 q ∧ allN (compP f.tries (t1, t2, t3, t4)) (k - q) q = C ∧ Below W.heap.size W wr)
            (fun j _ => k - (intOf j).toNat)
          case atStart => exact ⟨0, Nat.zero_le _, rfl, HC.out, (Below.refl _ _).drew⟩
          case round =>
            obtain ⟨q, hq, rfl, hcq, hbq⟩ := hrel
            have HCQ := Lib.hid hcq
            clear hcq
            have hbz : Below w.heap.size w wr := hbW.trans (hbq.mono hbW.size)
            have hbzz : Below W.heap.size W wr := hbq
            by_cases hql : q < k
            · obtain ⟨⟨o1, o2, o3, o4⟩, ho⟩ : ∃ o, f.tries[q]? = some o := ⟨f.tries[q]'(by have := HNT.out; omega), List.getElem?_eq_getElem _⟩
              obtain ⟨b', off', hA', _, y0, y1, y2, y3⟩ := (htr.below hbz (Nat.le_refl _)).try_ ho
              simp only at y0 y1 y2 y3
              have hbe : b' = b ∧ off' = off := by injection hA' with hA'; injection hA' with h1 h2; exact ⟨h1.symm, h2.symm⟩
              obtain ⟨rfl, rfl⟩ := hbe
              have HSQ := Lib.hid (allN_step (compP f.tries (t1, t2, t3, t4)) hql)
              have HCP := Lib.hid (compP_at (t := (t1, t2, t3, t4)) ho)
              have z0 := (hbq.cell (World.block_lt_of_cell? _ _ x0)).trans x0
              have z1 := (hbq.cell (World.block_lt_of_cell? _ _ x1)).trans x1
              have hsq := hbq.size
              have hbn : Below W.heap.size W (wr.alloc (.cells #[.int .i64 o1, .int .i64 o2, .int .i64 o3, .int .i64 o4] 65)) := hbq.alloc hbq.size _
              have hwn : (wr.alloc (.cells #[.int .i64 o1, .int .i64 o2, .int .i64 o3, .int .i64 o4] 65)).heap[wr.heap.size]? = some (.cells #[.int .i64 o1, .int .i64 o2, .int .i64 o3, .int .i64 o4] 65 (0, 0)) := heap_alloc_new wr _
              obtain ⟨wn, hwn'⟩ : ∃ wn, wr.alloc (.cells #[.int .i64 o1, .int .i64 o2, .int .i64 o3, .int .i64 o4] 65) = wn := ⟨_, rfl⟩
              rw [hwn'] at hbn hwn
              have p0 := cell_blockK hwn 0
              have p1 := cell_blockK hwn 1
              simp at p0 p1
              have q0 := (hbn.cell (World.block_lt_of_cell? _ _ x0)).trans x0
              have q1 := (hbn.cell (World.block_lt_of_cell? _ _ x1)).trans x1
              have hbnz : Below w.heap.size w wn := hbW.trans (hbn.mono hbW.size)
              clear ho z0 z1
              by_cases k1 : o2 ≤ t1
              · have hcb : compB (t1, t2, t3, t4) (o1, o2, o3, o4) = true := by show decide (o2 ≤ t1 ∨ t2 ≤ o1 ∨ (t1 ≤ o1 ∧ o2 ≤ t2)) = true; rw [decide_eq_true_eq]; omega
                have HCB2 := Lib.hid hcb
                clear hcb
                go_wp2_with fail
                go_roundw
                case rel => exact ⟨q + 1, by omega, by go_num, by rw [← HCQ.out, HSQ.out, HCP.out, HCB2.out]; rfl, hbn⟩
                case measure => simp [intOf]; omega
              by_cases k2 : t2 ≤ o1
              · have hcb : compB (t1, t2, t3, t4) (o1, o2, o3, o4) = true := by show decide (o2 ≤ t1 ∨ t2 ≤ o1 ∨ (t1 ≤ o1 ∧ o2 ≤ t2)) = true; rw [decide_eq_true_eq]; omega
                have HCB2 := Lib.hid hcb
                clear hcb
                go_wp2_with fail
                go_roundw
                case rel => exact ⟨q + 1, by omega, by go_num, by rw [← HCQ.out, HSQ.out, HCP.out, HCB2.out]; rfl, hbn⟩
                case measure => simp [intOf]; omega
              by_cases k3 : o1 < t1
              · have hcf : compB (t1, t2, t3, t4) (o1, o2, o3, o4) = false := by show decide (o2 ≤ t1 ∨ t2 ≤ o1 ∨ (t1 ≤ o1 ∧ o2 ≤ t2)) = false; rw [decide_eq_false_iff_not]; omega
                have hfin : R = false := by rw [← HALL.out, HST.out, HTP.out, HC.out, ← HCQ.out, HSQ.out, HCP.out, hcf]; simp
                clear hcf
                subst hfin
                go_wp2_with fail
                go_ret
                exact ⟨rfl, hbnz⟩
              by_cases k4 : t2 < o2
              · have hcf : compB (t1, t2, t3, t4) (o1, o2, o3, o4) = false := by show decide (o2 ≤ t1 ∨ t2 ≤ o1 ∨ (t1 ≤ o1 ∧ o2 ≤ t2)) = false; rw [decide_eq_false_iff_not]; omega
                have hfin : R = false := by rw [← HALL.out, HST.out, HTP.out, HC.out, ← HCQ.out, HSQ.out, HCP.out, hcf]; simp
                clear hcf
                subst hfin
                go_wp2_with fail
                go_ret
                exact ⟨rfl, hbnz⟩
              · have hcb : compB (t1, t2, t3, t4) (o1, o2, o3, o4) = true := by show decide (o2 ≤ t1 ∨ t2 ≤ o1 ∨ (t1 ≤ o1 ∧ o2 ≤ t2)) = true; rw [decide_eq_true_eq]; omega
                have HCB2 := Lib.hid hcb
                clear hcb
                go_wp2_with fail
                go_roundw
                case rel => exact ⟨q + 1, by omega, by go_num, by rw [← HCQ.out, HSQ.out, HCP.out, HCB2.out]; rfl, hbn⟩
                case measure => simp [intOf]; omega
            · have hcC : C = true := by rw [← HCQ.out, allN_end _ (by omega)]
              go_wp2_with fail
              go_roundw
              case rel =>
                have hR3 : allN (tryP f) (nt - (k + 1)) (k + 1) = R := by rw [← HALL.out, HST.out, HTP.out, HTB.out, HC.out, hcC]; rfl
                first | exact ⟨k + 1, by omega, by go_num, hR3, hbz⟩ | ((repeat apply Exists.intro); exact ⟨⟨k + 1, by omega, by go_num, hR3, hbz⟩, rfl⟩)
              case measure => simp [intOf]; omega
    · have hfin : R = true := by rw [← HALL.out, allN_end _ (by omega)]
      subst hfin
      go_wp2_with fail
      go_ret
      exact ⟨rfl, hb⟩
end
end Go.Proofs.YtoihoackmkapaaaDoor
