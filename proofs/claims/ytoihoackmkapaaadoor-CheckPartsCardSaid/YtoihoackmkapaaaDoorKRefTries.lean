/- The walk of lintelref12.tries. -/
import Derived.Test.YtoihoackmkapaaaDoorKTries
namespace Go.Proofs.YtoihoackmkapaaaDoor
open Go.RowKit
set_option maxHeartbeats 4000000
set_option maxRecDepth 100000

section
variable {w : World} {f : FnT}
theorem reftries_any (hF : FnIn w w.heap.size f) (hl : f.tries.length ≤ 1000) :
    Calls Tryd.prog 24 #[.agg (fnC f).toArray] w fun e w' => e = .returned (.bool (triesB f)) ∧ Below w.heap.size w w' := by
  obtain ⟨R, hR⟩ : ∃ R, triesB f = R := ⟨_, rfl⟩
  rw [hR]
  obtain ⟨nt, hnt⟩ : ∃ x, f.tries.length = x := ⟨_, rfl⟩
  obtain ⟨nk, hnk⟩ : ∃ x, f.code.length = x := ⟨_, rfl⟩
  obtain ⟨regs, hrg⟩ : ∃ x, f.regs = x := ⟨_, rfl⟩
  obtain ⟨TA, hTA⟩ : ∃ x, f.tA = x := ⟨_, rfl⟩
  have hR2 : allN (tryP f) (nt - 0) 0 = R := by rw [← hR, ← hnt]; rfl
  simp only [fnC, hnt, hnk, hrg, hTA]
  have hb00 : Below w.heap.size w (w.alloc (.cells #[.string f.name, .int .i64 f.params, .bool f.rest, .bool f.arrow, .int .i64 regs, .slice f.cA f.consts.length f.cC, .slice f.kA nk f.kC, .slice TA nt f.tC, .slice f.uA f.caps.length f.uC] 38)) := (Below.refl _ _).alloc (Nat.le_refl _) _
  have hbx : (w.alloc (.cells #[.string f.name, .int .i64 f.params, .bool f.rest, .bool f.arrow, .int .i64 regs, .slice f.cA f.consts.length f.cC, .slice f.kA nk f.kC, .slice TA nt f.tC, .slice f.uA f.caps.length f.uC] 38)).heap[w.heap.size]? = some (.cells #[.string f.name, .int .i64 f.params, .bool f.rest, .bool f.arrow, .int .i64 regs, .slice f.cA f.consts.length f.cC, .slice f.kA nk f.kC, .slice TA nt f.tC, .slice f.uA f.caps.length f.uC] 38 (0, 0)) := heap_alloc_new w _
  have hsz0 : (w.alloc (.cells #[.string f.name, .int .i64 f.params, .bool f.rest, .bool f.arrow, .int .i64 regs, .slice f.cA f.consts.length f.cC, .slice f.kA nk f.kC, .slice TA nt f.tC, .slice f.uA f.caps.length f.uC] 38)).heap.size = w.heap.size + 1 := by simp
  obtain ⟨w0, hw0⟩ : ∃ w0, w.alloc (.cells #[.string f.name, .int .i64 f.params, .bool f.rest, .bool f.arrow, .int .i64 regs, .slice f.cA f.consts.length f.cC, .slice f.kA nk f.kC, .slice TA nt f.tC, .slice f.uA f.caps.length f.uC] 38) = w0 := ⟨_, rfl⟩
  rw [hw0] at hb00 hbx hsz0
  have c4 := cell_blockK hbx 4
  have c6 := cell_blockK hbx 6
  have c7 := cell_blockK hbx 7
  simp at c4 c6 c7
  have hF := hF.below hb00 (by omega : w.heap.size ≤ w0.heap.size)
  have htr := hF.tr
  have htc := hF.tc
  rw [hTA] at htr
  rw [hnt] at htc hl
  have HTA := Lib.hid hTA
  have HNT := Lib.hid hnt
  have HNK := Lib.hid hnk
  have HRG := Lib.hid hrg
  have HR2 := Lib.hid hR2
  clear hR hnt hnk hrg hR2 hTA
  go_enter Tryd.func24, Tryd.ntmps24
  go_wp2_with fail
  clear hw0
  go_loopw [12] (fun i wr => ∃ k : Nat, k ≤ nt ∧ i = .int .i64 k ∧ allN (tryP f) (nt - k) k = R ∧ Below w0.heap.size w0 wr)
    (fun i _ => nt - (intOf i).toNat)
  case atStart => exact ⟨0, Nat.zero_le _, rfl, HR2.out, Below.refl _ _⟩
  case round =>
    obtain ⟨k, hk, rfl, hall, hb⟩ := hrel
    have HALL := Lib.hid hall
    clear hall
    by_cases hlt : k < nt
    · obtain ⟨⟨t1, t2, t3, t4⟩, ht⟩ : ∃ t, f.tries[k]? = some t := ⟨f.tries[k]'(by have := HNT.out; omega), List.getElem?_eq_getElem _⟩
      obtain ⟨b, off, rfl, hbl, d0, d1, d2, d3⟩ := (htr.below hb (Nat.le_refl _)).try_ ht
      simp only at d0 d1 d2 d3
      have HST := Lib.hid (allN_step (tryP f) hlt)
      have HTP := Lib.hid (tryP_at ht)
      have hw1 : (wr.alloc (.cells #[.int .i64 t1, .int .i64 t2, .int .i64 t3, .int .i64 t4] 65)).heap[wr.heap.size]? = some (.cells #[.int .i64 t1, .int .i64 t2, .int .i64 t3, .int .i64 t4] 65 (0, 0)) := heap_alloc_new wr _
      have hbW : Below w0.heap.size w0 (wr.alloc (.cells #[.int .i64 t1, .int .i64 t2, .int .i64 t3, .int .i64 t4] 65)) := hb.alloc hb.size _
      obtain ⟨W, hW⟩ : ∃ W, wr.alloc (.cells #[.int .i64 t1, .int .i64 t2, .int .i64 t3, .int .i64 t4] 65) = W := ⟨_, rfl⟩
      rw [hW] at hw1 hbW
      have x0 := cell_blockK hw1 0
      have x1 := cell_blockK hw1 1
      have x2 := cell_blockK hw1 2
      have x3 := cell_blockK hw1 3
      simp at x0 x1 x2 x3
      have e4 := (hbW.cell (World.block_lt_of_cell? _ _ c4)).trans c4
      have e6 := (hbW.cell (World.block_lt_of_cell? _ _ c6)).trans c6
      have e7 := (hbW.cell (World.block_lt_of_cell? _ _ c7)).trans c7
      have hklt : k ≤ f.tC := by omega
      have hsb := hb.size
      have htbd : tryB f (t1, t2, t3, t4) = (decide (0 ≤ t1 ∧ t1 < t2 ∧ t2 ≤ (nk : Int)) && (regB nk t3 && regB regs t4)) := by unfold tryB; rw [HNK.out, HRG.out]
      have HTBD := Lib.hid htbd
      clear ht htbd
      by_cases g1 : t1 < 0
      · have hfin : R = false := by rw [← HALL.out, HST.out, HTP.out, HTBD.out, decide_eq_false (by omega)]; rfl
        subst hfin
        go_wp2_with fail
        go_ret
        exact ⟨rfl, hb00.trans (hbW.mono (by omega))⟩
      by_cases g2 : t2 ≤ t1
      · have hfin : R = false := by rw [← HALL.out, HST.out, HTP.out, HTBD.out, decide_eq_false (by omega)]; rfl
        subst hfin
        go_wp2_with fail
        go_ret
        exact ⟨rfl, hb00.trans (hbW.mono (by omega))⟩
      by_cases g3 : nk < t2
      · have hfin : R = false := by rw [← HALL.out, HST.out, HTP.out, HTBD.out, decide_eq_false (by omega)]; rfl
        subst hfin
        go_wp2_with fail
        go_ret
        exact ⟨rfl, hb00.trans (hbW.mono (by omega))⟩
      by_cases g4 : t3 < 0
      · have hfin : R = false := by rw [← HALL.out, HST.out, HTP.out, HTBD.out, regB_neg g4]; simp
        subst hfin
        go_wp2_with fail
        go_ret
        exact ⟨rfl, hb00.trans (hbW.mono (by omega))⟩
      by_cases g5 : (nk : Int) ≤ t3
      · have hfin : R = false := by rw [← HALL.out, HST.out, HTP.out, HTBD.out, regB_pos (by omega), decide_eq_false (by omega : ¬ t3 < (nk : Int))]; simp
        subst hfin
        go_wp2_with fail
        go_ret
        exact ⟨rfl, hb00.trans (hbW.mono (by omega))⟩
      by_cases g6 : t4 < 0
      · have hfin : R = false := by rw [← HALL.out, HST.out, HTP.out, HTBD.out, regB_neg g6]; simp
        subst hfin
        go_wp2_with fail
        go_ret
        exact ⟨rfl, hb00.trans (hbW.mono (by omega))⟩
      by_cases g7 : regs ≤ t4
      · have hfin : R = false := by rw [← HALL.out, HST.out, HTP.out, HTBD.out, regB_pos (r := regs) (by omega), decide_eq_false (by omega : ¬ t4 < regs)]; simp
        subst hfin
        go_wp2_with fail
        go_ret
        exact ⟨rfl, hb00.trans (hbW.mono (by omega))⟩
      have htb : tryB f (t1, t2, t3, t4) = true := by rw [HTBD.out, regB_pos (by omega), regB_pos (by omega), decide_eq_true (by omega), decide_eq_true (by omega), decide_eq_true (by omega)]; rfl
      have HTB := Lib.hid htb
      clear htb
      go_wp2_with fail
      clear hW
      obtain ⟨C, hC⟩ : ∃ C, allN (compP f.tries (t1, t2, t3, t4)) k 0 = C := ⟨_, rfl⟩
      have HC := Lib.hid hC
      go_loopw [65] (fun j wr => ∃ q : Nat, q ≤ k ∧ j = .int .i64 q ∧ allN (compP f.tries (t1, t2, t3, t4)) (k - q) q = C ∧ Below W.heap.size W wr)
        (fun j _ => k - (intOf j).toNat)
      case atStart => exact ⟨0, Nat.zero_le _, rfl, HC.out, Below.refl _ _⟩
      case round =>
        obtain ⟨q, hq, rfl, hcq, hbq⟩ := hrel
        have HCQ := Lib.hid hcq
        clear hcq
        have hbz : Below w0.heap.size w0 wr := hbW.trans (hbq.mono hbW.size)
        by_cases hql : q < k
        · obtain ⟨⟨o1, o2, o3, o4⟩, ho⟩ : ∃ o, f.tries[q]? = some o := ⟨f.tries[q]'(by have := HNT.out; omega), List.getElem?_eq_getElem _⟩
          obtain ⟨b', off', hA', _, y0, y1, y2, y3⟩ := (htr.below hbz (Nat.le_refl _)).try_ ho
          simp only at y0 y1 y2 y3
          have hbe : b' = b ∧ off' = off := by injection hA' with hA'; injection hA' with h1 h2; exact ⟨h1.symm, h2.symm⟩
          obtain ⟨rfl, rfl⟩ := hbe
          have HSQ := Lib.hid (allN_step (compP f.tries (t1, t2, t3, t4)) hql)
          have HCP := Lib.hid (compP_at (t := (t1, t2, t3, t4)) ho)
          have hsq := hbq.size
          have hbn : Below W.heap.size W (wr.alloc (.cells #[.int .i64 o1, .int .i64 o2, .int .i64 o3, .int .i64 o4] 65)) := hbq.alloc hbq.size _
          have hwn : (wr.alloc (.cells #[.int .i64 o1, .int .i64 o2, .int .i64 o3, .int .i64 o4] 65)).heap[wr.heap.size]? = some (.cells #[.int .i64 o1, .int .i64 o2, .int .i64 o3, .int .i64 o4] 65 (0, 0)) := heap_alloc_new wr _
          obtain ⟨wn, hwn'⟩ : ∃ wn, wr.alloc (.cells #[.int .i64 o1, .int .i64 o2, .int .i64 o3, .int .i64 o4] 65) = wn := ⟨_, rfl⟩
          rw [hwn'] at hbn hwn
          have p0 := cell_blockK hwn 0
          have p1 := cell_blockK hwn 1
          simp at p0 p1
          have q0 := (hbn.cell (World.block_lt_of_cell? _ _ x0)).trans x0
          have q1 := (hbn.cell (World.block_lt_of_cell? _ _ x1)).trans x1
          have hbnz : Below w0.heap.size w0 wn := hbW.trans (hbn.mono hbW.size)
          clear ho
          by_cases k1 : o2 ≤ t1
          · have k4 : o2 ≤ t2 := by omega
            by_cases k3 : t1 ≤ o1
            · have hcb : compB (t1, t2, t3, t4) (o1, o2, o3, o4) = true := by show decide (o2 ≤ t1 ∨ t2 ≤ o1 ∨ (t1 ≤ o1 ∧ o2 ≤ t2)) = true; rw [decide_eq_true_eq]; omega
              have HCB2 := Lib.hid hcb
              clear hcb
              have hC2 : allN (compP f.tries (t1, t2, t3, t4)) (k - (q + 1)) (q + 1) = C := by rw [← HCQ.out, HSQ.out, HCP.out, HCB2.out]; rfl
              go_wp2_with fail
              all_goals go_roundw
              all_goals first | exact ⟨q + 1, by omega, by go_num, hC2, hbn⟩ | (simp [intOf]; omega)
            · have hcb : compB (t1, t2, t3, t4) (o1, o2, o3, o4) = true := by show decide (o2 ≤ t1 ∨ t2 ≤ o1 ∨ (t1 ≤ o1 ∧ o2 ≤ t2)) = true; rw [decide_eq_true_eq]; omega
              have HCB2 := Lib.hid hcb
              clear hcb
              have hC2 : allN (compP f.tries (t1, t2, t3, t4)) (k - (q + 1)) (q + 1) = C := by rw [← HCQ.out, HSQ.out, HCP.out, HCB2.out]; rfl
              go_wp2_with fail
              all_goals go_roundw
              all_goals first | exact ⟨q + 1, by omega, by go_num, hC2, hbn⟩ | (simp [intOf]; omega)
          by_cases k2 : t2 ≤ o1
          · have k3 : t1 ≤ o1 := by omega
            by_cases k4 : o2 ≤ t2
            · have hcb : compB (t1, t2, t3, t4) (o1, o2, o3, o4) = true := by show decide (o2 ≤ t1 ∨ t2 ≤ o1 ∨ (t1 ≤ o1 ∧ o2 ≤ t2)) = true; rw [decide_eq_true_eq]; omega
              have HCB2 := Lib.hid hcb
              clear hcb
              have hC2 : allN (compP f.tries (t1, t2, t3, t4)) (k - (q + 1)) (q + 1) = C := by rw [← HCQ.out, HSQ.out, HCP.out, HCB2.out]; rfl
              go_wp2_with fail
              all_goals go_roundw
              all_goals first | exact ⟨q + 1, by omega, by go_num, hC2, hbn⟩ | (simp [intOf]; omega)
            · have hcb : compB (t1, t2, t3, t4) (o1, o2, o3, o4) = true := by show decide (o2 ≤ t1 ∨ t2 ≤ o1 ∨ (t1 ≤ o1 ∧ o2 ≤ t2)) = true; rw [decide_eq_true_eq]; omega
              have HCB2 := Lib.hid hcb
              clear hcb
              have hC2 : allN (compP f.tries (t1, t2, t3, t4)) (k - (q + 1)) (q + 1) = C := by rw [← HCQ.out, HSQ.out, HCP.out, HCB2.out]; rfl
              go_wp2_with fail
              all_goals go_roundw
              all_goals first | exact ⟨q + 1, by omega, by go_num, hC2, hbn⟩ | (simp [intOf]; omega)
          by_cases k3 : o1 < t1
          · have hcf : compB (t1, t2, t3, t4) (o1, o2, o3, o4) = false := by show decide (o2 ≤ t1 ∨ t2 ≤ o1 ∨ (t1 ≤ o1 ∧ o2 ≤ t2)) = false; rw [decide_eq_false_iff_not]; omega
            have hfin : R = false := by rw [← HALL.out, HST.out, HTP.out, HC.out, ← HCQ.out, HSQ.out, HCP.out, hcf]; simp
            clear hcf
            subst hfin
            go_wp2_with fail
            go_ret
            exact ⟨rfl, hb00.trans (hbnz.mono (by omega))⟩
          by_cases k4 : t2 < o2
          · have k4d : decide (o2 ≤ t2) = false := decide_eq_false (by omega)
            have hcf : compB (t1, t2, t3, t4) (o1, o2, o3, o4) = false := by show decide (o2 ≤ t1 ∨ t2 ≤ o1 ∨ (t1 ≤ o1 ∧ o2 ≤ t2)) = false; rw [decide_eq_false_iff_not]; omega
            have hfin : R = false := by rw [← HALL.out, HST.out, HTP.out, HC.out, ← HCQ.out, HSQ.out, HCP.out, hcf]; simp
            clear hcf
            subst hfin
            go_wp2_with fail
            go_ret
            exact ⟨rfl, hb00.trans (hbnz.mono (by omega))⟩
          · have k4d : decide (o2 ≤ t2) = true := decide_eq_true (by omega)
            have hcb : compB (t1, t2, t3, t4) (o1, o2, o3, o4) = true := by show decide (o2 ≤ t1 ∨ t2 ≤ o1 ∨ (t1 ≤ o1 ∧ o2 ≤ t2)) = true; rw [decide_eq_true_eq]; omega
            have HCB2 := Lib.hid hcb
            clear hcb
            go_wp2_with fail
            go_roundw
            case rel => exact ⟨q + 1, by omega, by go_num, by rw [← HCQ.out, HSQ.out, HCP.out, HCB2.out]; rfl, hbn⟩
            case measure => simp [intOf]; omega
        · have hcC : C = true := by rw [← HCQ.out, allN_end _ (by omega)]
          go_wp2_with fail
          go_roundw
          case rel =>
            have hR3 : allN (tryP f) (nt - (k + 1)) (k + 1) = R := by rw [← HALL.out, HST.out, HTP.out, HTB.out, HC.out, hcC]; rfl
            first | exact ⟨k + 1, by omega, by go_num, hR3, hbz⟩ | ((repeat apply Exists.intro); exact ⟨⟨k + 1, by omega, by go_num, hR3, hbz⟩, rfl⟩)
          case measure => simp [intOf]; omega
    · have hfin : R = true := by rw [← HALL.out, allN_end _ (by omega)]
      subst hfin
      go_wp2_with fail
      go_ret
      exact ⟨rfl, hb00.trans (hb.mono (by omega))⟩
end
end Go.Proofs.YtoihoackmkapaaaDoor
