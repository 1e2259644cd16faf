/- The walk of lintelref12.head. -/
import Derived.Test.YtoihoackmkapaaaDoorKHead
namespace Go.Proofs.YtoihoackmkapaaaDoor
open Go.RowKit
set_option maxHeartbeats 4000000
set_option maxRecDepth 100000
attribute [local go_sem] store_floatK

section
variable {w : World} {A : Option Addr} {m c n : Nat} {f : FnT}
theorem refhead_any {fns : List FnT} (hM : ModIn w w.heap.size A fns) (hf : fns[n]? = some f) (hlm : fns.length = m) (hm : m ≤ 1000) (hu : f.caps.length ≤ 1000) (hl : f.consts.length ≤ 1000) :
    Calls Tryd.prog 22 #[.agg #[.slice A m c], .int .i64 n] w fun e w' => e = .returned (.bool (headB n f)) ∧ Below w.heap.size w w' := by
  have hM1 := hM.below (w' := w.alloc (.cells #[.slice A m c] 24)) ((Below.refl _ _).alloc (Nat.le_refl _) _) (by simp : w.heap.size ≤ (w.alloc (.cells #[.slice A m c] 24)).heap.size)
  obtain ⟨b, off, rfl, _, c2, c3, c4, c5, c6, c7, c8, c9, c10⟩ := hM1.at_ hf
  have hnm0 : n < m := by rw [← hlm]; exact (List.getElem?_eq_some_iff.1 hf).1
  have hnm1 : (n : Int) < m := by omega
  have hF := hM.each f (List.mem_of_getElem? hf)
  have hpl := hF.pl
  have hyes := headB_yes (n := n) (f := f)
  have hnot := headB_not (n := n) (f := f)
  unfold headP at hyes hnot
  have hcr := hF.cr
  obtain ⟨R, hR⟩ : ∃ R, headB n f = R := ⟨_, rfl⟩
  obtain ⟨name, params, rest, arrow, regs, consts, code, tries, caps, cA, cC, kA, kC, tA, tC, uA, uC⟩ := f
  simp only at c2 c3 c4 c5 c6 c7 c8 c9 c10 hyes hnot hcr hu hl hpl
  rw [hR] at hyes hnot ⊢
  obtain ⟨nc, hnc⟩ : ∃ x, code.length = x := ⟨_, rfl⟩
  obtain ⟨nu, hnu⟩ : ∃ x, caps.length = x := ⟨_, rfl⟩
  obtain ⟨nl, hnl⟩ : ∃ x, consts.length = x := ⟨_, rfl⟩
  rw [hnc] at c8 hyes hnot
  rw [hnu] at c10 hyes hnot hu
  rw [hnl] at c7 hl
  have HNL := Lib.hid hnl
  clear hR hnc hnu hnl hF hM hM1 hf hlm
  have hn0 : ((n : Int) = 0) = (n = 0) := by simp
  have hnm : ¬ ((m : Int) > 20000) := by omega
  have e1 : b2i true = 1 := rfl
  have e0 : b2i false = 0 := rfl
  cases rest with
  | true =>
    simp only [e1] at hyes hnot
    have HY := Lib.hid hyes
    have HN := Lib.hid hnot
    clear hyes hnot
    have hw : params ≤ 4000 → 0 ≤ params → wrap64 (params + 1) = params + 1 := fun h h' => by unfold wrap64; omega
    have HW := Lib.hid hw
    clear hw
    by_cases g1 : regs < 1
    · obtain rfl := HN.out (by omega)
      go_enter Tryd.func22, Tryd.ntmps22
      go_wp2_with fail
      go_ret
      exact ⟨rfl, ((Below.refl _ _).alloc (Nat.le_refl _) _).alloc (by simp) _⟩
    by_cases g2 : 4000 < regs
    · obtain rfl := HN.out (by omega)
      go_enter Tryd.func22, Tryd.ntmps22
      go_wp2_with fail
      go_ret
      exact ⟨rfl, ((Below.refl _ _).alloc (Nat.le_refl _) _).alloc (by simp) _⟩
    by_cases g3 : params < 0
    · obtain rfl := HN.out (by omega)
      go_enter Tryd.func22, Tryd.ntmps22
      go_wp2_with fail
      go_ret
      exact ⟨rfl, ((Below.refl _ _).alloc (Nat.le_refl _) _).alloc (by simp) _⟩
    by_cases g4 : regs < wrap64 (params + 1)
    · obtain rfl := HN.out (by intro hh; have := HW.out (by omega) (by omega); omega)
      go_enter Tryd.func22, Tryd.ntmps22
      go_wp2_with fail
      go_ret
      exact ⟨rfl, ((Below.refl _ _).alloc (Nat.le_refl _) _).alloc (by simp) _⟩
    by_cases g5 : 4000 < params
    · obtain rfl := HN.out (by omega)
      go_enter Tryd.func22, Tryd.ntmps22
      go_wp2_with fail
      go_ret
      exact ⟨rfl, ((Below.refl _ _).alloc (Nat.le_refl _) _).alloc (by simp) _⟩
    have hw2 := HW.out (by omega) (by omega)
    rw [hw2] at g4
    by_cases g6 : nc = 0
    · by_cases g7 : n = 0
      · subst g7
        simp only [Nat.zero_mul, Nat.add_zero] at c2 c3 c4 c5 c6 c7 c8 c9 c10
        obtain rfl := HN.out (by omega)
        by_cases g8 : 0 < params
        · go_enter Tryd.func22, Tryd.ntmps22
          go_wp2_with fail
          go_ret
          exact ⟨rfl, ((Below.refl _ _).alloc (Nat.le_refl _) _).alloc (by simp) _⟩
        · go_enter Tryd.func22, Tryd.ntmps22
          go_wp2_with fail
          go_ret
          exact ⟨rfl, ((Below.refl _ _).alloc (Nat.le_refl _) _).alloc (by simp) _⟩
      · obtain rfl := HN.out (by omega)
        go_enter Tryd.func22, Tryd.ntmps22
        go_wp2_with fail
        go_ret
        exact ⟨rfl, ((Below.refl _ _).alloc (Nat.le_refl _) _).alloc (by simp) _⟩
    by_cases g7 : n = 0
    · subst g7
      simp only [Nat.zero_mul, Nat.add_zero] at c2 c3 c4 c5 c6 c7 c8 c9 c10
      obtain rfl := HN.out (by omega)
      by_cases g8 : 0 < params
      · go_enter Tryd.func22, Tryd.ntmps22
        go_wp2_with fail
        go_ret
        exact ⟨rfl, ((Below.refl _ _).alloc (Nat.le_refl _) _).alloc (by simp) _⟩
      · go_enter Tryd.func22, Tryd.ntmps22
        go_wp2_with fail
        go_ret
        exact ⟨rfl, ((Below.refl _ _).alloc (Nat.le_refl _) _).alloc (by simp) _⟩
    · have HYR := Lib.hid (HY.out (by omega))
      go_enter Tryd.func22, Tryd.ntmps22
      go_wp2_with fail
      go_loopw [80] (fun i wr => ∃ k : Nat, k ≤ nl ∧ i = .int .i64 k ∧ (consts.drop k).all constB = R ∧ Below w.heap.size w wr)
        (fun i _ => nl - (intOf i).toNat)
      case atStart => exact ⟨0, Nat.zero_le _, rfl, HYR.out.symm, ((Below.refl _ _).alloc (Nat.le_refl _) _).alloc (by simp) _⟩
      case round =>
        obtain ⟨k, hk, rfl, hall, hb⟩ := hrel
        have HALL := Lib.hid hall
        clear hall
        by_cases hlt : k < nl
        · obtain ⟨v, hv⟩ : ∃ v, consts[k]? = some v := ⟨consts[k]'(by have := HNL.out; omega), List.getElem?_eq_getElem _⟩
          obtain ⟨b, off, rfl, _, d0, d1, d2, d3⟩ := (hcr.below hb (Nat.le_refl _)).val hv
          have HST := Lib.hid (all_step constB hv)
          have HB := Lib.hid (rfl : constB v = (v.1 == 3 || (v.1 == 4 && v.2.2.1.size % 2 == 0)))
          obtain ⟨v1, v2, v3, v4⟩ := v
          simp only at d0 d1 d2 d3
          have hbn := hb.alloc hb.size (.cells #[.int .i64 v1, .float .f64 v2, .string v3, .int .i64 v4] 75)
          have hrem : (v3.size : Int) % 2 = ((v3.size % 2 : Nat) : Int) := by omega
          have hq : v3.size % 2 = 0 ∨ v3.size % 2 = 1 := by omega
          clear hv
          by_cases g1 : v1 = 3
          · subst g1
            have hst : constB (3, v2, v3, v4) = true := rfl
            have HST2 := Lib.hid hst
            clear hst
            go_wp2_with fail
            go_roundw
            case rel => exact ⟨k + 1, by omega, by go_num, by rw [← HALL.out, HST.out, HST2.out, Bool.true_and], hbn⟩
            case measure => simp [intOf]; omega
          by_cases g2 : v1 = 4
          · subst g2
            rcases hq with g3 | g3
            · have hst : constB (4, v2, v3, v4) = true := by simp [constB, g3]
              have HST2 := Lib.hid hst
              rw [g3] at hrem
              clear hst
              go_wp2_with fail
              go_roundw
              case rel => exact ⟨k + 1, by omega, by go_num, by rw [← HALL.out, HST.out, HST2.out, Bool.true_and], hbn⟩
              case measure => simp [intOf]; omega
            · have hst : constB (4, v2, v3, v4) = false := by simp [constB, g3]
              have HST2 := Lib.hid hst
              rw [g3] at hrem
              have hfin : R = false := by rw [← HALL.out, HST.out, HST2.out, Bool.false_and]
              subst hfin
              clear hst
              go_wp2_with fail
              go_ret
              exact ⟨rfl, hbn⟩
          · have hst : constB (v1, v2, v3, v4) = false := by simp [constB, g1, g2]
            have HST2 := Lib.hid hst
            have hfin : R = false := by rw [← HALL.out, HST.out, HST2.out, Bool.false_and]
            subst hfin
            clear hst
            go_wp2_with fail
            go_ret
            exact ⟨rfl, hbn⟩
        · have hfin : R = true := by rw [← HALL.out, all_end _ (by have := HNL.out; omega)]
          subst hfin
          go_wp2_with fail
          go_ret
          exact ⟨rfl, hb⟩
  | false =>
    simp only [e0] at hyes hnot
    have HY := Lib.hid hyes
    have HN := Lib.hid hnot
    clear hyes hnot
    by_cases g1 : regs < 1
    · obtain rfl := HN.out (by omega)
      go_enter Tryd.func22, Tryd.ntmps22
      go_wp2_with fail
      go_ret
      exact ⟨rfl, ((Below.refl _ _).alloc (Nat.le_refl _) _).alloc (by simp) _⟩
    by_cases g2 : 4000 < regs
    · obtain rfl := HN.out (by omega)
      go_enter Tryd.func22, Tryd.ntmps22
      go_wp2_with fail
      go_ret
      exact ⟨rfl, ((Below.refl _ _).alloc (Nat.le_refl _) _).alloc (by simp) _⟩
    by_cases g3 : params < 0
    · obtain rfl := HN.out (by omega)
      go_enter Tryd.func22, Tryd.ntmps22
      go_wp2_with fail
      go_ret
      exact ⟨rfl, ((Below.refl _ _).alloc (Nat.le_refl _) _).alloc (by simp) _⟩
    by_cases g4 : regs < params
    · obtain rfl := HN.out (by omega)
      go_enter Tryd.func22, Tryd.ntmps22
      go_wp2_with fail
      go_ret
      exact ⟨rfl, ((Below.refl _ _).alloc (Nat.le_refl _) _).alloc (by simp) _⟩
    by_cases g7 : n = 0
    · subst g7
      simp only [Nat.zero_mul, Nat.add_zero] at c2 c3 c4 c5 c6 c7 c8 c9 c10
      by_cases g8 : 0 < params
      · obtain rfl := HN.out (by omega)
        go_enter Tryd.func22, Tryd.ntmps22
        go_wp2_with fail
        go_ret
        exact ⟨rfl, ((Below.refl _ _).alloc (Nat.le_refl _) _).alloc (by simp) _⟩
      by_cases g9 : 0 < nu
      · obtain rfl := HN.out (by omega)
        go_enter Tryd.func22, Tryd.ntmps22
        go_wp2_with fail
        go_ret
        exact ⟨rfl, ((Below.refl _ _).alloc (Nat.le_refl _) _).alloc (by simp) _⟩
      cases arrow with
      | true =>
        obtain rfl := HN.out (by rw [e1]; omega)
        go_enter Tryd.func22, Tryd.ntmps22
        go_wp2_with fail
        go_ret
        exact ⟨rfl, ((Below.refl _ _).alloc (Nat.le_refl _) _).alloc (by simp) _⟩
      | false =>
        by_cases g6 : nc = 0
        · obtain rfl := HN.out (by omega)
          go_enter Tryd.func22, Tryd.ntmps22
          go_wp2_with fail
          go_ret
          exact ⟨rfl, ((Below.refl _ _).alloc (Nat.le_refl _) _).alloc (by simp) _⟩
        have HYR := Lib.hid (HY.out ⟨by omega, by omega, by omega, by omega, by omega, fun _ => ⟨by omega, trivial, by omega, rfl⟩⟩)
        go_enter Tryd.func22, Tryd.ntmps22
        go_wp2_with fail
        go_loopw [80] (fun i wr => ∃ k : Nat, k ≤ nl ∧ i = .int .i64 k ∧ (consts.drop k).all constB = R ∧ Below w.heap.size w wr)
          (fun i _ => nl - (intOf i).toNat)
        case atStart => exact ⟨0, Nat.zero_le _, rfl, HYR.out.symm, ((Below.refl _ _).alloc (Nat.le_refl _) _).alloc (by simp) _⟩
        case round =>
          obtain ⟨k, hk, rfl, hall, hb⟩ := hrel
          have HALL := Lib.hid hall
          clear hall
          by_cases hlt : k < nl
          · obtain ⟨v, hv⟩ : ∃ v, consts[k]? = some v := ⟨consts[k]'(by have := HNL.out; omega), List.getElem?_eq_getElem _⟩
            obtain ⟨b, off, rfl, _, d0, d1, d2, d3⟩ := (hcr.below hb (Nat.le_refl _)).val hv
            have HST := Lib.hid (all_step constB hv)
            have HB := Lib.hid (rfl : constB v = (v.1 == 3 || (v.1 == 4 && v.2.2.1.size % 2 == 0)))
            obtain ⟨v1, v2, v3, v4⟩ := v
            simp only at d0 d1 d2 d3
            have hbn := hb.alloc hb.size (.cells #[.int .i64 v1, .float .f64 v2, .string v3, .int .i64 v4] 75)
            have hrem : (v3.size : Int) % 2 = ((v3.size % 2 : Nat) : Int) := by omega
            have hq : v3.size % 2 = 0 ∨ v3.size % 2 = 1 := by omega
            clear hv
            by_cases g1 : v1 = 3
            · subst g1
              have hst : constB (3, v2, v3, v4) = true := rfl
              have HST2 := Lib.hid hst
              clear hst
              go_wp2_with fail
              go_roundw
              case rel => exact ⟨k + 1, by omega, by go_num, by rw [← HALL.out, HST.out, HST2.out, Bool.true_and], hbn⟩
              case measure => simp [intOf]; omega
            by_cases g2 : v1 = 4
            · subst g2
              rcases hq with g3 | g3
              · have hst : constB (4, v2, v3, v4) = true := by simp [constB, g3]
                have HST2 := Lib.hid hst
                rw [g3] at hrem
                clear hst
                go_wp2_with fail
                go_roundw
                case rel => exact ⟨k + 1, by omega, by go_num, by rw [← HALL.out, HST.out, HST2.out, Bool.true_and], hbn⟩
                case measure => simp [intOf]; omega
              · have hst : constB (4, v2, v3, v4) = false := by simp [constB, g3]
                have HST2 := Lib.hid hst
                rw [g3] at hrem
                have hfin : R = false := by rw [← HALL.out, HST.out, HST2.out, Bool.false_and]
                subst hfin
                clear hst
                go_wp2_with fail
                go_ret
                exact ⟨rfl, hbn⟩
            · have hst : constB (v1, v2, v3, v4) = false := by simp [constB, g1, g2]
              have HST2 := Lib.hid hst
              have hfin : R = false := by rw [← HALL.out, HST.out, HST2.out, Bool.false_and]
              subst hfin
              clear hst
              go_wp2_with fail
              go_ret
              exact ⟨rfl, hbn⟩
          · have hfin : R = true := by rw [← HALL.out, all_end _ (by have := HNL.out; omega)]
            subst hfin
            go_wp2_with fail
            go_ret
            exact ⟨rfl, hb⟩
    · by_cases g6 : nc = 0
      · obtain rfl := HN.out (by omega)
        go_enter Tryd.func22, Tryd.ntmps22
        go_wp2_with fail
        go_ret
        exact ⟨rfl, ((Below.refl _ _).alloc (Nat.le_refl _) _).alloc (by simp) _⟩
      have HYR := Lib.hid (HY.out (by omega))
      go_enter Tryd.func22, Tryd.ntmps22
      go_wp2_with fail
      go_loopw [80] (fun i wr => ∃ k : Nat, k ≤ nl ∧ i = .int .i64 k ∧ (consts.drop k).all constB = R ∧ Below w.heap.size w wr)
        (fun i _ => nl - (intOf i).toNat)
      case atStart => exact ⟨0, Nat.zero_le _, rfl, HYR.out.symm, ((Below.refl _ _).alloc (Nat.le_refl _) _).alloc (by simp) _⟩
      case round =>
        obtain ⟨k, hk, rfl, hall, hb⟩ := hrel
        have HALL := Lib.hid hall
        clear hall
        by_cases hlt : k < nl
        · obtain ⟨v, hv⟩ : ∃ v, consts[k]? = some v := ⟨consts[k]'(by have := HNL.out; omega), List.getElem?_eq_getElem _⟩
          obtain ⟨b, off, rfl, _, d0, d1, d2, d3⟩ := (hcr.below hb (Nat.le_refl _)).val hv
          have HST := Lib.hid (all_step constB hv)
          have HB := Lib.hid (rfl : constB v = (v.1 == 3 || (v.1 == 4 && v.2.2.1.size % 2 == 0)))
          obtain ⟨v1, v2, v3, v4⟩ := v
          simp only at d0 d1 d2 d3
          have hbn := hb.alloc hb.size (.cells #[.int .i64 v1, .float .f64 v2, .string v3, .int .i64 v4] 75)
          have hrem : (v3.size : Int) % 2 = ((v3.size % 2 : Nat) : Int) := by omega
          have hq : v3.size % 2 = 0 ∨ v3.size % 2 = 1 := by omega
          clear hv
          by_cases g1 : v1 = 3
          · subst g1
            have hst : constB (3, v2, v3, v4) = true := rfl
            have HST2 := Lib.hid hst
            clear hst
            go_wp2_with fail
            go_roundw
            case rel => exact ⟨k + 1, by omega, by go_num, by rw [← HALL.out, HST.out, HST2.out, Bool.true_and], hbn⟩
            case measure => simp [intOf]; omega
          by_cases g2 : v1 = 4
          · subst g2
            rcases hq with g3 | g3
            · have hst : constB (4, v2, v3, v4) = true := by simp [constB, g3]
              have HST2 := Lib.hid hst
              rw [g3] at hrem
              clear hst
              go_wp2_with fail
              go_roundw
              case rel => exact ⟨k + 1, by omega, by go_num, by rw [← HALL.out, HST.out, HST2.out, Bool.true_and], hbn⟩
              case measure => simp [intOf]; omega
            · have hst : constB (4, v2, v3, v4) = false := by simp [constB, g3]
              have HST2 := Lib.hid hst
              rw [g3] at hrem
              have hfin : R = false := by rw [← HALL.out, HST.out, HST2.out, Bool.false_and]
              subst hfin
              clear hst
              go_wp2_with fail
              go_ret
              exact ⟨rfl, hbn⟩
          · have hst : constB (v1, v2, v3, v4) = false := by simp [constB, g1, g2]
            have HST2 := Lib.hid hst
            have hfin : R = false := by rw [← HALL.out, HST.out, HST2.out, Bool.false_and]
            subst hfin
            clear hst
            go_wp2_with fail
            go_ret
            exact ⟨rfl, hbn⟩
        · have hfin : R = true := by rw [← HALL.out, all_end _ (by have := HNL.out; omega)]
          subst hfin
          go_wp2_with fail
          go_ret
          exact ⟨rfl, hb⟩
end
end Go.Proofs.YtoihoackmkapaaaDoor
