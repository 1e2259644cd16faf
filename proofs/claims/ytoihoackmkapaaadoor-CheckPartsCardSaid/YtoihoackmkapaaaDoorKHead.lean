/- The walks of checker.head and lintelref12.head. -/
import Derived.Test.YtoihoackmkapaaaDoorKChk
namespace Go.Proofs.YtoihoackmkapaaaDoor
open Go.RowKit
set_option maxHeartbeats 4000000
set_option maxRecDepth 100000

attribute [local go_sem] store_floatK
def constB (v : ValT) : Bool := v.1 == 3 || (v.1 == 4 && v.2.2.1.size % 2 == 0)
def b2i (b : Bool) : Int := if b then 1 else 0
def headP (n : Nat) (f : FnT) : Prop := 1 ≤ f.regs ∧ f.regs ≤ 4000 ∧ 0 ≤ f.params ∧ f.params + b2i f.rest ≤ f.regs ∧ f.code.length ≠ 0 ∧ (n = 0 → f.params = 0 ∧ b2i f.rest = 0 ∧ f.caps.length = 0 ∧ b2i f.arrow = 0)
instance (n : Nat) (f : FnT) : Decidable (headP n f) := by unfold headP; infer_instance
def headB (n : Nat) (f : FnT) : Bool := decide (headP n f) && f.consts.all constB
theorem headB_not {n : Nat} {f : FnT} (h : ¬ headP n f) : headB n f = false := by unfold headB; rw [decide_eq_false h, Bool.false_and]
theorem headB_yes {n : Nat} {f : FnT} (h : headP n f) : headB n f = f.consts.all constB := by unfold headB; rw [decide_eq_true h, Bool.true_and]
theorem all_step {α : Type} (p : α → Bool) {l : List α} {k : Nat} {x : α} (h : l[k]? = some x) : (l.drop k).all p = (p x && (l.drop (k + 1)).all p) := by
  obtain ⟨h1, rfl⟩ := List.getElem?_eq_some_iff.1 h
  rw [List.drop_eq_getElem_cons h1, List.all_cons]
theorem all_end {α : Type} (p : α → Bool) {l : List α} {k : Nat} (h : l.length ≤ k) : (l.drop k).all p = true := by
  rw [List.drop_of_length_le h]; rfl

section
variable {w : World} {cb : Nat} {A : Option Addr} {m c n : Nat} {f : FnT}
theorem head_any (h : Chk w cb A m c (n : Nat) f) (hF : FnIn w w.heap.size f) (hm : m ≤ 1000) (hu : f.caps.length ≤ 1000) (hl : f.consts.length ≤ 1000) :
    Calls Tryd.prog 19 #[.pointer (some ⟨cb, 0, none⟩)] w fun e w' => e = .returned (.bool (headB n f)) ∧ Below w.heap.size w w' := by
  obtain ⟨c0, c1, c2, c3, c4, c5, c6, c7, c8, c9, c10⟩ := h.cells
  have hcb := h.lt
  have hyes := headB_yes (n := n) (f := f)
  have hnot := headB_not (n := n) (f := f)
  unfold headP at hyes hnot
  have hcr := hF.cr
  obtain ⟨R, hR⟩ : ∃ R, headB n f = R := ⟨_, rfl⟩
  obtain ⟨name, params, rest, arrow, regs, consts, code, tries, caps, cA, cC, kA, kC, tA, tC, uA, uC⟩ := f
  simp only at c2 c3 c4 c5 c6 c7 c8 c9 c10 hyes hnot hcr hu hl
  rw [hR] at hyes hnot ⊢
  obtain ⟨nc, hnc⟩ : ∃ x, code.length = x := ⟨_, rfl⟩
  obtain ⟨nu, hnu⟩ : ∃ x, caps.length = x := ⟨_, rfl⟩
  obtain ⟨nl, hnl⟩ : ∃ x, consts.length = x := ⟨_, rfl⟩
  rw [hnc] at c8 hyes hnot
  rw [hnu] at c10 hyes hnot hu
  rw [hnl] at c7 hl
  have HNL := Lib.hid hnl
  clear hR hnc hnu hnl h hF
  have hn0 : ((n : Int) = 0) = (n = 0) := by simp
  have hnm : ¬ ((m : Int) > 20000) := by omega
  have e1 : b2i true = 1 := rfl
  have e0 : b2i false = 0 := rfl
  cases rest with
  | true =>
    simp only [e1] at hyes hnot
    have HY := Lib.hid hyes
    have HN := Lib.hid hnot
    clear hyes hnot
    by_cases g1 : regs < 1
    · obtain rfl := HN.out (by omega)
      go_enter Tryd.func19, Tryd.ntmps19
      go_wp2_with fail
      go_ret
      exact ⟨rfl, (Below.refl _ _).alloc (Nat.le_refl _) _⟩
    by_cases g2 : 4000 < regs
    · obtain rfl := HN.out (by omega)
      go_enter Tryd.func19, Tryd.ntmps19
      go_wp2_with fail
      go_ret
      exact ⟨rfl, (Below.refl _ _).alloc (Nat.le_refl _) _⟩
    by_cases g3 : params < 0
    · obtain rfl := HN.out (by omega)
      go_enter Tryd.func19, Tryd.ntmps19
      go_wp2_with fail
      go_ret
      exact ⟨rfl, (Below.refl _ _).alloc (Nat.le_refl _) _⟩
    by_cases g4 : regs - 1 < params
    · obtain rfl := HN.out (by omega)
      go_enter Tryd.func19, Tryd.ntmps19
      go_wp2_with fail
      go_ret
      exact ⟨rfl, (Below.refl _ _).alloc (Nat.le_refl _) _⟩
    by_cases g5 : nc = 0
    · obtain rfl := HN.out (by omega)
      go_enter Tryd.func19, Tryd.ntmps19
      go_wp2_with fail
      go_ret
      exact ⟨rfl, (Below.refl _ _).alloc (Nat.le_refl _) _⟩
    by_cases g6 : n = 0
    · obtain rfl := HN.out (by omega)
      go_enter Tryd.func19, Tryd.ntmps19
      go_wp2_with fail
      go_ret
      exact ⟨rfl, (Below.refl _ _).alloc (Nat.le_refl _) _⟩
    · have HYR := Lib.hid (HY.out (by omega))
      go_enter Tryd.func19, Tryd.ntmps19
      go_wp2_with fail
      go_loopw [73] (fun i wr => ∃ k : Nat, k ≤ nl ∧ i = .int .i64 k ∧ (consts.drop k).all constB = R ∧ Below w.heap.size w wr)
        (fun i _ => nl - (intOf i).toNat)
      case atStart => exact ⟨0, Nat.zero_le _, rfl, HYR.out.symm, (Below.refl _ _).alloc (Nat.le_refl _) _⟩
      case round =>
        obtain ⟨k, hk, rfl, hall, hb⟩ := hrel
        have HALL := Lib.hid hall
        clear hall
        by_cases hlt : k < nl
        · obtain ⟨v, hv⟩ : ∃ v, consts[k]? = some v := ⟨consts[k]'(by have := HNL.out; omega), List.getElem?_eq_getElem _⟩
          obtain ⟨b, off, rfl, _, d0, d1, d2, d3⟩ := (hcr.below hb (Nat.le_refl _)).val hv
          have HST := Lib.hid (all_step constB hv)
          have HB := Lib.hid (rfl : constB v = (v.1 == 3 || (v.1 == 4 && v.2.2.1.size % 2 == 0)))
          obtain ⟨v1, v2, v3, v4⟩ := v
          simp only at d0 d1 d2 d3
          have hbn := hb.alloc hb.size (.cells #[.int .i64 v1, .float .f64 v2, .string v3, .int .i64 v4] 75)
          have hrem : (v3.size : Int) % 2 = ((v3.size % 2 : Nat) : Int) := by omega
          have hq : v3.size % 2 = 0 ∨ v3.size % 2 = 1 := by omega
          clear hv
          by_cases g1 : v1 = 3
          · subst g1
            have hst : constB (3, v2, v3, v4) = true := rfl
            have HST2 := Lib.hid hst
            clear hst
            go_wp2_with fail
            go_roundw
            case rel => exact ⟨k + 1, by omega, by go_num, by rw [← HALL.out, HST.out, HST2.out, Bool.true_and], hbn⟩
            case measure => simp [intOf]; omega
          by_cases g2 : v1 = 4
          · subst g2
            rcases hq with g3 | g3
            · have hst : constB (4, v2, v3, v4) = true := by simp [constB, g3]
              have HST2 := Lib.hid hst
              rw [g3] at hrem
              clear hst
              go_wp2_with fail
              go_roundw
              case rel => exact ⟨k + 1, by omega, by go_num, by rw [← HALL.out, HST.out, HST2.out, Bool.true_and], hbn⟩
              case measure => simp [intOf]; omega
            · have hst : constB (4, v2, v3, v4) = false := by simp [constB, g3]
              have HST2 := Lib.hid hst
              rw [g3] at hrem
              have hfin : R = false := by rw [← HALL.out, HST.out, HST2.out, Bool.false_and]
              subst hfin
              clear hst
              go_wp2_with fail
              go_ret
              exact ⟨rfl, hbn⟩
          · have hst : constB (v1, v2, v3, v4) = false := by simp [constB, g1, g2]
            have HST2 := Lib.hid hst
            have hfin : R = false := by rw [← HALL.out, HST.out, HST2.out, Bool.false_and]
            subst hfin
            clear hst
            go_wp2_with fail
            go_ret
            exact ⟨rfl, hbn⟩
        · have hfin : R = true := by rw [← HALL.out, all_end _ (by have := HNL.out; omega)]
          subst hfin
          go_wp2_with fail
          go_ret
          exact ⟨rfl, hb⟩
  | false =>
    simp only [e0] at hyes hnot
    have HY := Lib.hid hyes
    have HN := Lib.hid hnot
    clear hyes hnot
    by_cases g1 : regs < 1
    · obtain rfl := HN.out (by omega)
      go_enter Tryd.func19, Tryd.ntmps19
      go_wp2_with fail
      go_ret
      exact ⟨rfl, (Below.refl _ _).alloc (Nat.le_refl _) _⟩
    by_cases g2 : 4000 < regs
    · obtain rfl := HN.out (by omega)
      go_enter Tryd.func19, Tryd.ntmps19
      go_wp2_with fail
      go_ret
      exact ⟨rfl, (Below.refl _ _).alloc (Nat.le_refl _) _⟩
    by_cases g3 : params < 0
    · obtain rfl := HN.out (by omega)
      go_enter Tryd.func19, Tryd.ntmps19
      go_wp2_with fail
      go_ret
      exact ⟨rfl, (Below.refl _ _).alloc (Nat.le_refl _) _⟩
    by_cases g4 : regs < params
    · obtain rfl := HN.out (by omega)
      go_enter Tryd.func19, Tryd.ntmps19
      go_wp2_with fail
      go_ret
      exact ⟨rfl, (Below.refl _ _).alloc (Nat.le_refl _) _⟩
    by_cases g5 : nc = 0
    · obtain rfl := HN.out (by omega)
      go_enter Tryd.func19, Tryd.ntmps19
      go_wp2_with fail
      go_ret
      exact ⟨rfl, (Below.refl _ _).alloc (Nat.le_refl _) _⟩
    by_cases g6 : n = 0
    · subst g6
      by_cases g7 : 0 < params + nu
      · obtain rfl := HN.out (by omega)
        go_enter Tryd.func19, Tryd.ntmps19
        go_wp2_with fail
        go_ret
        exact ⟨rfl, (Below.refl _ _).alloc (Nat.le_refl _) _⟩
      cases arrow with
      | true =>
        obtain rfl := HN.out (by rw [e1]; omega)
        go_enter Tryd.func19, Tryd.ntmps19
        go_wp2_with fail
        go_ret
        exact ⟨rfl, (Below.refl _ _).alloc (Nat.le_refl _) _⟩
      | false =>
        have HYR := Lib.hid (HY.out ⟨by omega, by omega, by omega, by omega, by omega, fun _ => ⟨by omega, trivial, by omega, rfl⟩⟩)
        go_enter Tryd.func19, Tryd.ntmps19
        go_wp2_with fail
        go_loopw [73] (fun i wr => ∃ k : Nat, k ≤ nl ∧ i = .int .i64 k ∧ (consts.drop k).all constB = R ∧ Below w.heap.size w wr)
          (fun i _ => nl - (intOf i).toNat)
        case atStart => exact ⟨0, Nat.zero_le _, rfl, HYR.out.symm, (Below.refl _ _).alloc (Nat.le_refl _) _⟩
        case round =>
          obtain ⟨k, hk, rfl, hall, hb⟩ := hrel
          have HALL := Lib.hid hall
          clear hall
          by_cases hlt : k < nl
          · obtain ⟨v, hv⟩ : ∃ v, consts[k]? = some v := ⟨consts[k]'(by have := HNL.out; omega), List.getElem?_eq_getElem _⟩
            obtain ⟨b, off, rfl, _, d0, d1, d2, d3⟩ := (hcr.below hb (Nat.le_refl _)).val hv
            have HST := Lib.hid (all_step constB hv)
            have HB := Lib.hid (rfl : constB v = (v.1 == 3 || (v.1 == 4 && v.2.2.1.size % 2 == 0)))
            obtain ⟨v1, v2, v3, v4⟩ := v
            simp only at d0 d1 d2 d3
            have hbn := hb.alloc hb.size (.cells #[.int .i64 v1, .float .f64 v2, .string v3, .int .i64 v4] 75)
            have hrem : (v3.size : Int) % 2 = ((v3.size % 2 : Nat) : Int) := by omega
            have hq : v3.size % 2 = 0 ∨ v3.size % 2 = 1 := by omega
            clear hv
            by_cases g1 : v1 = 3
            · subst g1
              have hst : constB (3, v2, v3, v4) = true := rfl
              have HST2 := Lib.hid hst
              clear hst
              go_wp2_with fail
              go_roundw
              case rel => exact ⟨k + 1, by omega, by go_num, by rw [← HALL.out, HST.out, HST2.out, Bool.true_and], hbn⟩
              case measure => simp [intOf]; omega
            by_cases g2 : v1 = 4
            · subst g2
              rcases hq with g3 | g3
              · have hst : constB (4, v2, v3, v4) = true := by simp [constB, g3]
                have HST2 := Lib.hid hst
                rw [g3] at hrem
                clear hst
                go_wp2_with fail
                go_roundw
                case rel => exact ⟨k + 1, by omega, by go_num, by rw [← HALL.out, HST.out, HST2.out, Bool.true_and], hbn⟩
                case measure => simp [intOf]; omega
              · have hst : constB (4, v2, v3, v4) = false := by simp [constB, g3]
                have HST2 := Lib.hid hst
                rw [g3] at hrem
                have hfin : R = false := by rw [← HALL.out, HST.out, HST2.out, Bool.false_and]
                subst hfin
                clear hst
                go_wp2_with fail
                go_ret
                exact ⟨rfl, hbn⟩
            · have hst : constB (v1, v2, v3, v4) = false := by simp [constB, g1, g2]
              have HST2 := Lib.hid hst
              have hfin : R = false := by rw [← HALL.out, HST.out, HST2.out, Bool.false_and]
              subst hfin
              clear hst
              go_wp2_with fail
              go_ret
              exact ⟨rfl, hbn⟩
          · have hfin : R = true := by rw [← HALL.out, all_end _ (by have := HNL.out; omega)]
            subst hfin
            go_wp2_with fail
            go_ret
            exact ⟨rfl, hb⟩
    · have HYR := Lib.hid (HY.out (by omega))
      go_enter Tryd.func19, Tryd.ntmps19
      go_wp2_with fail
      go_loopw [73] (fun i wr => ∃ k : Nat, k ≤ nl ∧ i = .int .i64 k ∧ (consts.drop k).all constB = R ∧ Below w.heap.size w wr)
        (fun i _ => nl - (intOf i).toNat)
      case atStart => exact ⟨0, Nat.zero_le _, rfl, HYR.out.symm, (Below.refl _ _).alloc (Nat.le_refl _) _⟩
      case round =>
        obtain ⟨k, hk, rfl, hall, hb⟩ := hrel
        have HALL := Lib.hid hall
        clear hall
        by_cases hlt : k < nl
        · obtain ⟨v, hv⟩ : ∃ v, consts[k]? = some v := ⟨consts[k]'(by have := HNL.out; omega), List.getElem?_eq_getElem _⟩
          obtain ⟨b, off, rfl, _, d0, d1, d2, d3⟩ := (hcr.below hb (Nat.le_refl _)).val hv
          have HST := Lib.hid (all_step constB hv)
          have HB := Lib.hid (rfl : constB v = (v.1 == 3 || (v.1 == 4 && v.2.2.1.size % 2 == 0)))
          obtain ⟨v1, v2, v3, v4⟩ := v
          simp only at d0 d1 d2 d3
          have hbn := hb.alloc hb.size (.cells #[.int .i64 v1, .float .f64 v2, .string v3, .int .i64 v4] 75)
          have hrem : (v3.size : Int) % 2 = ((v3.size % 2 : Nat) : Int) := by omega
          have hq : v3.size % 2 = 0 ∨ v3.size % 2 = 1 := by omega
          clear hv
          by_cases g1 : v1 = 3
          · subst g1
            have hst : constB (3, v2, v3, v4) = true := rfl
            have HST2 := Lib.hid hst
            clear hst
            go_wp2_with fail
            go_roundw
            case rel => exact ⟨k + 1, by omega, by go_num, by rw [← HALL.out, HST.out, HST2.out, Bool.true_and], hbn⟩
            case measure => simp [intOf]; omega
          by_cases g2 : v1 = 4
          · subst g2
            rcases hq with g3 | g3
            · have hst : constB (4, v2, v3, v4) = true := by simp [constB, g3]
              have HST2 := Lib.hid hst
              rw [g3] at hrem
              clear hst
              go_wp2_with fail
              go_roundw
              case rel => exact ⟨k + 1, by omega, by go_num, by rw [← HALL.out, HST.out, HST2.out, Bool.true_and], hbn⟩
              case measure => simp [intOf]; omega
            · have hst : constB (4, v2, v3, v4) = false := by simp [constB, g3]
              have HST2 := Lib.hid hst
              rw [g3] at hrem
              have hfin : R = false := by rw [← HALL.out, HST.out, HST2.out, Bool.false_and]
              subst hfin
              clear hst
              go_wp2_with fail
              go_ret
              exact ⟨rfl, hbn⟩
          · have hst : constB (v1, v2, v3, v4) = false := by simp [constB, g1, g2]
            have HST2 := Lib.hid hst
            have hfin : R = false := by rw [← HALL.out, HST.out, HST2.out, Bool.false_and]
            subst hfin
            clear hst
            go_wp2_with fail
            go_ret
            exact ⟨rfl, hbn⟩
        · have hfin : R = true := by rw [← HALL.out, all_end _ (by have := HNL.out; omega)]
          subst hfin
          go_wp2_with fail
          go_ret
          exact ⟨rfl, hb⟩
end
end Go.Proofs.YtoihoackmkapaaaDoor
