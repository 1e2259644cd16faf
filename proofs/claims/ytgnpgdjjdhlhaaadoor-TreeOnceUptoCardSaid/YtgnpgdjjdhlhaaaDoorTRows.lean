/- What a row of kinds is: from, stmts, template, clauses of the document. -/
import Derived.Test.YtgnpgdjjdhlhaaaDoorTKinds
namespace Go.Proofs.YtgnpgdjjdhlhaaaDoor
open Go.RowKit
set_option maxHeartbeats 4000000
set_option maxRecDepth 100000
attribute [local go_sem] Oper.semAt_some

def okE (sp : Bool) (k : Int) : Bool := exprB k || (sp && (k == 29))
theorem all_at {f : Int → Bool} {l : List Int} {k : Nat} {x : Int} (h : l[k]? = some x) : (l.drop k).all f = (f x && (l.drop (k + 1)).all f) := by
  rw [List.drop_eq_getElem_cons (List.getElem?_eq_some_iff.1 h).1, (List.getElem?_eq_some_iff.1 h).2]
  rfl
theorem addr_add0 (a : Addr) : a.add 0 = a := by cases a; unfold Addr.add; split <;> simp_all
section
variable {w : World} {A : Option Addr} {c m : Nat} {ks : List Int}
theorem rd_int (hr : Rd w w.heap.size A (ints ks)) {k : Nat} {x : Int} (h : ks[k]? = some x) : ∃ ad, A = some ad ∧ w.cell? (ad.add k) = some (.int .i64 x) := by
  obtain ⟨ad, h1, _, h2⟩ := hr.at_ (k := k) (u := .int .i64 x) (by unfold ints; rw [List.getElem?_map, h]; rfl)
  exact ⟨ad, h1, h2⟩
theorem from_any (hr : Rd w w.heap.size A (ints ks)) (hm : ks.length = m) (hm2 : m ≤ 3000) (at_ : Nat) (hat : at_ ≤ 10) (sp : Bool) :
    Calls Tryd.prog 28 #[.slice A m c, .int .i64 (at_ : Nat), .bool sp] w fun e w' => e = .returned (.bool ((ks.drop at_).all (okE sp))) ∧ w' = w := by
  obtain ⟨f, hff⟩ : ∃ f, okE sp = f := ⟨_, rfl⟩
  rw [hff]
  have HFF := Lib.hid hff
  clear hff
  have HM := Lib.hid hm
  clear hm
  have hE := fun k => refexpr_any k w
  go_enter Tryd.func28, Tryd.ntmps28
  go_wp2_with fail
  go_loopw [7] (fun i wr => ∃ k : Nat, at_ ≤ k ∧ (k ≤ m ∨ k = at_) ∧ i = .int .i64 k ∧ wr = w ∧ (ks.drop at_).all (f) = (ks.drop k).all (f)) (fun i _ => m - (intOf i).toNat)
  case atStart => exact ⟨at_, Nat.le_refl _, .inr rfl, rfl, rfl, rfl⟩
  case round =>
    obtain ⟨k, hk, hk2, rfl, rfl, hf⟩ := hrel
    have HF := Lib.hid hf
    clear hf
    by_cases hlt : k < m
    · obtain ⟨x, hx⟩ : ∃ x, ks[k]? = some x := ⟨ks[k]'(by have := HM.out; omega), List.getElem?_eq_getElem _⟩
      obtain ⟨ad, rfl, hc⟩ := rd_int hr hx
      have HA := Lib.hid (all_at (f := f) hx)
      clear hx
      go_wp2_with fail
      refine (hE x).mono ?_
      rintro e w1 ⟨rfl, rfl⟩
      obtain ⟨v1, h1⟩ : ∃ v, exprB x = v := ⟨_, rfl⟩
      obtain ⟨v2, h2⟩ : ∃ v, (x == 29) = v := ⟨_, rfl⟩
      have hok : f x = (v1 || (sp && v2)) := by rw [← HFF.out]; unfold okE; rw [h1, h2]
      rw [h1]
      have HOK := Lib.hid hok
      clear hok
      cases v1 <;> cases v2 <;> cases sp
      all_goals first
        | (have hfin : (ks.drop at_).all (f) = (ks.drop (k + 1)).all (f) := by rw [HF.out, HA.out, HOK.out]; rfl
           have HFIN := Lib.hid hfin
           clear hfin
           simp only
           go_wp2_with fail
           go_roundw
           case rel => exact ⟨k + 1, by omega, by omega, by go_num, trivial, HFIN.out⟩
           case measure => simp [intOf]; omega)
        | (have hfin : (ks.drop at_).all (f) = false := by rw [HF.out, HA.out, HOK.out]; rfl
           have HFIN := Lib.hid hfin
           clear hfin
           simp only
           go_wp2_with fail
           go_ret
           exact ⟨by rw [HFIN.out]; rfl, rfl⟩)
    · have hfin : (ks.drop at_).all (f) = true := by rw [HF.out, List.drop_of_length_le (by have := HM.out; omega)]; rfl
      have HFIN := Lib.hid hfin
      clear hfin
      go_wp2_with fail
      go_ret
      exact ⟨by rw [HFIN.out]; rfl, rfl⟩
theorem stmts_any (hr : Rd w w.heap.size A (ints ks)) (hm : ks.length = m) (hm2 : m ≤ 3000) (at_ : Nat) (hat : at_ ≤ 10) :
    Calls Tryd.prog 44 #[.slice A m c, .int .i64 (at_ : Nat)] w fun e w' => e = .returned (.bool ((ks.drop at_).all stmtB)) ∧ w' = w := by
  have HM := Lib.hid hm
  clear hm
  have hE := fun k => refstmt_any k w
  go_enter Tryd.func44, Tryd.ntmps44
  go_wp2_with fail
  go_loopw [5] (fun i wr => ∃ k : Nat, at_ ≤ k ∧ (k ≤ m ∨ k = at_) ∧ i = .int .i64 k ∧ wr = w ∧ (ks.drop at_).all stmtB = (ks.drop k).all stmtB) (fun i _ => m - (intOf i).toNat)
  case atStart => exact ⟨at_, Nat.le_refl _, .inr rfl, rfl, rfl, rfl⟩
  case round =>
    obtain ⟨k, hk, hk2, rfl, rfl, hf⟩ := hrel
    have HF := Lib.hid hf
    clear hf
    by_cases hlt : k < m
    · obtain ⟨x, hx⟩ : ∃ x, ks[k]? = some x := ⟨ks[k]'(by have := HM.out; omega), List.getElem?_eq_getElem _⟩
      obtain ⟨ad, rfl, hc⟩ := rd_int hr hx
      have HA := Lib.hid (all_at (f := stmtB) hx)
      clear hx
      go_wp2_with fail
      refine (hE x).mono ?_
      rintro e w1 ⟨rfl, rfl⟩
      obtain ⟨v1, h1⟩ : ∃ v, stmtB x = v := ⟨_, rfl⟩
      rw [h1] at HA ⊢
      cases v1
      all_goals first
        | (have hfin : (ks.drop at_).all stmtB = (ks.drop (k + 1)).all stmtB := by rw [HF.out, HA.out]; rfl
           have HFIN := Lib.hid hfin
           clear hfin
           simp only
           go_wp2_with fail
           go_roundw
           case rel => exact ⟨k + 1, by omega, by omega, by go_num, trivial, HFIN.out⟩
           case measure => simp [intOf]; omega)
        | (have hfin : (ks.drop at_).all stmtB = false := by rw [HF.out, HA.out]; rfl
           have HFIN := Lib.hid hfin
           clear hfin
           simp only
           go_wp2_with fail
           go_ret
           exact ⟨by rw [HFIN.out]; rfl, rfl⟩)
    · have hfin : (ks.drop at_).all stmtB = true := by rw [HF.out, List.drop_of_length_le (by have := HM.out; omega)]; rfl
      have HFIN := Lib.hid hfin
      clear hfin
      go_wp2_with fail
      go_ret
      exact ⟨by rw [HFIN.out]; rfl, rfl⟩
/-- texts and expressions change about -/
def tmplB : Nat → List Int → Bool
  | _, [] => true
  | j, k :: r => (if j % 2 = 0 then k == 2 else exprB k) && tmplB (j + 1) r
theorem tmpl_at {l : List Int} {k : Nat} {x : Int} (h : l[k]? = some x) : tmplB k (l.drop k) = ((if k % 2 = 0 then x == 2 else exprB x) && tmplB (k + 1) (l.drop (k + 1))) := by
  rw [List.drop_eq_getElem_cons (List.getElem?_eq_some_iff.1 h).1, (List.getElem?_eq_some_iff.1 h).2]
  rfl
theorem template_any (hr : Rd w w.heap.size A (ints ks)) (hm : ks.length = m) (hm2 : m ≤ 3000) :
    Calls Tryd.prog 43 #[.slice A m c] w fun e w' => e = .returned (.bool (decide (m % 2 = 1) && tmplB 0 ks)) ∧ w' = w := by
  have HM := Lib.hid hm
  clear hm
  have hE := fun k => refexpr_any k w
  go_enter Tryd.func43, Tryd.ntmps43
  by_cases hpar : m % 2 = 1
  · have e1 : ((m : Int) % 2 == 0) = false := by rw [beq_eq_false_iff_ne]; omega
    have e2 : Int.tmod (m : Int) 2 = 1 := by rw [Int.tmod_eq_emod_of_nonneg (by omega)]; omega
    rw [decide_eq_true hpar, Bool.true_and]
    go_wp2_with fail
    go_loopw [11] (fun i wr => ∃ k : Nat, k ≤ m ∧ i = .int .i64 k ∧ wr = w ∧ tmplB 0 ks = tmplB k (ks.drop k)) (fun i _ => m - (intOf i).toNat)
    case atStart => exact ⟨0, Nat.zero_le _, rfl, rfl, rfl⟩
    case round =>
      obtain ⟨k, hk, rfl, rfl, hf⟩ := hrel
      have HF := Lib.hid hf
      clear hf
      by_cases hlt : k < m
      · obtain ⟨x, hx⟩ : ∃ x, ks[k]? = some x := ⟨ks[k]'(by have := HM.out; omega), List.getElem?_eq_getElem _⟩
        obtain ⟨ad, rfl, hc⟩ := rd_int hr hx
        have HA := Lib.hid (tmpl_at hx)
        clear hx
        by_cases hk0 : k % 2 = 0
        · have e3 : Int.tmod (k : Int) 2 = 0 := by rw [Int.tmod_eq_emod_of_nonneg (by omega)]; omega
          obtain ⟨v1, h1⟩ : ∃ v, (x == 2) = v := ⟨_, rfl⟩
          have h1' : (x != 2) = !v1 := by rw [bne, h1]
          have HA2 : tmplB k (ks.drop k) = (v1 && tmplB (k + 1) (ks.drop (k + 1))) := by rw [HA.out, if_pos hk0, h1]
          have HA2 := Lib.hid HA2
          cases v1
          · have hfin : tmplB 0 ks = false := by rw [HF.out, HA2.out]; rfl
            have HFIN := Lib.hid hfin
            clear hfin
            go_wp2_with fail
            go_ret
            exact ⟨by rw [HFIN.out]; rfl, rfl⟩
          · have hfin : tmplB 0 ks = tmplB (k + 1) (ks.drop (k + 1)) := by rw [HF.out, HA2.out]; rfl
            have HFIN := Lib.hid hfin
            clear hfin
            go_wp2_with fail
            go_roundw
            case rel => exact ⟨k + 1, by omega, by go_num, trivial, HFIN.out⟩
            case measure => simp [intOf]; omega
        · have e3 : Int.tmod (k : Int) 2 = 1 := by rw [Int.tmod_eq_emod_of_nonneg (by omega)]; omega
          obtain ⟨v1, h1⟩ : ∃ v, exprB x = v := ⟨_, rfl⟩
          have HA2 : tmplB k (ks.drop k) = (v1 && tmplB (k + 1) (ks.drop (k + 1))) := by rw [HA.out, if_neg hk0, h1]
          have HA2 := Lib.hid HA2
          go_wp2_with fail
          refine (hE x).mono ?_
          rintro e w1 ⟨rfl, rfl⟩
          rw [h1]
          cases v1
          · have hfin : tmplB 0 ks = false := by rw [HF.out, HA2.out]; rfl
            have HFIN := Lib.hid hfin
            clear hfin
            simp only
            go_wp2_with fail
            go_ret
            exact ⟨by rw [HFIN.out]; rfl, rfl⟩
          · have hfin : tmplB 0 ks = tmplB (k + 1) (ks.drop (k + 1)) := by rw [HF.out, HA2.out]; rfl
            have HFIN := Lib.hid hfin
            clear hfin
            simp only
            go_wp2_with fail
            go_roundw
            case rel => exact ⟨k + 1, by omega, by go_num, trivial, HFIN.out⟩
            case measure => simp [intOf]; omega
      · obtain rfl : k = m := by omega
        have hfin : tmplB 0 ks = true := by rw [HF.out, List.drop_of_length_le (by have := HM.out; omega)]; rfl
        have HFIN := Lib.hid hfin
        clear hfin
        go_wp2_with fail
        go_ret
        exact ⟨by rw [HFIN.out]; rfl, rfl⟩
  · have e2 : Int.tmod (m : Int) 2 = 0 := by rw [Int.tmod_eq_emod_of_nonneg (by omega)]; omega
    rw [decide_eq_false hpar, Bool.false_and]
    go_wp2_with fail
    go_ret
    exact ⟨rfl, rfl⟩
/-- a switch's clauses -/
def clB : List Int → Nat → Bool
  | [], n => decide (n ≤ 1)
  | k :: r, n => if k == 51 then clB r (n + 1) else if k == 50 then clB r n else false
theorem cl_at {l : List Int} {k n : Nat} {x : Int} (h : l[k]? = some x) : clB (l.drop k) n = if x == 51 then clB (l.drop (k + 1)) (n + 1) else if x == 50 then clB (l.drop (k + 1)) n else false := by
  rw [List.drop_eq_getElem_cons (List.getElem?_eq_some_iff.1 h).1, (List.getElem?_eq_some_iff.1 h).2]
  rfl
def clausesB : List Int → Bool
  | [] => false
  | k :: r => exprB k && clB r 0
theorem clauses_any (hr : Rd w w.heap.size A (ints ks)) (hm : ks.length = m) (hm2 : m ≤ 3000) (hA : m ≤ c ∧ (m ≠ 0 → ∃ g, A = some ⟨g, 0, none⟩)) :
    Calls Tryd.prog 48 #[.slice A m c] w fun e w' => e = .returned (.bool (clausesB ks)) ∧ w' = w := by
  have hE := fun k => refexpr_any k w
  cases ks with
  | nil =>
    obtain rfl : m = 0 := hm.symm
    go_enter Tryd.func48, Tryd.ntmps48
    go_wp2_with fail
    go_ret
    exact ⟨rfl, rfl⟩
  | cons k0 r =>
    obtain ⟨M, rfl⟩ : ∃ M, m = M + 1 := ⟨r.length, by rw [← hm]; rfl⟩
    obtain ⟨hmc, hA2⟩ := hA
    obtain ⟨g, rfl⟩ := hA2 (by omega)
    clear hA2
    obtain ⟨ad, had, hc0⟩ := rd_int hr (k := 0) (x := k0) rfl
    obtain rfl := Option.some.inj had
    have hM : r.length = M := by simpa using hm
    have hcr : ∀ k x, r[k]? = some x → w.cell? ⟨g, 1 + k, none⟩ = some (.int .i64 x) := fun k x hx => by
      obtain ⟨ad', h1, h2⟩ := rd_int hr (k := k + 1) (x := x) hx
      obtain rfl := Option.some.inj h1
      rw [Addr.add_lit, Nat.zero_add] at h2
      rw [Nat.add_comm 1 k]
      exact h2
    have HCR := Lib.hid hcr
    have HM := Lib.hid hM
    clear hcr hM hm hr
    obtain ⟨v1, h1⟩ : ∃ v, exprB k0 = v := ⟨_, rfl⟩
    have hE0 := hE k0
    rw [h1] at hE0
    have hcb : clausesB (k0 :: r) = (v1 && clB r 0) := by rw [← h1]; rfl
    rw [addr_add0] at hc0
    rw [hcb]
    clear hcb
    go_enter Tryd.func48, Tryd.ntmps48
    go_wp2_with fail
    refine hE0.mono ?_
    rintro e w1 ⟨rfl, rfl⟩
    cases v1
    · simp only
      go_wp2_with fail
      go_ret
      exact ⟨rfl, rfl⟩
    · simp only
      have hloop : clB r 0 = clB (r.drop 0) 0 := rfl
      by_cases hc1 : c = 1
      · obtain rfl : M = 0 := by omega
        have hfin : clB r 0 = true := by
          cases r with
          | nil => rfl
          | cons a b => have := HM.out; simp at this
        have HFIN := Lib.hid hfin
        clear hfin
        go_wp2_with fail
        go_loopw [3, 19] (fun v i wr => v = .int .i64 0 ∧ i = .int .i64 0 ∧ wr = w1) (fun _ _ _ => 0)
        case atStart => exact ⟨rfl, rfl, rfl⟩
        case round =>
          obtain ⟨rfl, rfl, rfl⟩ := hrel
          go_wp2_with fail
          go_ret
          exact ⟨by rw [HFIN.out]; rfl, rfl⟩
      · go_wp2_with fail
        go_loopw [3, 19] (fun v i wr => ∃ j n : Nat, j ≤ M ∧ n ≤ j ∧ v = .int .i64 n ∧ i = .int .i64 j ∧ wr = w1 ∧ clB r 0 = clB (r.drop j) n) (fun _ i _ => M - (intOf i).toNat)
        case atStart => exact ⟨0, 0, Nat.zero_le _, Nat.le_refl _, rfl, rfl, rfl, rfl⟩
        case round =>
          obtain ⟨j, n, hj, hn, rfl, rfl, rfl, hf⟩ := hrel
          have HF := Lib.hid hf
          clear hf hloop
          by_cases hlt : j < M
          · obtain ⟨x, hx⟩ : ∃ x, r[j]? = some x := ⟨r[j]'(by have := HM.out; omega), List.getElem?_eq_getElem _⟩
            have hcx := HCR.out j x hx
            have HA := Lib.hid (cl_at (n := n) hx)
            clear hx
            by_cases e1 : x = 51
            · subst e1
              have hfin : clB r 0 = clB (r.drop (j + 1)) (n + 1) := by rw [HF.out, HA.out]; rfl
              have HFIN := Lib.hid hfin
              clear hfin
              go_wp2_with fail
              go_roundw
              case rel => exact ⟨j + 1, n + 1, by omega, by omega, by go_num, by go_num, trivial, HFIN.out⟩
              case measure => simp [intOf]; omega
            · have e1' : (x == 51) = false := by rw [beq_eq_false_iff_ne]; exact e1
              by_cases e2 : x = 50
              · subst e2
                have hfin : clB r 0 = clB (r.drop (j + 1)) n := by rw [HF.out, HA.out]; rfl
                have HFIN := Lib.hid hfin
                clear hfin
                go_wp2_with fail
                go_roundw
                case rel => exact ⟨j + 1, n, by omega, by omega, rfl, by go_num, trivial, HFIN.out⟩
                case measure => simp [intOf]; omega
              · have e2' : (x == 50) = false := by rw [beq_eq_false_iff_ne]; exact e2
                have e2'' : (x != 50) = true := by rw [bne, e2']; rfl
                have hfin : clB r 0 = false := by rw [HF.out, HA.out, e1', e2']; rfl
                have HFIN := Lib.hid hfin
                clear hfin
                go_wp2_with fail
                go_ret
                exact ⟨by rw [HFIN.out]; rfl, rfl⟩
          · obtain rfl : j = M := by omega
            have hfin : clB r 0 = decide (n ≤ 1) := by rw [HF.out, List.drop_of_length_le (by have := HM.out; omega)]; rfl
            have HFIN := Lib.hid hfin
            clear hfin
            obtain ⟨v, hv⟩ : ∃ v, decide (n ≤ 1) = v := ⟨_, rfl⟩
            have hv2 : decide ((n : Int) ≤ 1) = v := by rw [← hv]; congr 1; simp; omega
            rw [hv] at HFIN
            have HV := Lib.hid hv2
            clear hv hv2
            go_wp2_with fail
            go_ret
            refine ⟨?_, rfl⟩
            rw [HFIN.out, ← HV.out]
            rfl
end
end Go.Proofs.YtgnpgdjjdhlhaaaDoor
