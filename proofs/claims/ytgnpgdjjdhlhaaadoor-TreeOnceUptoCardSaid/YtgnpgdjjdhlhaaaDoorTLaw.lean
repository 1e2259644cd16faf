/- What the document says of a node's kids is what the rules say. -/
import Derived.Test.YtgnpgdjjdhlhaaaDoorTRule
import Derived.Test.YtgnpgdjjdhlhaaaDoorTTextC
import Derived.Test.YtgnpgdjjdhlhaaaDoorTMoreC
import Derived.Test.YtgnpgdjjdhlhaaaDoorTShapeD
namespace Go.Proofs.YtgnpgdjjdhlhaaaDoor
open Go.RowKit
set_option maxHeartbeats 4000000
set_option maxRecDepth 100000

def tok : Nat → List (Nat × Nat)
  | 8 => [(97, 42)]
  | 9 => [(112, 42)]
  | 10 => [(107, 0), (101, 0)]
  | 11 => [(107, 0), (71, 0)]
  | 12 => [(107, 0), (83, 0)]
  | 13 => [(80, 0), (66, 0)]
  | 14 => [(80, 0), (65, 0)]
  | 15 => [(101, 0), (97, 42)]
  | 16 => [(101, 0), (97, 42)]
  | 17 => [(101, 0)]
  | 18 => [(101, 0), (101, 0)]
  | 19 => [(101, 0)]
  | 20 => [(116, 0)]
  | 21 => [(116, 0)]
  | 22 => [(101, 0), (101, 0)]
  | 23 => [(101, 0), (101, 0)]
  | 24 => [(101, 0), (101, 0)]
  | 25 => [(101, 0), (101, 0), (101, 0)]
  | 26 => [(116, 0), (101, 0)]
  | 27 => [(101, 0), (101, 0), (101, 42)]
  | 29 => [(101, 0)]
  | 30 => [(110, 42), (114, 63)]
  | 32 => [(115, 42)]
  | 33 => [(105, 0), (105, 42)]
  | 34 => [(105, 0), (105, 42)]
  | 35 => [(101, 63)]
  | 37 => [(101, 0)]
  | 38 => [(101, 0), (98, 0), (98, 63)]
  | 39 => [(102, 0), (109, 0), (109, 0), (98, 0)]
  | 40 => [(104, 0), (101, 0), (98, 0)]
  | 41 => [(104, 0), (101, 0), (98, 0)]
  | 42 => [(101, 0), (98, 0)]
  | 43 => [(98, 0), (101, 0)]
  | 46 => [(101, 63)]
  | 47 => [(101, 0)]
  | 48 => [(66, 0), (78, 0), (78, 0)]
  | 49 => [(101, 0), (99, 42)]
  | 50 => [(101, 0), (115, 42)]
  | 51 => [(115, 42)]
  | 52 => [(98, 0)]
  | 53 => [(80, 0), (66, 0)]
  | 55 => [(115, 42)]
  | 56 => [(101, 0)]
  | _ => []
theorem tok_tab : (List.range 57).all (fun k => (k == 28) || ((bytesT (tok k) == (ruleK k).data.toList) && (tok k).all tokOk && decide ((tok k).length ≤ 10))) = true := by decide +kernel
theorem tok_of {k : Nat} (hk : k < 57) (h28 : k ≠ 28) : (ruleK k).data.toList = bytesT (tok k) ∧ (tok k).all tokOk = true ∧ (tok k).length ≤ 10 := by
  have h := List.all_eq_true.1 tok_tab k (List.mem_range.2 hk)
  rw [show (k == 28) = false from by rw [beq_eq_false_iff_ne]; exact h28, Bool.false_or] at h
  simp only [Bool.and_eq_true, beq_iff_eq, decide_eq_true_eq] at h
  exact ⟨h.1.1.symm, h.1.2, h.2⟩
theorem rule28 : ruleK 28 = ⟨#[84]⟩ := by
  have h : (ruleK 28).data.toList = [84] := by decide +kernel
  rw [← ba_data (ruleK 28), h]
section
variable {l : List Nd} {f : Nat} {qs : List Int} {t : ByteArray}
theorem dropWhile_all {F : Int → Bool} : ∀ {qs : List Int}, qs.all F = true → qs.dropWhile F = []
  | [], _ => rfl
  | q :: r, h => by
    rw [List.all_cons, Bool.and_eq_true] at h
    rw [List.dropWhile_cons, if_pos h.1]
    exact dropWhile_all h.2
theorem star_map {a : Nat} {g : Int → Bool} (hg : ∀ q, fitsB l f a q = g (kindAt l q)) (h : (qs.map (kindAt l)).all g = true) : kidsT (fitsB l f) [(a, 42)] qs = true := by
  rw [kidsT_star, dropWhile_all (by
    rw [List.all_map] at h
    rw [← h]
    congr 1
    funext q
    exact hg q)]
  rfl
theorem one_step {a : Nat} {r : List (Nat × Nat)} {q : Int} (h : fitsB l f a q = true) : kidsT (fitsB l f) ((a, 0) :: r) (q :: qs) = kidsT (fitsB l f) r qs := by
  rw [kidsT_one (by decide), if_pos h]
theorem fit_e (q : Int) : fitsB l f 101 q = exprB (kindAt l q) := rfl
theorem fit_a (q : Int) : fitsB l f 97 q = okE true (kindAt l q) := rfl
theorem fit_p (q : Int) : fitsB l f 112 q = propB (kindAt l q) := rfl
theorem fit_s (q : Int) : fitsB l f 115 q = stmtB (kindAt l q) := rfl
theorem fit_i (q : Int) : fitsB l f 105 q = (kindAt l q == 35) := rfl
theorem fit_c (q : Int) : fitsB l f 99 q = ((kindAt l q == 50) || (kindAt l q == 51)) := rfl
theorem fit_n (q : Int) : fitsB l f 110 q = (kindAt l q == 6) := rfl
theorem fit_r (q : Int) : fitsB l f 114 q = (kindAt l q == 31) := rfl
theorem clB_all : ∀ {r : List Int} {n : Nat}, clB r n = true → r.all (fun k => (k == 50) || (k == 51)) = true ∧ cnt51 r + n ≤ 1
  | [], n, h => ⟨rfl, by unfold clB at h; unfold cnt51; have := of_decide_eq_true h; omega⟩
  | k :: r, n, h => by
    unfold clB at h
    unfold cnt51
    rw [List.all_cons]
    cases h51 : (k == 51) with
    | true =>
      rw [h51] at h
      have := clB_all (r := r) (n := n + 1) h
      refine ⟨by rw [this.1, Bool.or_true]; rfl, ?_⟩
      have h2 := this.2
      rw [if_pos rfl]
      omega
    | false =>
      rw [h51] at h
      cases h50 : (k == 50) with
      | true =>
        rw [h50] at h
        have := clB_all (r := r) (n := n) h
        refine ⟨by rw [this.1]; rfl, ?_⟩
        have h2 := this.2
        rw [if_neg (by decide)]
        omega
      | false => rw [h50] at h; cases h
theorem params_star : ∀ {qs : List Int}, paramsB (qs.map (kindAt l)) = true → kidsT (fitsB l f) [(110, 42), (114, 63)] qs = true
  | [], _ => rfl
  | [q], h => by
    have h : ((kindAt l q == 6) || (kindAt l q == 31)) = true := h
    rw [kidsT_star, List.dropWhile_cons, fit_n]
    cases h6 : (kindAt l q == 6) with
    | true => rfl
    | false =>
      rw [h6, Bool.false_or] at h
      rw [if_neg (by decide), kidsT_one (by decide), fit_r, h]
      rfl
  | q :: q2 :: r, h => by
    have h : ((kindAt l q == 6) && paramsB ((q2 :: r).map (kindAt l))) = true := h
    rw [Bool.and_eq_true] at h
    rw [kidsT_star, List.dropWhile_cons, fit_n, if_pos h.1, ← kidsT_star]
    exact params_star h.2
theorem law_1 (h : sh1 l 1 qs = true) : kidsT (fitsB l f) (tok 1) qs = true := by
  rcases qs with _ | ⟨a, _ | ⟨b, _ | ⟨c, _ | ⟨d, _ | ⟨e, r⟩⟩⟩⟩⟩
  all_goals first
    | (exfalso; simp [sh1] at h; done)
    | (simp [sh1] at h; simp [tok, kidsT]; done)
    | (simp [sh1, moreK, keyB, targetB] at h; simp [tok, kidsT, fitsB]; simp_all; done)
    | (simp [sh1, moreK, keyB, targetB] at h; simp [tok, kidsT, fitsB]; omega)
theorem law_2 (h : sh1 l 2 qs = true) : kidsT (fitsB l f) (tok 2) qs = true := by
  rcases qs with _ | ⟨a, _ | ⟨b, _ | ⟨c, _ | ⟨d, _ | ⟨e, r⟩⟩⟩⟩⟩
  all_goals first
    | (exfalso; simp [sh1] at h; done)
    | (simp [sh1] at h; simp [tok, kidsT]; done)
    | (simp [sh1, moreK, keyB, targetB] at h; simp [tok, kidsT, fitsB]; simp_all; done)
    | (simp [sh1, moreK, keyB, targetB] at h; simp [tok, kidsT, fitsB]; omega)
theorem law_3 (h : sh1 l 3 qs = true) : kidsT (fitsB l f) (tok 3) qs = true := by
  rcases qs with _ | ⟨a, _ | ⟨b, _ | ⟨c, _ | ⟨d, _ | ⟨e, r⟩⟩⟩⟩⟩
  all_goals first
    | (exfalso; simp [sh1] at h; done)
    | (simp [sh1] at h; simp [tok, kidsT]; done)
    | (simp [sh1, moreK, keyB, targetB] at h; simp [tok, kidsT, fitsB]; simp_all; done)
    | (simp [sh1, moreK, keyB, targetB] at h; simp [tok, kidsT, fitsB]; omega)
theorem law_4 (h : sh1 l 4 qs = true) : kidsT (fitsB l f) (tok 4) qs = true := by
  rcases qs with _ | ⟨a, _ | ⟨b, _ | ⟨c, _ | ⟨d, _ | ⟨e, r⟩⟩⟩⟩⟩
  all_goals first
    | (exfalso; simp [sh1] at h; done)
    | (simp [sh1] at h; simp [tok, kidsT]; done)
    | (simp [sh1, moreK, keyB, targetB] at h; simp [tok, kidsT, fitsB]; simp_all; done)
    | (simp [sh1, moreK, keyB, targetB] at h; simp [tok, kidsT, fitsB]; omega)
theorem law_5 (h : sh1 l 5 qs = true) : kidsT (fitsB l f) (tok 5) qs = true := by
  rcases qs with _ | ⟨a, _ | ⟨b, _ | ⟨c, _ | ⟨d, _ | ⟨e, r⟩⟩⟩⟩⟩
  all_goals first
    | (exfalso; simp [sh1] at h; done)
    | (simp [sh1] at h; simp [tok, kidsT]; done)
    | (simp [sh1, moreK, keyB, targetB] at h; simp [tok, kidsT, fitsB]; simp_all; done)
    | (simp [sh1, moreK, keyB, targetB] at h; simp [tok, kidsT, fitsB]; omega)
theorem law_6 (h : sh1 l 6 qs = true) : kidsT (fitsB l f) (tok 6) qs = true := by
  rcases qs with _ | ⟨a, _ | ⟨b, _ | ⟨c, _ | ⟨d, _ | ⟨e, r⟩⟩⟩⟩⟩
  all_goals first
    | (exfalso; simp [sh1] at h; done)
    | (simp [sh1] at h; simp [tok, kidsT]; done)
    | (simp [sh1, moreK, keyB, targetB] at h; simp [tok, kidsT, fitsB]; simp_all; done)
    | (simp [sh1, moreK, keyB, targetB] at h; simp [tok, kidsT, fitsB]; omega)
theorem law_7 (h : sh1 l 7 qs = true) : kidsT (fitsB l f) (tok 7) qs = true := by
  rcases qs with _ | ⟨a, _ | ⟨b, _ | ⟨c, _ | ⟨d, _ | ⟨e, r⟩⟩⟩⟩⟩
  all_goals first
    | (exfalso; simp [sh1] at h; done)
    | (simp [sh1] at h; simp [tok, kidsT]; done)
    | (simp [sh1, moreK, keyB, targetB] at h; simp [tok, kidsT, fitsB]; simp_all; done)
    | (simp [sh1, moreK, keyB, targetB] at h; simp [tok, kidsT, fitsB]; omega)
theorem law_31 (h : sh1 l 31 qs = true) : kidsT (fitsB l f) (tok 31) qs = true := by
  rcases qs with _ | ⟨a, _ | ⟨b, _ | ⟨c, _ | ⟨d, _ | ⟨e, r⟩⟩⟩⟩⟩
  all_goals first
    | (exfalso; simp [sh1] at h; done)
    | (simp [sh1] at h; simp [tok, kidsT]; done)
    | (simp [sh1, moreK, keyB, targetB] at h; simp [tok, kidsT, fitsB]; simp_all; done)
    | (simp [sh1, moreK, keyB, targetB] at h; simp [tok, kidsT, fitsB]; omega)
theorem law_36 (h : sh1 l 36 qs = true) : kidsT (fitsB l f) (tok 36) qs = true := by
  rcases qs with _ | ⟨a, _ | ⟨b, _ | ⟨c, _ | ⟨d, _ | ⟨e, r⟩⟩⟩⟩⟩
  all_goals first
    | (exfalso; simp [sh1] at h; done)
    | (simp [sh1] at h; simp [tok, kidsT]; done)
    | (simp [sh1, moreK, keyB, targetB] at h; simp [tok, kidsT, fitsB]; simp_all; done)
    | (simp [sh1, moreK, keyB, targetB] at h; simp [tok, kidsT, fitsB]; omega)
theorem law_44 (h : sh1 l 44 qs = true) : kidsT (fitsB l f) (tok 44) qs = true := by
  rcases qs with _ | ⟨a, _ | ⟨b, _ | ⟨c, _ | ⟨d, _ | ⟨e, r⟩⟩⟩⟩⟩
  all_goals first
    | (exfalso; simp [sh1] at h; done)
    | (simp [sh1] at h; simp [tok, kidsT]; done)
    | (simp [sh1, moreK, keyB, targetB] at h; simp [tok, kidsT, fitsB]; simp_all; done)
    | (simp [sh1, moreK, keyB, targetB] at h; simp [tok, kidsT, fitsB]; omega)
theorem law_45 (h : sh1 l 45 qs = true) : kidsT (fitsB l f) (tok 45) qs = true := by
  rcases qs with _ | ⟨a, _ | ⟨b, _ | ⟨c, _ | ⟨d, _ | ⟨e, r⟩⟩⟩⟩⟩
  all_goals first
    | (exfalso; simp [sh1] at h; done)
    | (simp [sh1] at h; simp [tok, kidsT]; done)
    | (simp [sh1, moreK, keyB, targetB] at h; simp [tok, kidsT, fitsB]; simp_all; done)
    | (simp [sh1, moreK, keyB, targetB] at h; simp [tok, kidsT, fitsB]; omega)
theorem law_54 (h : sh1 l 54 qs = true) : kidsT (fitsB l f) (tok 54) qs = true := by
  rcases qs with _ | ⟨a, _ | ⟨b, _ | ⟨c, _ | ⟨d, _ | ⟨e, r⟩⟩⟩⟩⟩
  all_goals first
    | (exfalso; simp [sh1] at h; done)
    | (simp [sh1] at h; simp [tok, kidsT]; done)
    | (simp [sh1, moreK, keyB, targetB] at h; simp [tok, kidsT, fitsB]; simp_all; done)
    | (simp [sh1, moreK, keyB, targetB] at h; simp [tok, kidsT, fitsB]; omega)
theorem law_10 (h : sh1 l 10 qs = true) : kidsT (fitsB l f) (tok 10) qs = true := by
  rcases qs with _ | ⟨a, _ | ⟨b, _ | ⟨c, _ | ⟨d, _ | ⟨e, r⟩⟩⟩⟩⟩
  all_goals first
    | (exfalso; simp [sh1] at h; done)
    | (simp [sh1, keyB] at h; simp [tok, kidsT, fitsB, h]; done)
    | (simp [sh1, moreK, keyB, targetB] at h; simp [tok, kidsT, fitsB]; simp_all; done)
    | (simp [sh1, moreK, keyB, targetB] at h; simp [tok, kidsT, fitsB]; omega)
theorem law_11 (h : sh1 l 11 qs = true) : kidsT (fitsB l f) (tok 11) qs = true := by
  rcases qs with _ | ⟨a, _ | ⟨b, _ | ⟨c, _ | ⟨d, _ | ⟨e, r⟩⟩⟩⟩⟩
  all_goals first
    | (exfalso; simp [sh1] at h; done)
    | (simp [sh1, keyB] at h; simp [tok, kidsT, fitsB, h]; done)
    | (simp [sh1, moreK, keyB, targetB] at h; simp [tok, kidsT, fitsB]; simp_all; done)
    | (simp [sh1, moreK, keyB, targetB] at h; simp [tok, kidsT, fitsB]; omega)
theorem law_12 (h : sh1 l 12 qs = true) : kidsT (fitsB l f) (tok 12) qs = true := by
  rcases qs with _ | ⟨a, _ | ⟨b, _ | ⟨c, _ | ⟨d, _ | ⟨e, r⟩⟩⟩⟩⟩
  all_goals first
    | (exfalso; simp [sh1] at h; done)
    | (simp [sh1, keyB] at h; simp [tok, kidsT, fitsB, h]; done)
    | (simp [sh1, moreK, keyB, targetB] at h; simp [tok, kidsT, fitsB]; simp_all; done)
    | (simp [sh1, moreK, keyB, targetB] at h; simp [tok, kidsT, fitsB]; omega)
theorem law_13 (h : sh1 l 13 qs = true) : kidsT (fitsB l f) (tok 13) qs = true := by
  rcases qs with _ | ⟨a, _ | ⟨b, _ | ⟨c, _ | ⟨d, _ | ⟨e, r⟩⟩⟩⟩⟩
  all_goals first
    | (exfalso; simp [sh1] at h; done)
    | (simp [sh1] at h; simp [tok, kidsT, fitsB, h]; done)
    | (simp [sh1, moreK, keyB, targetB] at h; simp [tok, kidsT, fitsB]; simp_all; done)
    | (simp [sh1, moreK, keyB, targetB] at h; simp [tok, kidsT, fitsB]; omega)
theorem law_53 (h : sh1 l 53 qs = true) : kidsT (fitsB l f) (tok 53) qs = true := by
  rcases qs with _ | ⟨a, _ | ⟨b, _ | ⟨c, _ | ⟨d, _ | ⟨e, r⟩⟩⟩⟩⟩
  all_goals first
    | (exfalso; simp [sh1] at h; done)
    | (simp [sh1] at h; simp [tok, kidsT, fitsB, h]; done)
    | (simp [sh1, moreK, keyB, targetB] at h; simp [tok, kidsT, fitsB]; simp_all; done)
    | (simp [sh1, moreK, keyB, targetB] at h; simp [tok, kidsT, fitsB]; omega)
theorem law_14 (h : sh1 l 14 qs = true) : kidsT (fitsB l f) (tok 14) qs = true := by
  rcases qs with _ | ⟨a, _ | ⟨b, _ | ⟨c, _ | ⟨d, _ | ⟨e, r⟩⟩⟩⟩⟩
  all_goals first
    | (exfalso; simp [sh1] at h; done)
    | (simp [sh1] at h; simp [tok, kidsT, fitsB, h]; done)
    | (simp [sh1, moreK, keyB, targetB] at h; simp [tok, kidsT, fitsB]; simp_all; done)
    | (simp [sh1, moreK, keyB, targetB] at h; simp [tok, kidsT, fitsB]; omega)
theorem law_17 (h : sh1 l 17 qs = true) : kidsT (fitsB l f) (tok 17) qs = true := by
  rcases qs with _ | ⟨a, _ | ⟨b, _ | ⟨c, _ | ⟨d, _ | ⟨e, r⟩⟩⟩⟩⟩
  all_goals first
    | (exfalso; simp [sh1] at h; done)
    | (simp [sh1] at h; simp [tok, kidsT, fitsB, h]; done)
    | (simp [sh1, moreK, keyB, targetB] at h; simp [tok, kidsT, fitsB]; simp_all; done)
    | (simp [sh1, moreK, keyB, targetB] at h; simp [tok, kidsT, fitsB]; omega)
theorem law_19 (h : sh1 l 19 qs = true) : kidsT (fitsB l f) (tok 19) qs = true := by
  rcases qs with _ | ⟨a, _ | ⟨b, _ | ⟨c, _ | ⟨d, _ | ⟨e, r⟩⟩⟩⟩⟩
  all_goals first
    | (exfalso; simp [sh1] at h; done)
    | (simp [sh1] at h; simp [tok, kidsT, fitsB, h]; done)
    | (simp [sh1, moreK, keyB, targetB] at h; simp [tok, kidsT, fitsB]; simp_all; done)
    | (simp [sh1, moreK, keyB, targetB] at h; simp [tok, kidsT, fitsB]; omega)
theorem law_29 (h : sh1 l 29 qs = true) : kidsT (fitsB l f) (tok 29) qs = true := by
  rcases qs with _ | ⟨a, _ | ⟨b, _ | ⟨c, _ | ⟨d, _ | ⟨e, r⟩⟩⟩⟩⟩
  all_goals first
    | (exfalso; simp [sh1] at h; done)
    | (simp [sh1] at h; simp [tok, kidsT, fitsB, h]; done)
    | (simp [sh1, moreK, keyB, targetB] at h; simp [tok, kidsT, fitsB]; simp_all; done)
    | (simp [sh1, moreK, keyB, targetB] at h; simp [tok, kidsT, fitsB]; omega)
theorem law_37 (h : sh1 l 37 qs = true) : kidsT (fitsB l f) (tok 37) qs = true := by
  rcases qs with _ | ⟨a, _ | ⟨b, _ | ⟨c, _ | ⟨d, _ | ⟨e, r⟩⟩⟩⟩⟩
  all_goals first
    | (exfalso; simp [sh1] at h; done)
    | (simp [sh1] at h; simp [tok, kidsT, fitsB, h]; done)
    | (simp [sh1, moreK, keyB, targetB] at h; simp [tok, kidsT, fitsB]; simp_all; done)
    | (simp [sh1, moreK, keyB, targetB] at h; simp [tok, kidsT, fitsB]; omega)
theorem law_47 (h : sh1 l 47 qs = true) : kidsT (fitsB l f) (tok 47) qs = true := by
  rcases qs with _ | ⟨a, _ | ⟨b, _ | ⟨c, _ | ⟨d, _ | ⟨e, r⟩⟩⟩⟩⟩
  all_goals first
    | (exfalso; simp [sh1] at h; done)
    | (simp [sh1] at h; simp [tok, kidsT, fitsB, h]; done)
    | (simp [sh1, moreK, keyB, targetB] at h; simp [tok, kidsT, fitsB]; simp_all; done)
    | (simp [sh1, moreK, keyB, targetB] at h; simp [tok, kidsT, fitsB]; omega)
theorem law_56 (h : sh1 l 56 qs = true) : kidsT (fitsB l f) (tok 56) qs = true := by
  rcases qs with _ | ⟨a, _ | ⟨b, _ | ⟨c, _ | ⟨d, _ | ⟨e, r⟩⟩⟩⟩⟩
  all_goals first
    | (exfalso; simp [sh1] at h; done)
    | (simp [sh1] at h; simp [tok, kidsT, fitsB, h]; done)
    | (simp [sh1, moreK, keyB, targetB] at h; simp [tok, kidsT, fitsB]; simp_all; done)
    | (simp [sh1, moreK, keyB, targetB] at h; simp [tok, kidsT, fitsB]; omega)
theorem law_18 (h : sh1 l 18 qs = true) : kidsT (fitsB l f) (tok 18) qs = true := by
  rcases qs with _ | ⟨a, _ | ⟨b, _ | ⟨c, _ | ⟨d, _ | ⟨e, r⟩⟩⟩⟩⟩
  all_goals first
    | (exfalso; simp [sh1] at h; done)
    | (simp [sh1] at h; simp [tok, kidsT, fitsB, h]; done)
    | (simp [sh1, moreK, keyB, targetB] at h; simp [tok, kidsT, fitsB]; simp_all; done)
    | (simp [sh1, moreK, keyB, targetB] at h; simp [tok, kidsT, fitsB]; omega)
theorem law_22 (h : sh1 l 22 qs = true) : kidsT (fitsB l f) (tok 22) qs = true := by
  rcases qs with _ | ⟨a, _ | ⟨b, _ | ⟨c, _ | ⟨d, _ | ⟨e, r⟩⟩⟩⟩⟩
  all_goals first
    | (exfalso; simp [sh1] at h; done)
    | (simp [sh1] at h; simp [tok, kidsT, fitsB, h]; done)
    | (simp [sh1, moreK, keyB, targetB] at h; simp [tok, kidsT, fitsB]; simp_all; done)
    | (simp [sh1, moreK, keyB, targetB] at h; simp [tok, kidsT, fitsB]; omega)
theorem law_23 (h : sh1 l 23 qs = true) : kidsT (fitsB l f) (tok 23) qs = true := by
  rcases qs with _ | ⟨a, _ | ⟨b, _ | ⟨c, _ | ⟨d, _ | ⟨e, r⟩⟩⟩⟩⟩
  all_goals first
    | (exfalso; simp [sh1] at h; done)
    | (simp [sh1] at h; simp [tok, kidsT, fitsB, h]; done)
    | (simp [sh1, moreK, keyB, targetB] at h; simp [tok, kidsT, fitsB]; simp_all; done)
    | (simp [sh1, moreK, keyB, targetB] at h; simp [tok, kidsT, fitsB]; omega)
theorem law_24 (h : sh1 l 24 qs = true) : kidsT (fitsB l f) (tok 24) qs = true := by
  rcases qs with _ | ⟨a, _ | ⟨b, _ | ⟨c, _ | ⟨d, _ | ⟨e, r⟩⟩⟩⟩⟩
  all_goals first
    | (exfalso; simp [sh1] at h; done)
    | (simp [sh1] at h; simp [tok, kidsT, fitsB, h]; done)
    | (simp [sh1, moreK, keyB, targetB] at h; simp [tok, kidsT, fitsB]; simp_all; done)
    | (simp [sh1, moreK, keyB, targetB] at h; simp [tok, kidsT, fitsB]; omega)
theorem law_20 (h : sh1 l 20 qs = true) : kidsT (fitsB l f) (tok 20) qs = true := by
  rcases qs with _ | ⟨a, _ | ⟨b, _ | ⟨c, _ | ⟨d, _ | ⟨e, r⟩⟩⟩⟩⟩
  all_goals first
    | (exfalso; simp [sh1] at h; done)
    | (simp [sh1, targetB] at h; simp [tok, kidsT, fitsB, h]; done)
    | (simp [sh1, moreK, keyB, targetB] at h; simp [tok, kidsT, fitsB]; simp_all; done)
    | (simp [sh1, moreK, keyB, targetB] at h; simp [tok, kidsT, fitsB]; omega)
theorem law_21 (h : sh1 l 21 qs = true) : kidsT (fitsB l f) (tok 21) qs = true := by
  rcases qs with _ | ⟨a, _ | ⟨b, _ | ⟨c, _ | ⟨d, _ | ⟨e, r⟩⟩⟩⟩⟩
  all_goals first
    | (exfalso; simp [sh1] at h; done)
    | (simp [sh1, targetB] at h; simp [tok, kidsT, fitsB, h]; done)
    | (simp [sh1, moreK, keyB, targetB] at h; simp [tok, kidsT, fitsB]; simp_all; done)
    | (simp [sh1, moreK, keyB, targetB] at h; simp [tok, kidsT, fitsB]; omega)
theorem law_25 (h : sh1 l 25 qs = true) : kidsT (fitsB l f) (tok 25) qs = true := by
  rcases qs with _ | ⟨a, _ | ⟨b, _ | ⟨c, _ | ⟨d, _ | ⟨e, r⟩⟩⟩⟩⟩
  all_goals first
    | (exfalso; simp [sh1] at h; done)
    | (simp [sh1] at h; simp [tok, kidsT, fitsB, h]; done)
    | (simp [sh1, moreK, keyB, targetB] at h; simp [tok, kidsT, fitsB]; simp_all; done)
    | (simp [sh1, moreK, keyB, targetB] at h; simp [tok, kidsT, fitsB]; omega)
theorem law_26 (h : sh1 l 26 qs = true) : kidsT (fitsB l f) (tok 26) qs = true := by
  rcases qs with _ | ⟨a, _ | ⟨b, _ | ⟨c, _ | ⟨d, _ | ⟨e, r⟩⟩⟩⟩⟩
  all_goals first
    | (exfalso; simp [sh1] at h; done)
    | (simp [sh1, targetB] at h; simp [tok, kidsT, fitsB, h]; done)
    | (simp [sh1, moreK, keyB, targetB] at h; simp [tok, kidsT, fitsB]; simp_all; done)
    | (simp [sh1, moreK, keyB, targetB] at h; simp [tok, kidsT, fitsB]; omega)
theorem law_35 (h : moreK l f 35 qs t = true) : kidsT (fitsB l f) (tok 35) qs = true := by
  rcases qs with _ | ⟨a, _ | ⟨b, _ | ⟨c, _ | ⟨d, _ | ⟨e, r⟩⟩⟩⟩⟩
  all_goals first
    | (exfalso; simp [moreK] at h; done)
    | (simp [moreK] at h; simp [tok, kidsT, fitsB, h]; done)
    | (simp [sh1, moreK, keyB, targetB] at h; simp [tok, kidsT, fitsB]; simp_all; done)
    | (simp [sh1, moreK, keyB, targetB] at h; simp [tok, kidsT, fitsB]; omega)
theorem law_46 (h : moreK l f 46 qs t = true) : kidsT (fitsB l f) (tok 46) qs = true := by
  rcases qs with _ | ⟨a, _ | ⟨b, _ | ⟨c, _ | ⟨d, _ | ⟨e, r⟩⟩⟩⟩⟩
  all_goals first
    | (exfalso; simp [moreK] at h; done)
    | (simp [moreK] at h; simp [tok, kidsT, fitsB, h]; done)
    | (simp [sh1, moreK, keyB, targetB] at h; simp [tok, kidsT, fitsB]; simp_all; done)
    | (simp [sh1, moreK, keyB, targetB] at h; simp [tok, kidsT, fitsB]; omega)
theorem law_38 (h : moreK l f 38 qs t = true) : kidsT (fitsB l f) (tok 38) qs = true := by
  rcases qs with _ | ⟨a, _ | ⟨b, _ | ⟨c, _ | ⟨d, _ | ⟨e, r⟩⟩⟩⟩⟩
  all_goals first
    | (exfalso; simp [moreK] at h; done)
    | (simp [moreK] at h; simp [tok, kidsT, fitsB, h]; done)
    | (simp [sh1, moreK, keyB, targetB] at h; simp [tok, kidsT, fitsB]; simp_all; done)
    | (simp [sh1, moreK, keyB, targetB] at h; simp [tok, kidsT, fitsB]; omega)
theorem law_39 (h : moreK l f 39 qs t = true) : kidsT (fitsB l f) (tok 39) qs = true := by
  rcases qs with _ | ⟨a, _ | ⟨b, _ | ⟨c, _ | ⟨d, _ | ⟨e, r⟩⟩⟩⟩⟩
  all_goals first
    | (exfalso; simp [moreK] at h; done)
    | (simp [moreK] at h; simp [tok, kidsT, fitsB, h]; done)
    | (simp [sh1, moreK, keyB, targetB] at h; simp [tok, kidsT, fitsB]; simp_all; done)
    | (simp [sh1, moreK, keyB, targetB] at h; simp [tok, kidsT, fitsB]; omega)
theorem law_40 (h : moreK l f 40 qs t = true) : kidsT (fitsB l f) (tok 40) qs = true := by
  rcases qs with _ | ⟨a, _ | ⟨b, _ | ⟨c, _ | ⟨d, _ | ⟨e, r⟩⟩⟩⟩⟩
  all_goals first
    | (exfalso; simp [moreK] at h; done)
    | (simp [moreK] at h; simp [tok, kidsT, fitsB, h]; done)
    | (simp [sh1, moreK, keyB, targetB] at h; simp [tok, kidsT, fitsB]; simp_all; done)
    | (simp [sh1, moreK, keyB, targetB] at h; simp [tok, kidsT, fitsB]; omega)
theorem law_41 (h : moreK l f 41 qs t = true) : kidsT (fitsB l f) (tok 41) qs = true := by
  rcases qs with _ | ⟨a, _ | ⟨b, _ | ⟨c, _ | ⟨d, _ | ⟨e, r⟩⟩⟩⟩⟩
  all_goals first
    | (exfalso; simp [moreK] at h; done)
    | (simp [moreK] at h; simp [tok, kidsT, fitsB, h]; done)
    | (simp [sh1, moreK, keyB, targetB] at h; simp [tok, kidsT, fitsB]; simp_all; done)
    | (simp [sh1, moreK, keyB, targetB] at h; simp [tok, kidsT, fitsB]; omega)
theorem law_42 (h : moreK l f 42 qs t = true) : kidsT (fitsB l f) (tok 42) qs = true := by
  rcases qs with _ | ⟨a, _ | ⟨b, _ | ⟨c, _ | ⟨d, _ | ⟨e, r⟩⟩⟩⟩⟩
  all_goals first
    | (exfalso; simp [moreK] at h; done)
    | (simp [moreK] at h; simp [tok, kidsT, fitsB, h]; done)
    | (simp [sh1, moreK, keyB, targetB] at h; simp [tok, kidsT, fitsB]; simp_all; done)
    | (simp [sh1, moreK, keyB, targetB] at h; simp [tok, kidsT, fitsB]; omega)
theorem law_43 (h : moreK l f 43 qs t = true) : kidsT (fitsB l f) (tok 43) qs = true := by
  rcases qs with _ | ⟨a, _ | ⟨b, _ | ⟨c, _ | ⟨d, _ | ⟨e, r⟩⟩⟩⟩⟩
  all_goals first
    | (exfalso; simp [moreK] at h; done)
    | (simp [moreK] at h; simp [tok, kidsT, fitsB, h]; done)
    | (simp [sh1, moreK, keyB, targetB] at h; simp [tok, kidsT, fitsB]; simp_all; done)
    | (simp [sh1, moreK, keyB, targetB] at h; simp [tok, kidsT, fitsB]; omega)
theorem law_48 (h : moreK l f 48 qs t = true) : kidsT (fitsB l f) (tok 48) qs = true := by
  rcases qs with _ | ⟨a, _ | ⟨b, _ | ⟨c, _ | ⟨d, _ | ⟨e, r⟩⟩⟩⟩⟩
  all_goals first
    | (exfalso; simp [moreK] at h; done)
    | (simp [moreK] at h; simp [tok, kidsT, fitsB, h]; done)
    | (simp [moreK] at h; simp [tok, kidsT, fitsB]; simp_all; done)
    | (simp [sh1, moreK, keyB, targetB] at h; simp [tok, kidsT, fitsB]; omega)
theorem law_52 (h : moreK l f 52 qs t = true) : kidsT (fitsB l f) (tok 52) qs = true := by
  rcases qs with _ | ⟨a, _ | ⟨b, _ | ⟨c, _ | ⟨d, _ | ⟨e, r⟩⟩⟩⟩⟩
  all_goals first
    | (exfalso; simp [moreK] at h; done)
    | (simp [moreK] at h; simp [tok, kidsT, fitsB, h]; done)
    | (simp [sh1, moreK, keyB, targetB] at h; simp [tok, kidsT, fitsB]; simp_all; done)
    | (simp [sh1, moreK, keyB, targetB] at h; simp [tok, kidsT, fitsB]; omega)
theorem law_8 (h : sh1 l 8 qs = true) : kidsT (fitsB l f) (tok 8) qs = true := star_map fit_a h
theorem law_9 (h : sh1 l 9 qs = true) : kidsT (fitsB l f) (tok 9) qs = true := star_map fit_p h
theorem law_30 (h : moreK l f 30 qs t = true) : kidsT (fitsB l f) (tok 30) qs = true := params_star h
theorem law_32 (h : moreK l f 32 qs t = true) : kidsT (fitsB l f) (tok 32) qs = true := star_map fit_s h
theorem law_51 (h : moreK l f 51 qs t = true) : kidsT (fitsB l f) (tok 51) qs = true := star_map fit_s h
theorem law_55 (h : moreK l f 55 qs t = true) : kidsT (fitsB l f) (tok 55) qs = true := star_map fit_s h
theorem law_15 (h : sh1 l 15 qs = true) : kidsT (fitsB l f) (tok 15) qs = true := by
  match qs, h with
  | [], h => cases h
  | a :: r, h =>
    have h : (exprB (kindAt l a) && (r.map (kindAt l)).all (okE true)) = true := h
    rw [Bool.and_eq_true] at h
    exact (one_step (l := l) (f := f) (a := 101) (q := a) h.1).trans (star_map fit_a h.2)
theorem law_16 (h : sh1 l 16 qs = true) : kidsT (fitsB l f) (tok 16) qs = true := by
  match qs, h with
  | [], h => cases h
  | a :: r, h =>
    have h : (exprB (kindAt l a) && (r.map (kindAt l)).all (okE true)) = true := h
    rw [Bool.and_eq_true] at h
    exact (one_step (l := l) (f := f) (a := 101) (q := a) h.1).trans (star_map fit_a h.2)
theorem law_27 (h : sh1 l 27 qs = true) : kidsT (fitsB l f) (tok 27) qs = true := by
  match qs, h with
  | [], h => cases h
  | [a], h => cases h
  | a :: b :: r, h =>
    have h : (exprB (kindAt l a) && exprB (kindAt l b) && (r.map (kindAt l)).all exprB) = true := h
    rw [Bool.and_eq_true, Bool.and_eq_true] at h
    exact (one_step (l := l) (f := f) (a := 101) (q := a) h.1.1).trans ((one_step (l := l) (f := f) (a := 101) (q := b) h.1.2).trans (star_map fit_e h.2))
theorem law_33 (h : moreK l f 33 qs t = true) : kidsT (fitsB l f) (tok 33) qs = true := by
  match qs, h with
  | [], h => cases h
  | a :: r, h =>
    have h : ((kindAt l a == 35) && (r.map (kindAt l)).all (fun k => k == 35)) = true := h
    rw [Bool.and_eq_true] at h
    exact (one_step (l := l) (f := f) (a := 105) (q := a) h.1).trans (star_map fit_i h.2)
theorem law_34 (h : moreK l f 34 qs t = true) : kidsT (fitsB l f) (tok 34) qs = true := by
  match qs, h with
  | [], h => cases h
  | a :: r, h =>
    have h : ((kindAt l a == 35) && (r.map (kindAt l)).all (fun k => k == 35)) = true := h
    rw [Bool.and_eq_true] at h
    exact (one_step (l := l) (f := f) (a := 105) (q := a) h.1).trans (star_map fit_i h.2)
theorem law_49 (h : moreK l f 49 qs t = true) : kidsT (fitsB l f) (tok 49) qs = true ∧ cnt51 (qs.map (kindAt l)) ≤ 1 := by
  match qs, h with
  | [], h => cases h
  | a :: r, h =>
    have h : (exprB (kindAt l a) && clB (r.map (kindAt l)) 0) = true := h
    rw [Bool.and_eq_true] at h
    have h2 := clB_all h.2
    refine ⟨(one_step (l := l) (f := f) (a := 101) (q := a) h.1).trans (star_map fit_c h2.1), ?_⟩
    show (if (kindAt l a == 51) = true then 1 else 0) + cnt51 (r.map (kindAt l)) ≤ 1
    have h3 : (kindAt l a == 51) = false := by
      rw [beq_eq_false_iff_ne]
      intro e
      have := h.1
      rw [e] at this
      exact absurd this (by decide)
    rw [h3, if_neg (by decide)]
    omega
theorem law_50 (h : moreK l f 50 qs t = true) : kidsT (fitsB l f) (tok 50) qs = true := by
  match qs, h with
  | [], h => cases h
  | a :: r, h =>
    have h : (exprB (kindAt l a) && (r.map (kindAt l)).all stmtB) = true := h
    rw [Bool.and_eq_true] at h
    exact (one_step (l := l) (f := f) (a := 101) (q := a) h.1).trans (star_map fit_s h.2)
end
end Go.Proofs.YtgnpgdjjdhlhaaaDoor
