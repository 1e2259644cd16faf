/- A node's own fields: the document's. -/
import Derived.Test.YtgnpgdjjdhlhaaaDoorTText
namespace Go.Proofs.YtgnpgdjjdhlhaaaDoor
open Go.RowKit
set_option maxHeartbeats 4000000
set_option maxRecDepth 100000
attribute [local go_sem] Oper.semAt_some store_floatK

/-- a node's own fields are right -/
def fieldsB (x : Nd) : Bool :=
  ((x.kind == 2) || decide (x.str.size = 0)) && !decide (x.at_ < 0) && decide (x.str.size % 2 = 0) &&
    (if x.kind == 1 then (FloatKind.f64.format.order x.num x.num == some Ordering.eq) && fge0 x.num && !sgnB x.num && decide (x.text.size = 0)
     else feq0 x.num && !sgnB x.num && textB x.kind x.text)
section
variable {w : World}
theorem fields_ok (x : Nd) (hs : x.text.size ≤ 1048576) (hs2 : x.str.size ≤ 1048576) : Calls Tryd.prog 14 #[nV x] w fun e w' => e = .returned (.bool (fieldsB x)) ∧ Below w.heap.size w w' := by
  have y1 := heap_alloc_new w (.cells (nCells x) 39)
  have b1 : Below w.heap.size w (w.alloc (.cells (nCells x) 39)) := (Below.refl _ _).alloc (Nat.le_refl _) _
  have htx := fun w' => reftext_any (w := w') x hs
  have hsame := same0_any x.num
  have hsgn := signbit_any x.num
  have hem := empty_dec (s := x.text)
  have hem2 := empty_dec (s := x.str)
  have hfb : fieldsB x = (((x.kind == 2) || decide (x.str.size = 0)) && !decide (x.at_ < 0) && decide (x.str.size % 2 = 0) && (if x.kind == 1 then (FloatKind.f64.format.order x.num x.num == some Ordering.eq) && fge0 x.num && !sgnB x.num && decide (x.text.size = 0) else feq0 x.num && !sgnB x.num && textB x.kind x.text)) := rfl
  obtain ⟨b, hb⟩ : ∃ b, x.num = b := ⟨_, rfl⟩
  obtain ⟨vt, et⟩ : ∃ v, textB x.kind x.text = v := ⟨_, rfl⟩
  obtain ⟨vg, eg⟩ : ∃ v, fge0 b = v := ⟨_, rfl⟩
  obtain ⟨vq, eq⟩ : ∃ v, (FloatKind.f64.format.order b b == some Ordering.eq) = v := ⟨_, rfl⟩
  obtain ⟨vz, ez⟩ : ∃ v, feq0 b = v := ⟨_, rfl⟩
  obtain ⟨vs, es⟩ : ∃ v, sgnB b = v := ⟨_, rfl⟩
  rw [hb] at hfb hsame hsgn
  rw [et] at htx
  rw [et, eg, eq, ez, es] at hfb
  rw [ez, es] at hsame
  rw [es] at hsgn
  obtain ⟨ve, ee⟩ : ∃ v, decide (x.text.size = 0) = v := ⟨_, rfl⟩
  obtain ⟨vf, ef⟩ : ∃ v, decide (x.str.size = 0) = v := ⟨_, rfl⟩
  rw [ee] at hem hfb
  rw [ef] at hem2 hfb
  obtain ⟨va, ea⟩ : ∃ v, decide (x.at_ < 0) = v := ⟨_, rfl⟩
  obtain ⟨m, hm⟩ : ∃ m, x.str.size = m := ⟨_, rfl⟩
  obtain ⟨kn, hkn⟩ : ∃ m, x.kids.length = m := ⟨_, rfl⟩
  rw [hm] at hfb hs2
  rw [ea] at hfb
  unfold nV at htx ⊢
  unfold nCells at y1 b1
  rw [hkn, hb] at y1 b1 htx ⊢
  have HFB := Lib.hid hfb
  have HTX := Lib.hid htx
  have HSAME := Lib.hid hsame
  have HSGN := Lib.hid hsgn
  clear hfb htx hsame hsgn et ez es hb hkn hs ee ef
  obtain ⟨k, hk⟩ : ∃ k, x.kind = k := ⟨_, rfl⟩
  have HK := Lib.hid hk
  rw [hk] at y1 b1 ⊢
  clear hk
  obtain ⟨w1, hw1⟩ : ∃ w1, w.alloc (.cells #[.int .i64 k, .string x.text, .string x.str, .float .f64 b, .slice x.kA kn x.kC, .int .i64 x.at_] 39) = w1 := ⟨_, rfl⟩
  rw [hw1] at y1 b1
  have l1 := (Array.getElem?_eq_some_iff.1 y1).1
  have hF : ∀ w', Below w1.heap.size w1 w' → w'.cell? ⟨w.heap.size, 0, none⟩ = some (.int .i64 k) ∧ w'.cell? ⟨w.heap.size, 1, none⟩ = some (.string x.text) ∧ w'.cell? ⟨w.heap.size, 2, none⟩ = some (.string x.str) ∧ w'.cell? ⟨w.heap.size, 3, none⟩ = some (.float .f64 b) ∧ w'.cell? ⟨w.heap.size, 4, none⟩ = some (.slice x.kA kn x.kC) ∧ w'.cell? ⟨w.heap.size, 5, none⟩ = some (.int .i64 x.at_) := fun w' hb => by
    have hz := (hb.block _ l1).trans y1
    have e0 := cell_blockK hz 0
    have e1 := cell_blockK hz 1
    have e2 := cell_blockK hz 2
    have e3 := cell_blockK hz 3
    have e4 := cell_blockK hz 4
    have e5 := cell_blockK hz 5
    simp at e0 e1 e2 e3 e4 e5
    exact ⟨e0, e1, e2, e3, e4, e5⟩
  obtain ⟨t0, t1, t2, t3, t4, t5⟩ := hF w1 (Below.refl _ _)
  clear hF
  have hbw : w.heap.size ≤ w1.heap.size := Nat.le_of_lt l1
  obtain ⟨v2, e2⟩ : ∃ v, (k == 2) = v := ⟨_, rfl⟩
  have e2' : (k != 2) = !v2 := by rw [bne, e2]
  rcases Nat.mod_two_eq_zero_or_one m with hm2 | hm2
  · have e3 : Int.tmod (m : Int) 2 = 0 := by rw [Int.tmod_eq_emod_of_nonneg (by omega)]; omega
    by_cases hgood : (v2 || vf) = true ∧ va = false
    · have hfin : fieldsB x = if k == 1 then vq && vg && !vs && ve else vz && !vs && vt := by
        rw [HFB.out, HK.out, e2, hgood.1, hgood.2, decide_eq_true hm2]; rfl
      have HFIN := Lib.hid hfin
      obtain ⟨hg1, rfl⟩ := hgood
      clear hfin
      by_cases hk1 : k = 1
      · subst hk1
        have hk2 : v2 = false := by rw [← e2]; rfl
        subst hk2
        obtain rfl : vf = true := hg1
        have eg' : (FloatKind.f64.format.order b 0 == some Ordering.gt || FloatKind.f64.format.order b 0 == some Ordering.eq) = vg := eg
        clear eg
        go_enter Tryd.func14, Tryd.ntmps14
        cases vq <;> cases vg
        all_goals
          go_wp2_with fail
          first
            | (go_ret
               exact ⟨by rw [HFIN.out]; rfl, b1⟩)
            | (refine (HSGN.out _).mono ?_
               rintro e w2 ⟨rfl, rfl⟩
               cases vs <;> cases ve
               all_goals
                 simp only
                 go_wp2_with fail
                 go_ret
                 exact ⟨by rw [HFIN.out]; rfl, b1⟩)
      · have hk1' : (k == 1) = false := by rw [beq_eq_false_iff_ne]; exact hk1
        have HK1 := Lib.hid hk1'
        clear hk1
        have hstr : (v2 = true ∨ vf = true) := by cases v2 <;> simp_all
        go_enter Tryd.func14, Tryd.ntmps14
        cases v2 <;> cases vf
        · rcases hstr with h | h <;> cases h
        all_goals
          clear hg1 hstr
          go_wp2_with fail
          refine (HSAME.out _).mono ?_
          rintro e w2 ⟨rfl, rfl⟩
          cases vz <;> cases vs
          all_goals
            simp only
            go_wp2_with fail
            first
              | (go_ret
                 exact ⟨by rw [HFIN.out, HK1.out]; rfl, b1⟩)
              | (have ht := HTX.out w2
                 rw [HK.out] at ht
                 refine Calls.mono ht ?_
                 rintro e w3 ⟨rfl, hb3⟩
                 simp only
                 go_wp2_with fail
                 go_ret
                 exact ⟨by rw [HFIN.out, HK1.out]; rfl, b1.trans (hb3.mono hbw)⟩)
    · have hfin : fieldsB x = false := by
        rw [HFB.out, HK.out, e2]
        cases v2 <;> cases vf <;> cases va <;> first | rfl | exact absurd ⟨rfl, rfl⟩ hgood
      have HFIN := Lib.hid hfin
      clear hfin
      go_enter Tryd.func14, Tryd.ntmps14
      cases v2 <;> cases vf <;> cases va
      all_goals first
        | exact absurd ⟨rfl, rfl⟩ hgood
        | (clear hgood
           go_wp2_with fail
           go_ret
           exact ⟨by rw [HFIN.out]; rfl, b1⟩)
  · have e3 : Int.tmod (m : Int) 2 = 1 := by rw [Int.tmod_eq_emod_of_nonneg (by omega)]; omega
    have hfin : fieldsB x = false := by
      rw [HFB.out, decide_eq_false (by omega : ¬ m % 2 = 0)]; simp
    have HFIN := Lib.hid hfin
    clear hfin
    go_enter Tryd.func14, Tryd.ntmps14
    cases v2 <;> cases vf <;> cases va
    all_goals
      go_wp2_with fail
      go_ret
      exact ⟨by rw [HFIN.out]; rfl, b1⟩
end
end Go.Proofs.YtgnpgdjjdhlhaaaDoor
