/- The document's words of an instruction that is right; the walk of lintelref12.operand. -/
import Derived.Test.YtoihoackmkapaaaDoorKIns
namespace Go.Proofs.YtoihoackmkapaaaDoor
open Go.RowKit
set_option maxHeartbeats 8000000
set_option maxRecDepth 100000

def kindD (m : Nat) (f : FnT) (op : Int) (c : Nat) (n : Int) : Bool := if c = 110 ∧ op = 0 then decide (0 ≤ n ∧ n ≤ 4) else kindB m f c n
def argD (m : Nat) (f : FnT) (i : InsT) (k : Nat) : Bool := match (lettersOf i.1)[k]? with | none => argAt i k == 0 | some b => kindD m f i.1 b.toNat (argAt i k)
theorem argD_none {m : Nat} {f : FnT} {i : InsT} {k : Nat} (h : (lettersOf i.1)[k]? = none) : argD m f i k = (argAt i k == 0) := by unfold argD; rw [h]
theorem argD_some {m : Nat} {f : FnT} {i : InsT} {k : Nat} {b : UInt8} (h : (lettersOf i.1)[k]? = some b) : argD m f i k = kindD m f i.1 b.toNat (argAt i k) := by unfold argD; rw [h]
def argsD (m : Nat) (f : FnT) (i : InsT) : Bool := allN (argD m f i) 4 0
def extraD (fns : List FnT) (f : FnT) (i : InsT) : Bool :=
  if i.1 = 38 then regB f.regs (i.2.1 + 1) else if i.1 = 39 then regB f.regs (i.2.2.1 + 1) else if i.1 = 15 then closB fns f i.2.2.1 else true
def insD (fns : List FnT) (m : Nat) (f : FnT) (k : Nat) (i : InsT) : Bool := frontB f k i && (argsD m f i && extraD fns f i)
theorem argD_ne {m : Nat} {f : FnT} {i : InsT} (h : i.1 ≠ 0) (k : Nat) : argD m f i k = argB m f i k := by
  cases hl : (lettersOf i.1)[k]? with
  | none => rw [argD_none hl, argB_none hl]
  | some b =>
    rw [argD_some hl, argB_some hl]
    unfold kindD
    rw [if_neg (fun hh => h hh.2)]
theorem letter_0n : (lettersOf 0)[2]? = none ∧ (lettersOf 0)[3]? = none := by decide +kernel
theorem insD_eq (fns : List FnT) (m : Nat) (f : FnT) (k : Nat) (i : InsT) : insD fns m f k i = insB fns m f k i := by
  unfold insD insB
  congr 1
  by_cases h : i.1 = 0
  · obtain ⟨o, a, b, c, d⟩ := i
    simp only at h
    subst h
    have e0 : argD m f (0, a, b, c, d) 0 = argB m f (0, a, b, c, d) 0 := by
      rw [argD_some (b := 114) (letter_r (.inr (.inr (.inr rfl)))), argB_some (b := 114) (letter_r (.inr (.inr (.inr rfl))))]
      rfl
    have e1 : argD m f (0, a, b, c, d) 1 = decide (0 ≤ b ∧ b ≤ 4) := by rw [argD_some (b := 110) letter_0]; rfl
    have e1' : argB m f (0, a, b, c, d) 1 = regB 2147483648 b := by rw [argB_some (b := 110) letter_0]; rfl
    have e2 : argD m f (0, a, b, c, d) 2 = argB m f (0, a, b, c, d) 2 := by rw [argD_none letter_0n.1, argB_none letter_0n.1]
    have e3 : argD m f (0, a, b, c, d) 3 = argB m f (0, a, b, c, d) 3 := by rw [argD_none letter_0n.2, argB_none letter_0n.2]
    have x1 : extraD fns f (0, a, b, c, d) = true := rfl
    have x2 : extraB fns f (0, a, b, c, d) = decide (b ≤ 4) := rfl
    have hb : decide (0 ≤ b ∧ b ≤ 4) = (regB 2147483648 b && decide (b ≤ 4)) := by
      unfold regB
      rw [Bool.eq_iff_iff]
      simp only [Bool.and_eq_true, decide_eq_true_eq]
      omega
    simp only [argsD, argsB, allN, e0, e1, e1', e2, e3, x1, x2, hb]
    cases argB m f (0, a, b, c, d) 0 <;> cases regB 2147483648 b <;> cases decide (b ≤ 4) <;> cases argB m f (0, a, b, c, d) 2 <;> cases argB m f (0, a, b, c, d) 3 <;> rfl
  · have e := argD_ne (m := m) (f := f) h
    have x : extraD fns f i = extraB fns f i := by unfold extraD extraB; rw [if_neg h]
    simp only [argsD, argsB, allN, e, x]

theorem kindB_neg {m : Nat} {f : FnT} {c : Nat} {n : Int} (h : n < 0) : kindB m f c n = false := by
  unfold kindB textB
  simp only [regB_neg h, fnB_neg (by omega : n ≤ 0), Bool.false_and]
  repeat' split
  all_goals rfl
theorem kindD_neg {m : Nat} {f : FnT} {op : Int} {c : Nat} {n : Int} (h : n < 0) : kindD m f op c n = false := by
  unfold kindD
  split
  · exact decide_eq_false (by omega)
  · exact kindB_neg h

section
variable {w : World} {A : Option Addr} {m c : Nat} {f : FnT} {i : InsT}
theorem refoperand_any (hF : FnIn w w.heap.size f) (n : Int) (x : UInt8) (hx : isLetter x = true) :
    Calls Tryd.prog 42 #[.agg #[.slice A m c], .agg (fnC f).toArray, .agg (insC i).toArray, .int .u8 x.toNat, .int .i64 n] w fun e w' => e = .returned (.bool (kindD m f i.1 x.toNat n)) ∧ Below w.heap.size w w' := by
  have hb3 : Below w.heap.size w (((w.alloc (.cells #[.slice A m c] 24)).alloc (.cells (fnC f).toArray 38)).alloc (.cells (insC i).toArray 50)) := (((Below.refl _ _).alloc (Nat.le_refl _) _).alloc (by simp) _).alloc (by simp; omega) _
  have hcr := hF.cr.below hb3 (Nat.le_refl _)
  obtain ⟨o, a1, a2, a3, a4⟩ := i
  simp only [fnC, insC] at hb3 hcr ⊢
  by_cases h0 : n < 0
  · rw [kindD_neg h0]
    go_enter Tryd.func42, Tryd.ntmps42
    go_wp2_with fail
    go_ret
    exact ⟨rfl, hb3⟩
  have h0' : 0 ≤ n := by omega
  have hx7 : x = 114 ∨ x = 107 ∨ x = 115 ∨ x = 116 ∨ x = 102 ∨ x = 117 ∨ x = 110 := by simpa [isLetter, or_assoc] using hx
  rcases hx7 with rfl | rfl | rfl | rfl | rfl | rfl | rfl
  · rw [show kindD m f o (114 : UInt8).toNat n = decide (n < f.regs) from regB_pos h0']
    go_enter Tryd.func42, Tryd.ntmps42
    go_wp2_with fail
    go_ret
    exact ⟨rfl, hb3⟩
  · rw [show kindD m f o (107 : UInt8).toNat n = decide (n < f.consts.length) from regB_pos h0']
    go_enter Tryd.func42, Tryd.ntmps42
    go_wp2_with fail
    go_ret
    exact ⟨rfl, hb3⟩
  · have hk : kindD m f o (115 : UInt8).toNat n = textB f n := rfl
    rw [hk]
    unfold textB
    by_cases h1 : n < f.consts.length
    · obtain ⟨k, rfl⟩ : ∃ k : Nat, n = k := ⟨n.toNat, by omega⟩
      obtain ⟨v, hv⟩ : ∃ v, f.consts[k]? = some v := ⟨f.consts[k]'(by omega), List.getElem?_eq_getElem _⟩
      obtain ⟨b, off, hA, _, d0, _⟩ := hcr.val hv
      rw [Int.toNat_natCast, hv, regB_pos (by omega), decide_eq_true h1]
      simp only [hA] at hb3 d0 ⊢
      go_enter Tryd.func42, Tryd.ntmps42
      go_wp2_with fail
      go_ret
      exact ⟨rfl, hb3⟩
    · rw [regB_pos h0', decide_eq_false h1, Bool.false_and]
      go_enter Tryd.func42, Tryd.ntmps42
      go_wp2_with fail
      go_ret
      exact ⟨rfl, hb3⟩
  · rw [show kindD m f o (116 : UInt8).toNat n = decide (n < f.code.length) from regB_pos h0']
    go_enter Tryd.func42, Tryd.ntmps42
    go_wp2_with fail
    go_ret
    exact ⟨rfl, hb3⟩
  · have hk : kindD m f o (102 : UInt8).toNat n = fnB m n := rfl
    rw [hk]
    by_cases h1 : n = 0
    · subst h1
      rw [fnB_neg (by omega)]
      go_enter Tryd.func42, Tryd.ntmps42
      go_wp2_with fail
      go_ret
      exact ⟨rfl, hb3⟩
    · have h2 : 0 < n := by omega
      rw [fnB_pos h2]
      go_enter Tryd.func42, Tryd.ntmps42
      go_wp2_with fail
      go_ret
      exact ⟨rfl, hb3⟩
  · rw [show kindD m f o (117 : UInt8).toNat n = decide (n < f.caps.length) from regB_pos h0']
    go_enter Tryd.func42, Tryd.ntmps42
    go_wp2_with fail
    go_ret
    exact ⟨rfl, hb3⟩
  · by_cases h1 : o = 0
    · subst h1
      have hk : kindD m f 0 (110 : UInt8).toNat n = decide (n ≤ 4) := by
        show decide (0 ≤ n ∧ n ≤ 4) = _
        rw [Bool.eq_iff_iff, decide_eq_true_eq, decide_eq_true_eq]
        omega
      rw [hk]
      go_enter Tryd.func42, Tryd.ntmps42
      go_wp2_with fail
      go_ret
      exact ⟨rfl, hb3⟩
    · have hk : kindD m f o (110 : UInt8).toNat n = decide (n < 2147483648) := by
        have h3 : kindD m f o (110 : UInt8).toNat n = regB 2147483648 n := by unfold kindD; rw [if_neg (fun hh => h1 hh.2)]; rfl
        rw [h3, regB_pos h0']
      rw [hk]
      go_enter Tryd.func42, Tryd.ntmps42
      go_wp2_with fail
      go_ret
      exact ⟨rfl, hb3⟩
end
end Go.Proofs.YtoihoackmkapaaaDoor
