/- The plain words of an instruction that is right. -/
import Derived.Test.YtoihoackmkapaaaDoorKTries
namespace Go.Proofs.YtoihoackmkapaaaDoor
open Go.RowKit
set_option maxHeartbeats 4000000
set_option maxRecDepth 100000

def kindB (m : Nat) (f : FnT) (c : Nat) (n : Int) : Bool :=
  if c = 114 then regB f.regs n else if c = 107 then regB f.consts.length n else if c = 115 then textB f n else if c = 116 then regB f.code.length n else if c = 102 then fnB m n else if c = 117 then regB f.caps.length n else regB 2147483648 n
def argAt (i : InsT) (k : Nat) : Int := match k with | 0 => i.2.1 | 1 => i.2.2.1 | 2 => i.2.2.2.1 | _ => i.2.2.2.2
def argB (m : Nat) (f : FnT) (i : InsT) (k : Nat) : Bool := match (lettersOf i.1)[k]? with | none => argAt i k == 0 | some b => kindB m f b.toNat (argAt i k)
theorem argB_none {m : Nat} {f : FnT} {i : InsT} {k : Nat} (h : (lettersOf i.1)[k]? = none) : argB m f i k = (argAt i k == 0) := by unfold argB; rw [h]
theorem argB_some {m : Nat} {f : FnT} {i : InsT} {k : Nat} {b : UInt8} (h : (lettersOf i.1)[k]? = some b) : argB m f i k = kindB m f b.toNat (argAt i k) := by unfold argB; rw [h]
def argsB (m : Nat) (f : FnT) (i : InsT) : Bool := allN (argB m f i) 4 0
def capB (f : FnT) (u : CapT) : Bool := if u.1 = true then regB f.caps.length u.2 else regB f.regs u.2
def closB (fns : List FnT) (f : FnT) (n : Int) : Bool := match fns[n.toNat]? with | some g => g.caps.all (capB f) | none => true
def extraB (fns : List FnT) (f : FnT) (i : InsT) : Bool :=
  if i.1 = 0 then decide (i.2.2.1 ≤ 4) else if i.1 = 38 then regB f.regs (i.2.1 + 1) else if i.1 = 39 then regB f.regs (i.2.2.1 + 1) else if i.1 = 15 then closB fns f i.2.2.1 else true
def frontB (f : FnT) (k : Nat) (i : InsT) : Bool := decide (0 ≤ i.1 ∧ i.1 ≤ 70) && (decide (k + 1 ≠ f.code.length) || endsB i.1)
def insB (fns : List FnT) (m : Nat) (f : FnT) (k : Nat) (i : InsT) : Bool := frontB f k i && (argsB m f i && extraB fns f i)
theorem insB_front {fns : List FnT} {m : Nat} {f : FnT} {k : Nat} {i : InsT} (h : frontB f k i = false) : insB fns m f k i = false := by unfold insB; rw [h, Bool.false_and]
theorem insB_args {fns : List FnT} {m : Nat} {f : FnT} {k : Nat} {i : InsT} (h : argsB m f i = false) : insB fns m f k i = false := by unfold insB; rw [h]; simp
theorem insB_extra {fns : List FnT} {m : Nat} {f : FnT} {k : Nat} {i : InsT} (h : frontB f k i = true) (h2 : argsB m f i = true) : insB fns m f k i = extraB fns f i := by unfold insB; rw [h, h2]; rfl
theorem args_each {m : Nat} {f : FnT} {i : InsT} (h : argsB m f i = true) : argB m f i 0 = true ∧ argB m f i 1 = true ∧ argB m f i 2 = true ∧ argB m f i 3 = true := by
  simp only [argsB, allN, Bool.and_true, Bool.and_eq_true] at h
  exact ⟨h.1, h.2.1, h.2.2.1, h.2.2.2⟩
theorem letter_r {op : Int} (h : op = 38 ∨ op = 39 ∨ op = 15 ∨ op = 0) : (lettersOf op)[0]? = some 114 := by
  rcases h with rfl | rfl | rfl | rfl <;> decide +kernel
theorem letter_39 : (lettersOf 39)[1]? = some 114 := by decide +kernel
theorem letter_15 : (lettersOf 15)[1]? = some 102 := by decide +kernel
theorem letter_0 : (lettersOf 0)[1]? = some 110 := by decide +kernel
theorem regB_lt {r n : Int} (h : regB r n = true) : 0 ≤ n ∧ n < r := by unfold regB at h; simpa using h
theorem fnB_lt {r n : Int} (h : fnB r n = true) : 0 < n ∧ n < r := by unfold fnB at h; simpa using h
theorem iter_bd {m : Nat} {f : FnT} {i : InsT} (h : argsB m f i = true) (ho : i.1 = 38) : 0 ≤ i.2.1 ∧ i.2.1 < f.regs := by
  have h1 := (args_each h).1
  rw [argB_some (letter_r (.inl ho))] at h1
  exact regB_lt h1
theorem step_bd {m : Nat} {f : FnT} {i : InsT} (h : argsB m f i = true) (ho : i.1 = 39) : 0 ≤ i.2.2.1 ∧ i.2.2.1 < f.regs := by
  have h1 := (args_each h).2.1
  rw [argB_some (b := 114) (by rw [ho]; exact letter_39)] at h1
  exact regB_lt h1
theorem clos_bd {m : Nat} {f : FnT} {i : InsT} (h : argsB m f i = true) (ho : i.1 = 15) : 0 < i.2.2.1 ∧ i.2.2.1 < m := by
  have h1 := (args_each h).2.1
  rw [argB_some (b := 102) (by rw [ho]; exact letter_15)] at h1
  exact fnB_lt h1
end Go.Proofs.YtoihoackmkapaaaDoor
