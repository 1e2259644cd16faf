/- What Check answers, in plain words. -/
import Derived.Test.YtoihoackmkapaaaDoorKInsW
import Derived.Test.YtoihoackmkapaaaDoorKRefInsW
import Derived.Test.YtoihoackmkapaaaDoorKHead
import Derived.Test.YtoihoackmkapaaaDoorKRefHead
import Derived.Test.YtoihoackmkapaaaDoorKRefTries
import Derived.Test.YtoihoackmkapaaaDoorKFew
namespace Go.Proofs.YtoihoackmkapaaaDoor
open Go.RowKit
set_option maxHeartbeats 4000000
set_option maxRecDepth 100000

/-- the first place of f places from i on that is not right -/
def bad (p : Nat → Bool) : Nat → Nat → Option Nat
  | 0, _ => none
  | g + 1, i => if p i = true then bad p g (i + 1) else some i
theorem bad_step (p : Nat → Bool) {N k : Nat} (h : k < N) : bad p (N - k) k = if p k = true then bad p (N - (k + 1)) (k + 1) else some k := by
  rw [show N - k = (N - (k + 1)) + 1 by omega]
  rfl
theorem bad_end (p : Nat → Bool) {N k : Nat} (h : N ≤ k) : bad p (N - k) k = none := by
  rw [show N - k = 0 by omega]
  rfl
def insK (fns : List FnT) (m : Nat) (f : FnT) (k : Nat) : Bool := match f.code[k]? with | some i => insB fns m f k i | none => true
theorem insK_at {fns : List FnT} {m : Nat} {f : FnT} {k : Nat} {i : InsT} (h : f.code[k]? = some i) : insK fns m f k = insB fns m f k i := by unfold insK; rw [h]
def chkFn (fns : List FnT) (m n : Nat) (f : FnT) : Option Nat := if headB n f = true then (match bad (insK fns m f) f.code.length 0 with | some k => some k | none => if triesB f = true then none else some f.code.length) else some 0
theorem chkFn_head {fns : List FnT} {m n : Nat} {f : FnT} (h : headB n f = false) : chkFn fns m n f = some 0 := by unfold chkFn; rw [h]; rfl
theorem chkFn_ins {fns : List FnT} {m n : Nat} {f : FnT} {k : Nat} (h : headB n f = true) (h2 : bad (insK fns m f) f.code.length 0 = some k) : chkFn fns m n f = some k := by unfold chkFn; rw [h, h2]; rfl
theorem chkFn_tries {fns : List FnT} {m n : Nat} {f : FnT} (h : headB n f = true) (h2 : bad (insK fns m f) f.code.length 0 = none) (h3 : triesB f = false) : chkFn fns m n f = some f.code.length := by unfold chkFn; rw [h, h2, h3]; rfl
theorem chkFn_ok {fns : List FnT} {m n : Nat} {f : FnT} (h : headB n f = true) (h2 : bad (insK fns m f) f.code.length 0 = none) (h3 : triesB f = true) : chkFn fns m n f = none := by unfold chkFn; rw [h, h2, h3]; rfl
def chkF (fns : List FnT) (m : Nat) (n : Nat) : Option Nat := match fns[n]? with | some f => chkFn fns m n f | none => none
theorem chkF_at {fns : List FnT} {m n : Nat} {f : FnT} (h : fns[n]? = some f) : chkF fns m n = chkFn fns m n f := by unfold chkF; rw [h]
def chkM (p : Nat → Option Nat) : Nat → Nat → Option (Nat × Nat)
  | 0, _ => none
  | g + 1, n => match p n with | some k => some (n, k) | none => chkM p g (n + 1)
theorem chkM_bad (p : Nat → Option Nat) {N n k : Nat} (h : n < N) (hp : p n = some k) : chkM p (N - n) n = some (n, k) := by
  rw [show N - n = (N - (n + 1)) + 1 by omega]
  simp only [chkM, hp]
theorem chkM_ok (p : Nat → Option Nat) {N n : Nat} (h : n < N) (hp : p n = none) : chkM p (N - n) n = chkM p (N - (n + 1)) (n + 1) := by
  rw [show N - n = (N - (n + 1)) + 1 by omega]
  simp only [chkM, hp]
theorem chkM_end (p : Nat → Option Nat) {N n : Nat} (h : N ≤ n) : chkM p (N - n) n = none := by
  rw [show N - n = 0 by omega]
  rfl
def ansR (x : Option (Nat × Nat)) : Array Value := match x with | some (n, k) => #[.int .i64 n, .int .i64 k, .int .i64 120] | none => #[.int .i64 0, .int .i64 0, .int .i64 0]
def checkR (fns : List FnT) (m : Nat) : Array Value := if m = 0 then #[.int .i64 0, .int .i64 0, .int .i64 120] else ansR (chkM (chkF fns m) m 0)
structure Small (f : FnT) : Prop where
  c : f.consts.length ≤ 1000
  k : f.code.length ≤ 1000
  t : f.tries.length ≤ 1000
  u : f.caps.length ≤ 1000
end Go.Proofs.YtoihoackmkapaaaDoor
