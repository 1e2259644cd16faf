/- What Check answers, in plain words, at lengths of any size. -/
import Derived.Test.YtoihoackmkapaaaDoorKChkD
import Derived.Test.YtoihoackmkapaaaDoorGHead
namespace Go.Proofs.YtoihoackmkapaaaDoor.G
open Go.RowKit
set_option maxHeartbeats 4000000
set_option maxRecDepth 100000
def chkFn (fns : List FnT) (m n : Nat) (f : FnT) : Option Nat := if headB m n f = true then (match bad (insK fns m f) f.code.length 0 with | some k => some k | none => if triesB f = true then none else some f.code.length) else some 0
theorem chkFn_head {fns : List FnT} {m n : Nat} {f : FnT} (h : headB m n f = false) : chkFn fns m n f = some 0 := by unfold chkFn; rw [h]; rfl
theorem chkFn_ins {fns : List FnT} {m n : Nat} {f : FnT} {k : Nat} (h : headB m n f = true) (h2 : bad (insK fns m f) f.code.length 0 = some k) : chkFn fns m n f = some k := by unfold chkFn; rw [h, h2]; rfl
theorem chkFn_tries {fns : List FnT} {m n : Nat} {f : FnT} (h : headB m n f = true) (h2 : bad (insK fns m f) f.code.length 0 = none) (h3 : triesB f = false) : chkFn fns m n f = some f.code.length := by unfold chkFn; rw [h, h2, h3]; rfl
theorem chkFn_ok {fns : List FnT} {m n : Nat} {f : FnT} (h : headB m n f = true) (h2 : bad (insK fns m f) f.code.length 0 = none) (h3 : triesB f = true) : chkFn fns m n f = none := by unfold chkFn; rw [h, h2, h3]; rfl
def chkF (fns : List FnT) (m : Nat) (n : Nat) : Option Nat := match fns[n]? with | some f => chkFn fns m n f | none => none
theorem chkF_at {fns : List FnT} {m n : Nat} {f : FnT} (h : fns[n]? = some f) : chkF fns m n = chkFn fns m n f := by unfold chkF; rw [h]
def checkR (fns : List FnT) (m : Nat) : Array Value := if m = 0 then #[.int .i64 0, .int .i64 0, .int .i64 120] else ansR (chkM (chkF fns m) m 0)
structure Small (f : FnT) : Prop where
  c : f.consts.length ≤ 9223372036854775807
  k : f.code.length ≤ 9223372036854775807
  t : f.tries.length ≤ 9223372036854775807
  u : f.caps.length ≤ 9223372036854775807
end Go.Proofs.YtoihoackmkapaaaDoor.G
