/- A loop walked round by round, as often as it runs at data that is known. -/
import Derived.Test.YtgnpgdjjdhlhaaaDoorBase
import Derived.Deep.LoopGhost
import Derived.RangeFuncNested
namespace Go.Proofs.YtgnpgdjjdhlhaaaDoor
open Go.RowKit

section
variable {P : Program}
/-- the loop ends within n rounds more behind this one -/
def Un (P : Program) (c : Code) (Q : Exit → Act → World → Prop) : Nat → Act → World → Prop
  | 0, a, w => c.wp P (Exit.then (fun _ _ => False) Q) a w
  | n + 1, a, w => c.wp P (Exit.then (Un P c Q n) Q) a w
theorem wp_loop_un {c : Code} {Q : Exit → Act → World → Prop} {a : Act} {w : World} (n : Nat) (h : Un P c Q n a w) : (Code.loop c).wp P Q a w := by
  refine wp_loop_ghost (fun k a w => Un P c Q k a w) n h ?_
  intro n a w h
  cases n with
  | zero => exact Code.wp_mono (fun e a w q => by cases e <;> first | exact q | exact q.elim) h
  | succ n => exact Code.wp_mono (fun e a w q => by cases e <;> first | exact q | exact ⟨n, Nat.lt_succ_self n, q⟩) h
theorem Un.step {c : Code} {Q : Exit → Act → World → Prop} {a : Act} {w : World} {n : Nat} (h : ∀ K : Act → World → Prop, (∀ a' w', Un P c Q n a' w' → K a' w') → c.wp P (Exit.then K Q) a w) : Un P c Q (n + 1) a w := h _ fun _ _ q => q
theorem Un.last {c : Code} {Q : Exit → Act → World → Prop} {a : Act} {w : World} (h : c.wp P (Exit.then (fun _ _ => False) Q) a w) : Un P c Q 0 a w := h
end
end Go.Proofs.YtgnpgdjjdhlhaaaDoor
