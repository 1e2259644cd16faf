/- What more says, held in one word. -/
import Derived.Test.YtgnpgdjjdhlhaaaDoorTParts
namespace Go.Proofs.YtgnpgdjjdhlhaaaDoor
open Go.RowKit
def PostM (w : World) (l : List Nd) (f : Nat) (k : Int) (qs : List Int) (t : ByteArray) (e : Ending) (w' : World) : Prop := ∃ v, e = .returned (.bool v) ∧ Below w.heap.size w w' ∧ (v = true → moreK l f k qs t = true)
theorem PostM.of {w : World} {l : List Nd} {f : Nat} {k : Int} {qs : List Int} {t : ByteArray} {e : Ending} {w' : World} (v : Bool) (h1 : e = .returned (.bool v)) (h2 : Below w.heap.size w w') (h3 : v = true → moreK l f k qs t = true) : PostM w l f k qs t e w' := ⟨v, h1, h2, h3⟩
end Go.Proofs.YtgnpgdjjdhlhaaaDoor
