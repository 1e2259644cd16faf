/- Regions that draw their order, in the round of a range over a function. -/
import Derived.Test.YtoihoackmkapaaaDoorLin
import Derived.RangeFuncNested
import Derived.RangeFuncBound
import Derived.RangeFuncCalls
import Derived.RangeFuncLeaves
import Derived.OrdersIn
namespace Go.Proofs.YtoihoackmkapaaaDoor
open Go.RowKit

def noDefer (ops : Array Oper) : Bool := ops.all fun o => match o.op with | .defer _ => false | _ => true
section
variable {P : Program} {ops : Array Oper} {Q : Exit → Act → World → Prop} {md : Region.Mode} {l n : Nat}

theorem noDefer_spec (h : noDefer ops = true) {i : Nat} {o : Oper} (hi : ops[i]? = some o) : ∀ c, o.op ≠ .defer c := by
  intro c hc
  obtain ⟨hlt, e⟩ := Array.getElem?_eq_some_iff.1 hi
  have := Array.all_eq_true.1 h i hlt
  rw [e, hc] at this
  cases this

/-- an operation in a round does what it does anywhere -/
theorem opIn_round {o : Oper} {a : Act} {w : World} {K : Act → World → Prop} (hd : ∀ c, o.op ≠ .defer c) (h : o.wp P a w K Q) : o.wpIn (Fence.wide.inRound l) n P a w K Q := by
  refine ⟨fun _ _ => trivial, ?_⟩
  rw [Oper.semAt_eq _ _ _ hd]
  unfold Oper.wp at h
  generalize (execOp a.eval o).run P w = r at h
  cases r with
  | ok x w' =>
    cases x with
    | enter f args => exact ⟨fun he => (by cases he), CallsIn.inRound l (callsIn_wide.2 h)⟩
    | row r args => exact ⟨fun he => (by cases he), fun c cs _ => let ⟨v, w', r, s⟩ := h c cs; ⟨v, w', r, stepsIn_wide.2 s⟩⟩
    | _ => first | exact h | exact h.elim
  | halt e w' => cases e <;> exact h

theorem noPanic_weak {Q : Exit → Act → World → Prop} : ∀ (e : Exit) (a : Act) (w : World), NoPanic Q e a w → Q e a w := fun e a w h => by
  cases e <;> first | exact h | exact (h : False).elim
def NoOut (Q : Exit → Act → World → Prop) : Exit → Act → World → Prop
  | .outgrown, _, _ => False
  | e, a, w => Q e a w
theorem NoOut.normal {a : Act} {w : World} (h : Q .normal a w) : NoOut Q .normal a w := h
theorem NoOut.weak : ∀ (e : Exit) (a : Act) (w : World), NoOut Q e a w → Q e a w := fun e a w h => by
  cases e <;> first | exact h | exact (h : False).elim
theorem NoOut.not : ¬ LetsOut (NoPanic (NoOut Q)) := fun ⟨_, _, h⟩ => h

theorem opIn_round' {i : Nat} {a : Act} {w : World} {K : Act → World → Prop} (hd : noDefer ops = true) (hQ : ¬ LetsOut Q) (h : wpOp P ops Q i K a w) : wpOpIn (Fence.wide.inRound l) n P ops Q i K a w := by
  unfold wpOp at h
  unfold wpOpIn
  cases ho : ops[i]? with
  | none => rw [ho] at h; exact h
  | some o =>
    rw [ho] at h
    simp only at h ⊢
    split
    · rename_i hw
      rw [if_pos hw] at h
      exact opIn_round (noDefer_spec hd ho) (h.resolve_right fun h' => hQ h'.2)
    · rename_i hw
      rw [if_neg hw] at h
      exact ⟨fun _ _ => trivial, h⟩

theorem anyIn_round (hd : noDefer ops = true) (hQ : ¬ LetsOut Q) : ∀ (fuel : Nat) (listed : Array Bool) (a : Act) (w : World), wpAny P md ops Q fuel listed a w → wpAnyIn (Fence.wide.inRound l) n P md ops Q fuel listed a w
  | 0, _, _, _, h => h
  | fuel + 1, _, _, _, h => ⟨h.1, fun i hi => opIn_round' hd hQ (wpOp_mono (fun a' w' h' => anyIn_round hd hQ fuel _ a' w' h') (h.2 i hi))⟩

theorem wpIn_region_lin {id : Nat} {a : Act} {w : World} (S : World → Prop) (lates : List Nat) (t : Code) (hm : P.follows .mixedOrders = true) (hsel : Region.noSelect ops = true) (hdf : noDefer ops = true)
    (hh : (linHeads t).isEmpty = true) (hl : lateOK .any ops lates = true) (ht : linOK .any ops lates t ops.size (Array.replicate ops.size false) = true) (hS : S w.drew) (h : wpLin P ops (NoPanic (NoOut Q)) t S lates a w.drew) : (Code.region id ops true).wpIn (Fence.wide.inRound l) n P Q a w := by
  have h1 : wpAny P .any ops (NoPanic (NoOut Q)) ops.size (Array.replicate ops.size false) a w.drew := wpAny_of_S _ _ _ _ ((wpAnyS_of_lin hsel (fun _ _ _ hq => hq) t).1 _ _ _ _ S lates (ClosedL.none _) hl (by simpa using hh) ht (fun _ => hS) h)
  have h2 := anyIn_round (l := l) (n := n) hdf NoOut.not _ _ _ _ h1
  have h3 : (Code.region id ops true).wpIn (Fence.wide.inRound l) n P (NoPanic (NoOut Q)) a w := wpIn_region_any hm h2
  exact Code.wpIn_mono (fun e a w h => NoOut.weak e a w (noPanic_weak e a w h)) h3
end
end Go.Proofs.YtoihoackmkapaaaDoor
