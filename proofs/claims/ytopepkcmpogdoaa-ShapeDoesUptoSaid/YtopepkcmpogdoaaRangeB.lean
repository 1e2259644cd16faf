/- Ranges over a function whose body breaks at once, or never runs. -/
import Derived.Test.YtopepkcmpogdoaaEach
namespace Go.Proofs.Ytopepkcmpogdoaa
open Go.RowKit
set_option maxHeartbeats 400000
set_option maxRecDepth 100000

section
variable {P : Program} {n : Nat} {g : Operand} {ps : Array Tmp} {Q : Exit → Act → World → Prop} {a : Act} {w : World} {α : Type} {gf : Nat} {lb : Array Value} {encs : α → Array Value} {S Sp : List α → Prop} {N : Nat}
theorem range_break (h1 : 1 ≤ n) (hg : a.eval g = .func (.func gf) #[] lb) (eg : ∀ args w, (callFunc gf args).run P w = .ok (.enter gf args) w) (hseq : SeqStopsK Fence.wide (n - 1) P gf lb encs (Below w.heap.size) S Sp N w) (hps : ∀ x, (encs x).size = ps.size)
    (hcont : ∀ (D : Nat) (W : World), w.heap.size ≤ D → Below w.heap.size w W → W.heap[D]? = some (.deferred (some [])) → Q .normal { a with defers := { target := .collected D, args := #[] } :: a.defers } W) :
    (Code.rangeFunc g ps .skip (.block 1 (.exit 0))).wpIn Fence.wide n P (Exit.inBlock 0 Q) a w := by
  refine wpIn_rangeFunc_ownH rfl h1 hg trivial eg hseq belowK_t (belowK_b (Nat.le_refl _)) (Below.refl _ _) hps
    (fun _ W => Below w.heap.size w W) (fun c _ W => c = .exit 0 ∧ Below w.heap.size w W) (ownFrom_below (Nat.le_refl _) (Nat.le_refl _))
    (fun c s X Y row hs hg' hr => ⟨hs.1, ownFrom_below (β := List α) (Nat.le_refl _) (Nat.le_refl _) s X Y row hs.2 hg' hr⟩) (Below.refl _ _)
    (fun _ _ _ => True) (fun _ _ _ _ _ _ _ _ _ => trivial) ?assign ?body ?done ?stop
  case assign =>
    intro l pre x W K hI hK
    gi_wp2
    exact hK _ _ (KeepsFrom.refl _ _) (Below.refl _ _) hI trivial
  case body =>
    intro l pre x a' W hl hr hI hA hN
    gi_wp2
    exact ⟨KeepsFrom.refl _ _, rfl, hI⟩
  case done =>
    intro D xs W hD _ hI hK
    exact hcont D W hD hI hK
  case stop =>
    rintro D c pre W hD _ ⟨rfl, hI⟩ hK
    gi_wp2
    exact hcont D W hD hI hK

theorem range_none {body : Code} (h1 : 1 ≤ n) (hg : a.eval g = .func (.func gf) #[] lb) (eg : ∀ args w, (callFunc gf args).run P w = .ok (.enter gf args) w) (hseq : SeqStopsK Fence.wide (n - 1) P gf lb encs (Below w.heap.size) S Sp 0 w) (hps : ∀ x, (encs x).size = ps.size)
    (hcont : ∀ (D : Nat) (W : World), w.heap.size ≤ D → Below w.heap.size w W → W.heap[D]? = some (.deferred (some [])) → Q .normal { a with defers := { target := .collected D, args := #[] } :: a.defers } W) :
    (Code.rangeFunc g ps .skip body).wpIn Fence.wide n P Q a w := by
  refine wpIn_rangeFunc_ownH rfl h1 hg trivial eg hseq belowK_t (belowK_b (Nat.le_refl _)) (Below.refl _ _) hps
    (fun _ W => Below w.heap.size w W) (fun c _ W => False) (ownFrom_below (Nat.le_refl _) (Nat.le_refl _))
    (fun c s X Y row hs hg' hr => hs) (Below.refl _ _)
    (fun _ _ _ => True) (fun _ _ _ _ _ _ _ _ _ => trivial) ?assign ?body ?done ?stop
  case assign =>
    intro l pre x W K hI hK
    gi_wp2
    exact hK _ _ (KeepsFrom.refl _ _) (Below.refl _ _) hI trivial
  case body =>
    intro l pre x a' W hl hr hI hA hN
    exact absurd hN (Nat.not_lt_zero _)
  case done =>
    intro D xs W hD _ hI hK
    exact hcont D W hD hI hK
  case stop =>
    intro D c pre W hD _ h hK
    exact h.elim
end
end Go.Proofs.Ytopepkcmpogdoaa
