/- The walk of lintelref04.Same. -/
import Derived.Test.YtopepkcmpogdoaaCmp
import Derived.Test.YtopepkcmpogdoaaCached
namespace Go.Proofs.Ytopepkcmpogdoaa
open Go.RowKit
set_option maxHeartbeats 400000
set_option maxRecDepth 100000

/-- keys alike -/
def sameB (a b : KK) : Bool := if 0 < a.2 ∨ 0 < b.2 then (a.2 == b.2) else (cmpL (unitsOf a.1) (unitsOf b.1) == 0)

theorem same_any (a b : KK) (w : World) (ha : a.1.size ≤ 1048576) (hb : b.1.size ≤ 1048576) :
    Calls Try.prog 22 #[encK a, encK b] w fun e w' => e = .returned (.bool (sameB a b)) ∧ Below w.heap.size w w' := by
  obtain ⟨n, s⟩ := a
  obtain ⟨m, t⟩ := b
  simp only at ha hb
  have hB : Below w.heap.size w ((w.alloc (.cells #[.string n, .int .i64 s] 30)).alloc (.cells #[.string m, .int .i64 t] 30)) := ((Below.refl _ _).alloc (Nat.le_refl _) _).alloc (by simp) _
  simp only [encK]
  unfold sameB
  simp only
  by_cases g1 : 0 < s
  · rw [if_pos (.inl g1)]
    go_enter Try.func22, Try.ntmps22
    go_wp2_with fail
    go_ret
    exact ⟨rfl, hB⟩
  · by_cases g2 : 0 < t
    · rw [if_pos (.inr g2)]
      go_enter Try.func22, Try.ntmps22
      go_wp2_with fail
      go_ret
      exact ⟨rfl, hB⟩
    · rw [if_neg (by omega)]
      go_enter Try.func22, Try.ntmps22
      go_wp2_with fail
      refine (compare_any n m _ ha hb).mono ?_
      rintro e w' ⟨rfl, hb'⟩
      simp only
      go_wp2_with fail
      go_ret
      exact ⟨rfl, hB.trans (hb'.mono (by simp; omega))⟩
end Go.Proofs.Ytopepkcmpogdoaa
