/- Letters, digits, words, names: both sides. -/
import Derived.Test.YtgnpgdjjdhlhaaaDoorTOps
import Derived.Test.YtgnpgdjjdhlhaaaDoorTD
namespace Go.Proofs.YtgnpgdjjdhlhaaaDoor
open Go.RowKit
set_option maxHeartbeats 4000000
set_option maxRecDepth 100000

def letB (k : Int) : Bool := (decide (k ≥ 97) && decide (k ≤ 122)) || (decide (k ≥ 65) && decide (k ≤ 90)) || (k == 36) || (k == 95)
def digB (k : Int) : Bool := decide (k ≥ 48) && decide (k ≤ 57)
theorem refletter_any (k : Int) (w : World) : Calls Tryd.prog 56 #[.int .u8 k] w fun e w' => e = .returned (.bool (letB k)) ∧ w' = w := by
  obtain ⟨v1, h1⟩ : ∃ v, decide (k ≥ 97) = v := ⟨_, rfl⟩
  obtain ⟨v2, h2⟩ : ∃ v, decide (k ≤ 122) = v := ⟨_, rfl⟩
  obtain ⟨v3, h3⟩ : ∃ v, decide (k ≥ 65) = v := ⟨_, rfl⟩
  obtain ⟨v4, h4⟩ : ∃ v, decide (k ≤ 90) = v := ⟨_, rfl⟩
  obtain ⟨v5, h5⟩ : ∃ v, (k == 36) = v := ⟨_, rfl⟩
  obtain ⟨v6, h6⟩ : ∃ v, (k == 95) = v := ⟨_, rfl⟩
  unfold letB
  rw [h1, h2, h3, h4, h5, h6]
  go_enter Tryd.func56, Tryd.ntmps56
  cases v1 <;> cases v2 <;> cases v3 <;> cases v4 <;> cases v5 <;> cases v6
  all_goals
    go_wp2_with fail
    go_ret
    exact ⟨rfl, rfl⟩
theorem refmore_any (k : Int) (w : World) : Calls Tryd.prog 57 #[.int .u8 k] w fun e w' => e = .returned (.bool (letB k || digB k)) ∧ w' = w := by
  obtain ⟨v1, h1⟩ : ∃ v, decide (k ≥ 48) = v := ⟨_, rfl⟩
  obtain ⟨v2, h2⟩ : ∃ v, decide (k ≤ 57) = v := ⟨_, rfl⟩
  unfold digB
  rw [h1, h2]
  have hl := refletter_any k w
  obtain ⟨v3, h3⟩ : ∃ v, letB k = v := ⟨_, rfl⟩
  rw [h3] at hl ⊢
  go_enter Tryd.func57, Tryd.ntmps57
  go_wp2_with fail
  refine hl.mono ?_
  rintro e w1 ⟨rfl, rfl⟩
  cases v1 <;> cases v2 <;> cases v3
  all_goals
    simp only
    go_wp2_with fail
    go_ret
    exact ⟨rfl, rfl⟩
theorem digit_any (k : Int) (w : World) : Calls Tryd.prog 63 #[.int .u8 k] w fun e w' => e = .returned (.bool (digB k)) ∧ w' = w := by
  obtain ⟨v1, h1⟩ : ∃ v, decide (k ≥ 48) = v := ⟨_, rfl⟩
  obtain ⟨v2, h2⟩ : ∃ v, decide (k ≤ 57) = v := ⟨_, rfl⟩
  unfold digB
  rw [h1, h2]
  go_enter Tryd.func63, Tryd.ntmps63
  cases v1 <;> cases v2
  all_goals
    go_wp2_with fail
    go_ret
    exact ⟨rfl, rfl⟩
theorem let_or : ∀ k : Nat, k < 256 → letB (k : Int) = (((k : Int) == 36) || ((k : Int) == 95) || (decide (97 ≤ bits BinOp.or IntKind.u8 (k : Int) 32) && decide (bits BinOp.or IntKind.u8 (k : Int) 32 ≤ 122))) := by decide +kernel
theorem letter_any (k : Nat) (hk : k < 256) (w : World) : Calls Tryd.prog 62 #[.int .u8 (k : Nat)] w fun e w' => e = .returned (.bool (letB k)) ∧ w' = w := by
  rw [let_or k hk]
  obtain ⟨v5, h5⟩ : ∃ v, ((k : Int) == 36) = v := ⟨_, rfl⟩
  obtain ⟨v6, h6⟩ : ∃ v, ((k : Int) == 95) = v := ⟨_, rfl⟩
  obtain ⟨x, hx⟩ : ∃ x, bits BinOp.or IntKind.u8 (k : Int) 32 = x := ⟨_, rfl⟩
  rw [h5, h6, hx]
  obtain ⟨v1, h1⟩ : ∃ v, decide (97 ≤ x) = v := ⟨_, rfl⟩
  obtain ⟨v2, h2⟩ : ∃ v, decide (x ≤ 122) = v := ⟨_, rfl⟩
  rw [h1, h2]
  go_enter Tryd.func62, Tryd.ntmps62
  cases v5 <;> cases v6 <;> cases v1 <;> cases v2
  all_goals
    go_wp2_with fail
    go_ret
    exact ⟨rfl, rfl⟩
end Go.Proofs.YtgnpgdjjdhlhaaaDoor
