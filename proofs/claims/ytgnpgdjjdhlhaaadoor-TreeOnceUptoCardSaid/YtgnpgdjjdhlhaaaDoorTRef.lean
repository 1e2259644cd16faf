/- What a kind is: expressions, statements, keys, targets: both sides. -/
import Derived.Test.YtgnpgdjjdhlhaaaDoorTD
namespace Go.Proofs.YtgnpgdjjdhlhaaaDoor
open Go.RowKit
set_option maxHeartbeats 4000000
set_option maxRecDepth 100000

def exprB (k : Int) : Bool := (decide (k ≥ 1) && decide (k ≤ 9)) || (decide (k ≥ 13) && decide (k ≤ 28))
def stmtB (k : Int) : Bool := (decide (k ≥ 32) && decide (k ≤ 34)) || (decide (k ≥ 36) && decide (k ≤ 49)) || (k == 52) || (k == 53)
def keyB (k : Int) : Bool := (k == 2) || (k == 1) || (k == 56)
def targetB (k : Int) : Bool := (k == 6) || (k == 17) || (k == 18)
theorem refexpr_any (k : Int) (w : World) : Calls Tryd.prog 30 #[.int .i64 k] w fun e w' => e = .returned (.bool (exprB k)) ∧ w' = w := by
  obtain ⟨v1, h1⟩ : ∃ v, decide (k ≥ 1) = v := ⟨_, rfl⟩
  obtain ⟨v2, h2⟩ : ∃ v, decide (k ≤ 9) = v := ⟨_, rfl⟩
  obtain ⟨v3, h3⟩ : ∃ v, decide (k ≥ 13) = v := ⟨_, rfl⟩
  obtain ⟨v4, h4⟩ : ∃ v, decide (k ≤ 28) = v := ⟨_, rfl⟩
  unfold exprB
  rw [h1, h2, h3, h4]
  go_enter Tryd.func30, Tryd.ntmps30
  cases v1 <;> cases v2 <;> cases v3 <;> cases v4
  all_goals
    go_wp2_with fail
    go_ret
    exact ⟨rfl, rfl⟩
theorem refstmt_any (k : Int) (w : World) : Calls Tryd.prog 59 #[.int .i64 k] w fun e w' => e = .returned (.bool (stmtB k)) ∧ w' = w := by
  obtain ⟨v1, h1⟩ : ∃ v, decide (k ≥ 32) = v := ⟨_, rfl⟩
  obtain ⟨v2, h2⟩ : ∃ v, decide (k ≤ 34) = v := ⟨_, rfl⟩
  obtain ⟨v3, h3⟩ : ∃ v, decide (k ≥ 36) = v := ⟨_, rfl⟩
  obtain ⟨v4, h4⟩ : ∃ v, decide (k ≤ 49) = v := ⟨_, rfl⟩
  obtain ⟨v5, h5⟩ : ∃ v, (k == 52) = v := ⟨_, rfl⟩
  obtain ⟨v6, h6⟩ : ∃ v, (k == 53) = v := ⟨_, rfl⟩
  unfold stmtB
  rw [h1, h2, h3, h4, h5, h6]
  go_enter Tryd.func59, Tryd.ntmps59
  cases v1 <;> cases v2 <;> cases v3 <;> cases v4 <;> cases v5 <;> cases v6
  all_goals
    go_wp2_with fail
    go_ret
    exact ⟨rfl, rfl⟩
theorem refkey_any (k : Int) (w : World) : Calls Tryd.prog 29 #[.int .i64 k] w fun e w' => e = .returned (.bool (keyB k)) ∧ w' = w := by
  obtain ⟨v1, h1⟩ : ∃ v, (k == 2) = v := ⟨_, rfl⟩
  obtain ⟨v2, h2⟩ : ∃ v, (k == 1) = v := ⟨_, rfl⟩
  obtain ⟨v3, h3⟩ : ∃ v, (k == 56) = v := ⟨_, rfl⟩
  unfold keyB
  rw [h1, h2, h3]
  go_enter Tryd.func29, Tryd.ntmps29
  cases v1 <;> cases v2 <;> cases v3
  all_goals
    go_wp2_with fail
    go_ret
    exact ⟨rfl, rfl⟩
theorem reftarget_any (k : Int) (w : World) : Calls Tryd.prog 31 #[.int .i64 k] w fun e w' => e = .returned (.bool (targetB k)) ∧ w' = w := by
  obtain ⟨v1, h1⟩ : ∃ v, (k == 6) = v := ⟨_, rfl⟩
  obtain ⟨v2, h2⟩ : ∃ v, (k == 17) = v := ⟨_, rfl⟩
  obtain ⟨v3, h3⟩ : ∃ v, (k == 18) = v := ⟨_, rfl⟩
  unfold targetB
  rw [h1, h2, h3]
  go_enter Tryd.func31, Tryd.ntmps31
  cases v1 <;> cases v2 <;> cases v3
  all_goals
    go_wp2_with fail
    go_ret
    exact ⟨rfl, rfl⟩
theorem expr_any (k : Int) (w : World) : Calls Tryd.prog 53 #[.int .i64 k] w fun e w' => e = .returned (.bool (exprB k)) ∧ w' = w := by
  obtain ⟨v1, h1⟩ : ∃ v, decide (k ≥ 1) = v := ⟨_, rfl⟩
  obtain ⟨v2, h2⟩ : ∃ v, decide (k ≤ 9) = v := ⟨_, rfl⟩
  obtain ⟨v3, h3⟩ : ∃ v, decide (k ≥ 13) = v := ⟨_, rfl⟩
  obtain ⟨v4, h4⟩ : ∃ v, decide (k ≤ 28) = v := ⟨_, rfl⟩
  unfold exprB
  rw [h1, h2, h3, h4]
  go_enter Tryd.func53, Tryd.ntmps53
  cases v1 <;> cases v2 <;> cases v3 <;> cases v4
  all_goals
    go_wp2_with fail
    go_ret
    exact ⟨rfl, rfl⟩
theorem stmt_any (k : Int) (w : World) : Calls Tryd.prog 66 #[.int .i64 k] w fun e w' => e = .returned (.bool (stmtB k)) ∧ w' = w := by
  obtain ⟨v1, h1⟩ : ∃ v, decide (k ≥ 32) = v := ⟨_, rfl⟩
  obtain ⟨v2, h2⟩ : ∃ v, decide (k ≤ 34) = v := ⟨_, rfl⟩
  obtain ⟨v3, h3⟩ : ∃ v, decide (k ≥ 36) = v := ⟨_, rfl⟩
  obtain ⟨v4, h4⟩ : ∃ v, decide (k ≤ 49) = v := ⟨_, rfl⟩
  obtain ⟨v5, h5⟩ : ∃ v, (k == 52) = v := ⟨_, rfl⟩
  obtain ⟨v6, h6⟩ : ∃ v, (k == 53) = v := ⟨_, rfl⟩
  unfold stmtB
  rw [h1, h2, h3, h4, h5, h6]
  go_enter Tryd.func66, Tryd.ntmps66
  cases v1 <;> cases v2 <;> cases v3 <;> cases v4 <;> cases v5 <;> cases v6
  all_goals
    go_wp2_with fail
    go_ret
    exact ⟨rfl, rfl⟩
end Go.Proofs.YtgnpgdjjdhlhaaaDoor
