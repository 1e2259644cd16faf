/- Numbers: alike, bad, signs. -/
import Derived.Test.YtgnpgdjjdhlhaaaDoorTNode
namespace Go.Proofs.YtgnpgdjjdhlhaaaDoor
open Go.RowKit
set_option maxHeartbeats 4000000
set_option maxRecDepth 100000
attribute [local go_sem] Oper.semAt_some store_floatK

/-- a number is 0; it is 0 or more; its sign stands -/
def feq0 (b : Nat) : Bool := FloatKind.f64.format.order b 0 == some Ordering.eq
def fge0 (b : Nat) : Bool := FloatKind.f64.format.order b 0 == some Ordering.gt || FloatKind.f64.format.order b 0 == some Ordering.eq
def sgnB (b : Nat) : Bool := decide (wrap64 (b : Int) < 0)
theorem bad_any (b : Nat) (w : World) : Calls Tryd.prog 71 #[.float .f64 b] w fun e w' => e = .returned (.bool (FloatKind.f64.format.order b b != some Ordering.eq)) ∧ w' = w := by
  go_enter Tryd.func71, Tryd.ntmps71
  go_wp2_with fail
  go_ret
  exact ⟨rfl, rfl⟩
theorem signbit_any (b : Nat) (w : World) : Calls Tryd.prog 24 #[.float .f64 b] w fun e w' => e = .returned (.bool (sgnB b)) ∧ w' = w := by
  go_enter Tryd.func24, Tryd.ntmps24
  go_wp2_with fail
  rw [run_callFunc_extern Tryd.func39 (by kernel_rfl) (by kernel_rfl) (by kernel_rfl) (e := Extern.MathFloatBits.float64bits) (by kernel_rfl)]
  rw [run_bits]
  simp only [Result.andThen]
  rw [Oper.upon_value]
  go_wp2_with fail
  go_ret
  exact ⟨rfl, rfl⟩
theorem alike_same (b : Nat) (w : World) : Calls Tryd.prog 55 #[.float .f64 b, .float .f64 0, .int .i64 2] w fun e w' => e = .returned (.bool (feq0 b && !sgnB b)) ∧ w' = w := by
  have h1 := bad_any b
  have h0 := bad_any 0
  rw [show (FloatKind.f64.format.order 0 0 != some Ordering.eq) = false by decide +kernel] at h0
  have s1 := signbit_any b
  have s0 := signbit_any 0
  rw [show sgnB 0 = false by decide +kernel] at s0
  obtain ⟨vb, eb⟩ : ∃ v, (FloatKind.f64.format.order b b != some Ordering.eq) = v := ⟨_, rfl⟩
  obtain ⟨vs, es⟩ : ∃ v, sgnB b = v := ⟨_, rfl⟩
  obtain ⟨ve, ee⟩ : ∃ v, feq0 b = v := ⟨_, rfl⟩
  rw [ee, es]
  have ee' : (FloatKind.f64.format.order b 0 == some Ordering.eq) = ve := ee
  rw [eb] at h1
  rw [es] at s1
  have H1 := Lib.hid h1
  have H0 := Lib.hid h0
  have S1 := Lib.hid s1
  have S0 := Lib.hid s0
  clear h1 h0 s1 s0 eb es ee
  go_enter Tryd.func55, Tryd.ntmps55
  cases vb <;> cases vs <;> cases ve
  all_goals
    go_wp2_with fail
    refine (H1.out w).mono ?_
    rintro e w1 ⟨rfl, rfl⟩
    simp only
    go_wp2_with fail
    repeat
      (refine Calls.mono (by first | exact H0.out _ | exact S0.out _ | exact S1.out _) ?_
       rintro e w1 ⟨rfl, rfl⟩
       simp only
       go_wp2_with fail)
    go_ret
    exact ⟨rfl, rfl⟩
theorem same0_any (b : Nat) (w : World) : Calls Tryd.prog 25 #[.float .f64 b, .float .f64 0] w fun e w' => e = .returned (.bool (feq0 b && !sgnB b)) ∧ w' = w := by
  have h : Calls Tryd.prog 40 #[.float .f64 b, .float .f64 0] w fun e w' => e = .returned (.bool (feq0 b && !sgnB b)) ∧ w' = w := by
    have H := Lib.hid (alike_same b w)
    generalize (feq0 b && !sgnB b) = v at H ⊢
    go_enter Tryd.func40, Tryd.ntmps40
    go_wp2_with fail
    refine Calls.mono H.out ?_
    rintro e w1 ⟨rfl, rfl⟩
    simp only
    go_wp2_with fail
    go_ret
    exact ⟨rfl, rfl⟩
  have H := Lib.hid h
  clear h
  generalize (feq0 b && !sgnB b) = v at H ⊢
  go_enter Tryd.func25, Tryd.ntmps25
  go_wp2_with fail
  refine Calls.mono H.out ?_
  rintro e w1 ⟨rfl, rfl⟩
  simp only
  go_wp2_with fail
  go_ret
  exact ⟨rfl, rfl⟩
end Go.Proofs.YtgnpgdjjdhlhaaaDoor
