/- The walk of CheckModules. -/
import Derived.Test.YtoihoackmkapaaaDoorKAwake
namespace Go.Proofs.YtoihoackmkapaaaDoor
open Go.RowKit
set_option maxHeartbeats 4000000
set_option maxRecDepth 100000
attribute [local go_sem] Oper.semAt_some

theorem checkR_three (fns : List FnT) (m : Nat) : ∃ x y z : Int, checkR fns m = #[.int .i64 x, .int .i64 y, .int .i64 z] ∧ (z = 0 ∨ z = 120) := by
  unfold checkR
  split
  · exact ⟨_, _, _, rfl, .inr rfl⟩
  · unfold ansR
    split
    · exact ⟨_, _, _, rfl, .inr rfl⟩
    · exact ⟨_, _, _, rfl, .inl rfl⟩
theorem few_len {fns : List FnT} (h : fewN fns ≤ 1000) : fns.length ≤ 1000 ∧ ∀ f ∈ fns, Small f := by
  unfold fewN at h
  refine ⟨by omega, fun f hf => ?_⟩
  have := few_mem hf
  exact small_of (by omega)

theorem modules_any {W : World} {A : Option Addr} {c n : Nat} {fns : List FnT} (hM : ModIn W W.heap.size A fns) (hn : fns.length = n) (hT : Tb W) (hs : fewN fns ≤ 1048576) :
    Calls Tryd.prog 3 #[.agg #[.slice A n c]] W fun e W' => e = .returned (.bool true) ∧ Below W.heap.size W W' := by
  have Hn := Lib.hid hn
  have hb0 : Below W.heap.size W (W.alloc (.cells #[.slice A n c] 24)) := (Below.refl _ _).alloc (Nat.le_refl _) _
  have hz0 : (W.alloc (.cells #[.slice A n c] 24)).heap[W.heap.size]? = some (.cells #[.slice A n c] 24 (0, 0)) := heap_alloc_new W _
  obtain ⟨w0, hw0⟩ : ∃ w0, W.alloc (.cells #[.slice A n c] 24) = w0 := ⟨_, rfl⟩
  rw [hw0] at hb0 hz0
  have l0 := (Array.getElem?_eq_some_iff.1 hz0).1
  clear hn
  go_enter Tryd.func3, Tryd.ntmps3
  go_wp2_with fail
  refine (awake_any _ (hT.below hb0 (Nat.le_refl _))).mono ?_
  rintro e w1 ⟨rfl, b1⟩
  clear hw0
  have hz1 := (b1.block _ l0).trans hz0
  have hb1 := hb0.trans (b1.mono hb0.size)
  have c1 := cell_blockK hz1 0
  have s1 := b1.size
  simp at c1
  simp only
  go_wp2_with fail
  refine (few_any (hM.below hb1 hb1.size) Hn.out hs).mono ?_
  rintro e w2 ⟨rfl, b2⟩
  have hz2 := (b2.block W.heap.size (by omega)).trans hz1
  have hb2 := hb1.trans (b2.mono hb1.size)
  have c2 := cell_blockK hz2 0
  have s2 := b2.size
  simp at c2
  clear c1 b1
  by_cases hf : fewN fns ≤ 1000
  · obtain ⟨hlen, hsm⟩ := few_len hf
    rw [Hn.out] at hlen
    rw [decide_eq_true hf]
    obtain ⟨x, y, z, hc, _⟩ := checkR_three fns n
    clear hf hs
    simp only
    go_wp2_with fail
    refine (check_any (hM.below hb2 hb2.size) Hn.out (hT.below hb2 (Nat.le_refl _)) hlen hsm).mono ?_
    rintro e w3 ⟨rfl, b3⟩
    have hz3 := (b3.block W.heap.size (by omega)).trans hz2
    have hb3 := hb2.trans (b3.mono hb2.size)
    have c3 := cell_blockK hz3 0
    simp at c3
    clear c2
    rw [hc]
    simp only
    go_wp2_with fail
    refine (refcheck_any (hM.below hb3 hb3.size) Hn.out hlen hsm).mono ?_
    rintro e w4 ⟨rfl, b4⟩
    have hb4 := hb3.trans (b4.mono hb3.size)
    rw [hc]
    simp only
    go_wp2_with fail
    go_ret
    exact ⟨rfl, hb4⟩
  · rw [decide_eq_false hf]
    simp only
    go_wp2_with fail
    go_ret
    exact ⟨rfl, hb2⟩
end Go.Proofs.YtoihoackmkapaaaDoor
