/- The walk of TreeOperators. -/
import Derived.Test.YtgnpgdjjdhlhaaaDoorTAwake
import Derived.Test.YtgnpgdjjdhlhaaaDoorTOps
namespace Go.Proofs.YtgnpgdjjdhlhaaaDoor
open Go.RowKit
set_option maxHeartbeats 4000000
set_option maxRecDepth 100000

theorem treeOperators_any (k : Int) (w : World) (hT : Tb w) :
    Calls Tryd.prog 4 #[.int .i64 k] w fun e w' => e = .returned (.bool true) ∧ Below w.heap.size w w' := by
  obtain ⟨l, hl⟩ : ∃ l, opsOf k = l := ⟨_, rfl⟩
  have hf := ops_full k
  have ho := fun w' (h : Tb w') => operators_any k w' h
  have hro := fun w' => refoperators_any k w'
  rw [hl] at hf
  simp only [hl] at ho hro
  have HF := Lib.hid hf
  clear hf hl
  go_enter Tryd.func4, Tryd.ntmps4
  go_wp2_with fail
  refine (awake_any w).mono ?_
  rintro e w1 ⟨rfl, b1⟩
  simp only
  go_wp2_with fail
  refine (ho w1 (hT.below b1 (Nat.le_refl _))).mono ?_
  rintro e w2 ⟨A, n, c, rfl, hn, hr, b2⟩
  simp only
  go_wp2_with fail
  refine (hro w2).mono ?_
  rintro e w3 ⟨A2, n2, c2, rfl, hn2, hr2, b3⟩
  obtain rfl : n = n2 := hn.symm.trans hn2
  have HN := Lib.hid hn
  have hn22 : n ≤ 22 := by rw [← hn]; exact HF.out.2
  have b03 : Below w.heap.size w w3 := (b1.trans (b2.mono b1.size)).trans (b3.mono (Nat.le_trans b1.size b2.size))
  have hr3 := (hr.below b3).more b3.size
  clear hn hn2 hr
  simp only
  go_wp2_with fail
  go_loopw [19] (fun i wr => ∃ j : Nat, j ≤ n ∧ i = .int .i64 j ∧ Below w3.heap.size w3 wr) (fun i _ => n - (intOf i).toNat)
  case atStart => exact ⟨0, Nat.zero_le _, rfl, Below.refl _ _⟩
  case round =>
    obtain ⟨j, hj, rfl, hb⟩ := hrel
    by_cases hlt : j < n
    · obtain ⟨x, hx⟩ : ∃ x, l[j]? = some x := ⟨l[j]'(by have := HN.out; omega), List.getElem?_eq_getElem _⟩
      obtain ⟨ad, rfl, _, ca⟩ := (hr3.below hb).at_ (k := j) (u := .string x) (by rw [List.getElem?_map, hx]; rfl)
      obtain ⟨ad2, rfl, _, ca2⟩ := (hr2.below hb).at_ (k := j) (u := .string x) (by rw [List.getElem?_map, hx]; rfl)
      clear hx
      go_wp2_with fail
      refine wp_region_lin (fun w' => w'.cell? (ad.add j) = some (.string x) ∧ w'.cell? (ad2.add j) = some (.string x)) [] (.block 0 (.block 1 (.block 2 (.block 3 (.block 4 (.block 5 (.block 6 (.block 7 (.block 8 (.skip)))))))))) (by kernel_rfl) (by kernel_rfl) (by kernel_rfl) (by kernel_rfl) (by kernel_rfl) ⟨ca, ca2⟩ ?_
      repeat
        (refine lin_light (A1 := ?_) rfl rfl rfl rfl rfl (fun w' hS K hK => ?_) ?_ ?_
         rotate_left
         · obtain ⟨s0, s1⟩ := hS; go_step; exact hK
         · rfl)
      refine lin_end ?_
      go_wp2_with fail
      go_roundw
      case rel => exact ⟨j + 1, by omega, by go_num, hb.drew⟩
      case measure => simp [intOf]; omega
    · obtain rfl : j = n := by omega
      go_wp2_with fail
      refine (among_not ((hr3.below hb).more hb.size) HN.out (by omega) HF.out.1).mono ?_
      rintro e w4 ⟨rfl, b4⟩
      simp only
      go_wp2_with fail
      go_ret
      exact ⟨rfl, b03.trans ((hb.trans (b4.mono hb.size)).mono b03.size)⟩
end Go.Proofs.YtgnpgdjjdhlhaaaDoor
