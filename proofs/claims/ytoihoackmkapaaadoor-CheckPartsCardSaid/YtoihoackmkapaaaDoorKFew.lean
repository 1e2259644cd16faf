/- The walk of lintellaw12.few. -/
import Derived.Test.YtoihoackmkapaaaDoorKD
import Derived.Test.YtoihoackmkapaaaDoorLin
namespace Go.Proofs.YtoihoackmkapaaaDoor
open Go.RowKit
set_option maxHeartbeats 4000000
set_option maxRecDepth 100000

theorem few_any {w : World} {A : Option Addr} {c n : Nat} {fns : List FnT} (h : ModIn w w.heap.size A fns) (hn : fns.length = n) (hs : fewN fns ≤ 1048576) :
    Calls Tryd.prog 8 #[.agg #[.slice A n c]] w fun e w' => e = .returned (.bool (decide (fewN fns ≤ 1000))) ∧ Below w.heap.size w w' := by
  have Hn := Lib.hid hn
  have HS := Lib.hid hs
  have hn2 : n ≤ 1048576 := by unfold fewN at hs; omega
  have hb0 : Below w.heap.size w (w.alloc (.cells #[.slice A n c] 24)) := (Below.refl _ _).alloc (Nat.le_refl _) _
  have hbox : (w.alloc (.cells #[.slice A n c] 24)).cell? ⟨w.heap.size, 0, none⟩ = some (.slice A n c) := by rw [cell_of_row _ _ 0 _ _ _ (heap_alloc_new w _)]; rfl
  obtain ⟨w0, hw0⟩ : ∃ w0, w.alloc (.cells #[.slice A n c] 24) = w0 := ⟨_, rfl⟩
  rw [hw0] at hb0 hbox
  clear hn hs
  obtain ⟨R, hR⟩ : ∃ R, decide (fewN fns ≤ 1000) = R := ⟨_, rfl⟩
  have HR := Lib.hid hR
  rw [hR]
  clear hR
  go_enter Tryd.func8, Tryd.ntmps8
  go_wp2_with fail
  clear hw0
  go_loopw [3, 12] (fun s i wr => ∃ k : Nat, k ≤ n ∧ i = .int .i64 k ∧ (∃ S : Nat, ((fns.take k).map fewF).sum = S ∧ s = .int .i64 ((n : Int) + S)) ∧ Below w.heap.size w wr)
    (fun _ i _ => n - (intOf i).toNat)
  case atStart => exact ⟨0, Nat.zero_le _, rfl, ⟨0, rfl, by go_num⟩, hb0⟩
  case round =>
    obtain ⟨k, hk, rfl, ⟨S, hS, rfl⟩, hb⟩ := hrel
    have HSS := Lib.hid hS
    have hS1 : S ≤ 1048576 := by have h1 := few_le fns k; have h2 := HS.out; unfold fewN at h2; omega
    clear hS
    by_cases hlt : k < n
    · obtain ⟨f, hf⟩ : ∃ f, fns[k]? = some f := ⟨fns[k]'(by have := Hn.out; omega), List.getElem?_eq_getElem _⟩
      obtain ⟨b, off, rfl, hbl, c0, c1, c2, c3, c4, c5, c6, c7, c8⟩ := (h.below hb (Nat.le_refl _)).at_ hf
      have hff : fewF f ≤ 1048576 := by have h1 := few_mem (List.mem_of_getElem? hf); have h2 := HS.out; unfold fewN at h2; omega
      have HTK := Lib.hid (fewN_take hf)
      have hsum : (fewF f : Int) = f.consts.length + f.code.length + 4 * f.tries.length + f.caps.length := by unfold fewF; omega
      have HSUM := Lib.hid hsum
      obtain ⟨n1, hn1⟩ : ∃ x, f.consts.length = x := ⟨_, rfl⟩
      obtain ⟨n2', hn2'⟩ : ∃ x, f.code.length = x := ⟨_, rfl⟩
      obtain ⟨n3, hn3⟩ : ∃ x, f.tries.length = x := ⟨_, rfl⟩
      obtain ⟨n4, hn4⟩ : ∃ x, f.caps.length = x := ⟨_, rfl⟩
      have hff2 : n1 + n2' + 4 * n3 + n4 ≤ 1048576 := by unfold fewF at hff; omega
      rw [hn1] at c5 HSUM
      rw [hn2'] at c6 HSUM
      rw [hn3] at c7 HSUM
      rw [hn4] at c8 HSUM
      clear hf hn1 hn2' hn3 hn4 hff hsum
      go_wp2_with fail
      go_roundw
      case rel =>
        have R2 : ∃ S' : Nat, ((fns.take (k + 1)).map fewF).sum = S' ∧ (S' : Int) = S + (n1 + n2' + 4 * n3 + n4) := ⟨_, rfl, by rw [HTK.out, HSS.out]; have := HSUM.out; omega⟩
        obtain ⟨S', h1, h2⟩ := R2
        exact ⟨k + 1, by omega, by go_num, ⟨S', h1, by congr 1; omega⟩, hb.alloc hb.size _⟩
      case measure => simp [intOf]; omega
    · obtain rfl : k = n := by omega
      have htk : fns.take k = fns := List.take_of_length_le (by have := Hn.out; omega)
      have hfin : R = decide ((k : Int) + S ≤ 1000) := by
        rw [← HR.out]
        have h2 := HSS.out
        rw [htk] at h2
        unfold fewN
        rw [h2, Hn.out]
        rw [Bool.eq_iff_iff, decide_eq_true_eq, decide_eq_true_eq]
        omega
      clear htk
      subst hfin
      go_wp2_with fail
      go_ret
      exact ⟨rfl, hb⟩
end Go.Proofs.YtoihoackmkapaaaDoor
