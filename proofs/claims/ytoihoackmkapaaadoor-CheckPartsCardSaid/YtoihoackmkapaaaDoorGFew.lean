/- The walk of lintellaw12.few at lengths of any size: it tells something. -/
import Derived.Test.YtoihoackmkapaaaDoorGChkD
namespace Go.Proofs.YtoihoackmkapaaaDoor.G
open Go.RowKit
set_option maxHeartbeats 4000000
set_option maxRecDepth 100000

theorem few_any {w : World} {A : Option Addr} {c n : Nat} {fns : List FnT} (h : ModIn w w.heap.size A fns) (hn : fns.length = n) (hnb : n ≤ 9223372036854775807) :
    Calls Tryd.prog 8 #[.agg #[.slice A n c]] w fun e w' => (∃ b : Bool, e = .returned (.bool b)) ∧ Below w.heap.size w w' := by
  have Hn := Lib.hid hn
  have hb0 : Below w.heap.size w (w.alloc (.cells #[.slice A n c] 24)) := (Below.refl _ _).alloc (Nat.le_refl _) _
  have hbox : (w.alloc (.cells #[.slice A n c] 24)).cell? ⟨w.heap.size, 0, none⟩ = some (.slice A n c) := by rw [cell_of_row _ _ 0 _ _ _ (heap_alloc_new w _)]; rfl
  obtain ⟨w0, hw0⟩ : ∃ w0, w.alloc (.cells #[.slice A n c] 24) = w0 := ⟨_, rfl⟩
  rw [hw0] at hb0 hbox
  clear hn
  go_enter Tryd.func8, Tryd.ntmps8
  go_wp2_with fail
  clear hw0
  go_loopw [3, 12] (fun s i wr => ∃ k : Nat, k ≤ n ∧ i = .int .i64 k ∧ (∃ z : Int, s = .int .i64 z) ∧ Below w.heap.size w wr)
    (fun _ i _ => n - (intOf i).toNat)
  case atStart => exact ⟨0, Nat.zero_le _, rfl, ⟨_, rfl⟩, hb0⟩
  case round =>
    obtain ⟨k, hk, rfl, ⟨z, rfl⟩, hb⟩ := hrel
    by_cases hlt : k < n
    · obtain ⟨f, hf⟩ : ∃ f, fns[k]? = some f := ⟨fns[k]'(by have := Hn.out; omega), List.getElem?_eq_getElem _⟩
      obtain ⟨b, off, rfl, hbl, c0, c1, c2, c3, c4, c5, c6, c7, c8⟩ := (h.below hb (Nat.le_refl _)).at_ hf
      obtain ⟨n1, hn1⟩ : ∃ x, f.consts.length = x := ⟨_, rfl⟩
      obtain ⟨n2', hn2'⟩ : ∃ x, f.code.length = x := ⟨_, rfl⟩
      obtain ⟨n3, hn3⟩ : ∃ x, f.tries.length = x := ⟨_, rfl⟩
      obtain ⟨n4, hn4⟩ : ∃ x, f.caps.length = x := ⟨_, rfl⟩
      rw [hn1] at c5
      rw [hn2'] at c6
      rw [hn3] at c7
      rw [hn4] at c8
      clear hf hn1 hn2' hn3 hn4
      go_wp2_with fail
      go_roundw
      case rel => exact ⟨k + 1, by omega, by go_num, ⟨_, rfl⟩, hb.alloc hb.size _⟩
      case measure => simp [intOf]; omega
    · go_wp2_with fail
      go_ret
      exact ⟨⟨_, rfl⟩, hb⟩
end Go.Proofs.YtoihoackmkapaaaDoor.G
