/- A list of texts that comes in, opened. -/
import Derived.Test.YthmdlnmbjgokaaaDoorUJoins
import Derived.Test.YthmdlnmbjgokaaaDoorRows
import Derived.SliceStrings
import Derived.OpenShut
import Derived.Test.YthmdlnmbjgokaaaDoorPost
namespace Go.Proofs.YthmdlnmbjgokaaaDoor
open Go.ChangeShapes Go.WideShapes Go.ChangeAt Go.RowKit Go.ChangeShapes
set_option maxHeartbeats 4000000

section
variable {H : Type} {enc : TypeId × Value → H} {w : World} {base b0 : Nat} {spare : Nat → Bool} {held : Bool}
theorem bulk_strs : ∀ (l : List ByteArray), totS l + l.length ≤ Rows.uptoBulkAll (strs (H := H) l)
  | [] => by simp [totS, strs, Rows.uptoBulkAll]
  | x :: r => by
    have ih := bulk_strs r
    have e1 : totS (x :: r) = x.size + totS r := by simp [totS]
    have e2 : strs (H := H) (x :: r) = .lit (.string x.data.toList) :: strs r := rfl
    have e3 : x.data.toList.length = x.size := by rw [Array.length_toList]; rfl
    rw [e1, e2]
    simp only [Rows.uptoBulkAll, Rows.uptoBulk, List.length_cons]
    omega
theorem open_strs {v : Value} {d : DataW H} {p : List MemPlace} (h : DataW.Trod enc Tryd.prog w base spare held 45 v d p) (hv : Value.okWide Tryd.prog w .any b0 45 v) :
    ∃ A n c l, v = .slice A n c ∧ l.length = n ∧ Rd w w.heap.size A (l.map Value.string) ∧ n ≤ c ∧ (A = none → n = 0 ∧ c = 0) ∧ totS l + l.length ≤ Rows.uptoBulk d := by
  obtain ⟨a0, n0, c0, rfl⟩ := okWide_slice Tryd.underlying45 hv
  obtain ⟨fuel, hf⟩ := h
  rcases open_strings Tryd.underlying45 Tryd.underlying22 (by kernel_rfl) hf with ⟨hcs, hd⟩ | ⟨a, len, cap, ss, hcs, hb, hl, hm, hsl, hx, hi, hz⟩
  · obtain ⟨rfl, rfl, rfl⟩ : a0 = none ∧ n0 = 0 ∧ c0 = 0 := by simpa [Value.cells] using hcs
    exact ⟨none, 0, 0, [], rfl, rfl, Rd.nil, by omega, fun _ => ⟨rfl, rfl⟩, by simp [totS]⟩
  obtain ⟨rfl, rfl, rfl⟩ : a0 = some a ∧ n0 = len ∧ c0 = cap := by simpa [Value.cells] using hcs
  have hls : n0 ≤ ss.length := by rw [hsl]; split <;> omega
  refine ⟨some a, n0, c0, ss.take n0, rfl, by rw [List.length_take]; omega, ?_, hl, (fun h => by cases h), ?_⟩
  · intro k u hu
    rw [List.getElem?_map, List.getElem?_take] at hu
    by_cases hk : k < n0
    · rw [if_pos hk, List.getElem?_eq_getElem (by omega)] at hu
      simp only [Option.map_some, Option.some.injEq] at hu
      have hc := hi k (by omega)
      rw [List.getD_eq_getElem?_getD, List.getElem?_eq_getElem (by omega), Option.getD_some, hu] at hc
      have := World.block_lt_of_cell? _ _ hc
      rw [add_block] at this
      exact ⟨a, rfl, this, hc⟩
    · rw [if_neg hk] at hu
      cases hu
  · simp only [Prod.mk.injEq] at hx
    rw [hx.1]
    have := bulk_strs (H := H) (ss.take n0)
    simp only [Rows.uptoBulk]
    omega
end
end Go.Proofs.YthmdlnmbjgokaaaDoor
