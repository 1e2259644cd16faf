/- The plain law of UnitsFinds: where a text stands in another one. -/
import Derived.Test.YthmdlnmbjgokaaaDoorULawC
import Derived.Test.YthmdlnmbjgokaaaDoorUStU
import Derived.Lib.IndexBytes
namespace Go.Proofs.YthmdlnmbjgokaaaDoor
open Go.RowKit
set_option maxHeartbeats 4000000
set_option maxRecDepth 100000

theorem prefix_byts : ∀ (vs us : List Int), okU vs → okU us → (byts vs).isPrefixOf (byts us) = vs.isPrefixOf us
  | [], us, _, _ => by cases us <;> rfl
  | b :: y, [], _, _ => rfl
  | b :: y, a :: x, h2, h1 => by
    rw [byts_cons, byts_cons]
    have ha := h1 a (by simp)
    have hb := h2 b (by simp)
    have ih := prefix_byts y x (fun u hu => h2 u (by simp [hu])) (fun u hu => h1 u (by simp [hu]))
    have e1 := u8_eq (b / 256) (a / 256) (by omega) (by omega)
    have e2 := u8_eq (b % 256) (a % 256) (by omega) (by omega)
    simp only [List.isPrefixOf, ih]
    rw [Bool.eq_iff_iff]
    simp only [Bool.and_eq_true, beq_iff_eq, e1, e2]
    constructor
    · rintro ⟨h, h', h''⟩; exact ⟨by omega, h''⟩
    · rintro ⟨h, h'⟩; exact ⟨by omega, by omega, h'⟩
theorem U_even (s : ByteArray) : U (evenB s) = U s := by
  unfold U
  have e : (evenB s).size / 2 = s.size / 2 := by rw [evenB_size]; omega
  rw [e, unitsTo_even s _ (Nat.le_refl _)]
theorem ok_drop {us : List Int} (h : okU us) (i : Nat) : okU (us.drop i) := fun u hu => h u (List.mem_of_mem_drop hu)
theorem extract_units (s : ByteArray) (i : Nat) (h : i ≤ s.size / 2) : (evenB s).extract (2 * i) (evenB s).size = makeB ((U s).drop i) := by
  have e : (evenB s).size / 2 = s.size / 2 := by rw [evenB_size]; omega
  have h1 := makeB_cut (evenB s) i (s.size / 2) h (by omega)
  rw [U_even, List.take_of_length_le (by rw [U_length]; exact Nat.le_refl _)] at h1
  rw [h1]
  congr 1
  rw [evenB_size]; omega
theorem stands_eq (s t : ByteArray) (i : Nat) (h : i ≤ s.size / 2) : Lib.hasPrefix ((evenB s).extract (2 * i) (evenB s).size).data.toList (evenB t).data.toList = stU (U s) (U t) i := by
  rw [extract_units s i h, makeB_list, evenB_list]
  exact prefix_byts _ _ (U_ok t) (ok_drop (U_ok s) i)

end Go.Proofs.YthmdlnmbjgokaaaDoor
