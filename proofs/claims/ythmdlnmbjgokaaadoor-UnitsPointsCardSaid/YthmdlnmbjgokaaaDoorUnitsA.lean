/- The walks of units.Len and units.Cut. -/
import Derived.Test.YthmdlnmbjgokaaaDoorBase
namespace Go.Proofs.YthmdlnmbjgokaaaDoor
open Go.RowKit
set_option maxHeartbeats 400000
attribute [local go_sem ↓] run_max_named run_min_named

theorem len_any (s : ByteArray) (w : World) (hs : s.size ≤ maxLen) :
    Calls Tryd.prog 25 #[.string s] w fun e w' => e = .returned (.int .i64 ((s.size : Int) / 2)) ∧ w = w' := by
  unfold maxLen at hs
  go_enter Tryd.func25, Tryd.ntmps25
  go_wp2
  go_ret
  exact ⟨by simp, rfl⟩

/-- clamp to [0, n] -/
def clampI (x n : Int) : Int := imin (imax x 0) n
theorem clampI_bd (x n : Int) (h : 0 ≤ n) : 0 ≤ clampI x n ∧ clampI x n ≤ n := by
  unfold clampI imin imax; split <;> split <;> omega
theorem clampI_in (x n : Int) (h0 : 0 ≤ x) (h : x ≤ n) : clampI x n = x := by
  unfold clampI imin imax; split <;> split <;> omega

def cutB (s : ByteArray) (f t : Int) : ByteArray :=
  if clampI t ((s.size : Int)/2) ≤ clampI f ((s.size : Int)/2) then ByteArray.empty else s.extract (2 * clampI f ((s.size : Int)/2)).toNat (2 * clampI t ((s.size : Int)/2)).toNat

theorem cut_any (s : ByteArray) (f t : Int) (w : World) (hs : s.size ≤ maxLen) :
    Calls Tryd.prog 27 #[.string s, .int .i64 f, .int .i64 t] w fun e w' => e = .returned (.string (cutB s f t)) ∧ w = w' := by
  have hs' := hs
  unfold maxLen at hs'
  have hf := clampI_bd f (s.size/2) (by omega)
  have ht := clampI_bd t (s.size/2) (by omega)
  unfold cutB
  obtain ⟨F, hF⟩ : ∃ F, clampI f (s.size/2) = F := ⟨_, rfl⟩
  obtain ⟨T, hT⟩ : ∃ T, clampI t (s.size/2) = T := ⟨_, rfl⟩
  rw [hF] at hf ⊢
  rw [hT] at ht ⊢
  unfold clampI at hF hT
  go_enter Tryd.func27, Tryd.ntmps27
  go_wp2_with (go_at_call 25; refine (len_any _ _ hs).mono ?_; rintro e w' ⟨rfl, rfl⟩)
  · go_ret
    simp [*, empty_mk]
  · go_ret
    exact ⟨rfl, rfl⟩

/-- the even part of a text's bytes -/
def evenB (s : ByteArray) : ByteArray := s.extract 0 (s.size / 2 * 2)
theorem cutB_all (s : ByteArray) : cutB s 0 ((s.size : Int) / 2) = evenB s := by
  unfold cutB evenB
  rw [clampI_in _ _ (by omega) (by omega), clampI_in _ _ (by omega) (by omega)]
  split
  · have h0 : s.size / 2 * 2 = 0 := by omega
    rw [h0]
    apply ByteArray.ext
    simp
  · congr 1
    omega
theorem evenB_size (s : ByteArray) : (evenB s).size = s.size / 2 * 2 := by
  unfold evenB; simp; omega

end Go.Proofs.YthmdlnmbjgokaaaDoor
