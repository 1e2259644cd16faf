/- The walk of shape.plain. -/
import Derived.Test.YtopepkcmpogdoaaUnitsA
import Derived.Test.YtopepkcmpogdoaaLin
import Derived.Deep.RegionHeld3
namespace Go.Proofs.Ytopepkcmpogdoaa
open Go.RowKit
set_option maxHeartbeats 400000
set_option maxRecDepth 100000

/-- a key as it is compared -/
def plainName (n : ByteArray) (s : Int) : ByteArray := if 0 < s then ByteArray.empty else evenB n
def plainSym (s : Int) : Int := if 0 < s then s else 0

theorem plain_any (n : ByteArray) (s : Int) (w : World) (hn : n.size ≤ maxLen) :
    Calls Try.prog 27 #[.agg #[.string n, .int .i64 s]] w fun e w' => e = .returned (.agg #[.string (plainName n s), .int .i64 (plainSym s)]) ∧ Below w.heap.size w w' := by
  by_cases h : 0 < s
  · have e1 : plainName n s = ByteArray.empty := by unfold plainName; rw [if_pos h]
    have e2 : plainSym s = s := by unfold plainSym; rw [if_pos h]
    rw [e1, e2]
    clear e1 e2
    go_enter Try.func27, Try.ntmps27
    go_wp2_with fail
    refine bodyPost_ret (v := .agg #[.string ByteArray.empty, .int .i64 s]) (by simp [results, Try.results27, go_sem, empty_mk]) rfl ⟨rfl, ?_⟩
    exact ((Below.refl _ _).alloc (Nat.le_refl _) _).alloc (by simp) _
  · have e1 : plainName n s = cutB n 0 ((n.size : Int) / 2) := by unfold plainName; rw [if_neg h, cutB_all]
    have e2 : plainSym s = 0 := by unfold plainSym; rw [if_neg h]
    rw [e1, e2]
    clear e1 e2
    go_enter Try.func27, Try.ntmps27
    go_wp2_with fail
    go_region_held3 (fun w' => w'.cell? ⟨w.heap.size, 0, none⟩ = some (.string n) ∧ w'.cell? ⟨w.heap.size, 1, none⟩ = some (.int .i64 s)) (simp [go_sem, World.cell?_alloc_past])
      (first
        | (go_at_call 39; refine (len_any _ _ hn).mono ?_; rintro e w' ⟨rfl, rfl⟩)
        | (go_at_call 38; refine (cut_any _ _ _ _ hn).mono ?_; rintro e w' ⟨rfl, rfl⟩))
    go_wp2
    refine bodyPost_ret (v := .agg #[.string (cutB n 0 ((n.size : Int) / 2)), .int .i64 0]) (by simp [results, Try.results27, go_sem]) rfl ⟨rfl, ?_⟩
    exact (((Below.refl _ _).alloc (Nat.le_refl _) _).alloc (by simp) _).drew
end Go.Proofs.Ytopepkcmpogdoaa
