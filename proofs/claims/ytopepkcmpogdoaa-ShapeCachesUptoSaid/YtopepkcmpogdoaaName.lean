/- The walk of lintelref04.Name at a text of one ASCII byte. -/
import Derived.Test.YtopepkcmpogdoaaRefC
import Derived.Test.YtopepkcmpogdoaaTreeG
namespace Go.Proofs.Ytopepkcmpogdoaa
open Go.RowKit
set_option maxHeartbeats 400000
set_option maxRecDepth 100000

theorem name_one (c : UInt8) (w : World) (hc : c.toNat < 128) :
    Calls Try.prog 25 #[.string ⟨#[c]⟩] w fun e w' => e = .returned (.agg #[.string ⟨#[0, c]⟩, .int .i64 0]) ∧ Below w.heap.size w w' := by
  go_enter Try.func25, Try.ntmps25
  go_wp2_with fail
  have hnew : (w.alloc (Obj.cells #[Value.string ⟨#[]⟩, Value.int IntKind.i64 0] 30)).heap[w.heap.size]? = some (.cells #[Value.string ⟨#[]⟩, Value.int IntKind.i64 0] 30) := heap_new' rfl
  refine (ascii_one c _ hc).mono ?_
  rintro e w1 ⟨rfl, hb⟩
  have hbx := (hb.block w.heap.size (by simp)).trans hnew
  have c0 := cell_block hbx 0
  have c1 := cell_block hbx 1
  have f0 := frozen_block hbx 0
  have f1 := frozen_block hbx 1
  simp at c0 c1
  simp only
  go_wp2_with fail
  have hB := setCell_block (setCell_block hbx (i := 0) (.string ⟨#[0, c]⟩)) (i := 1) (.int .i64 0)
  have d0 := cell_block hB 0
  have d1 := cell_block hB 1
  simp at d0 d1
  refine bodyPost_ret (v := .agg #[.string ⟨#[0, c]⟩, .int .i64 0]) ?_ rfl ⟨rfl, ?_⟩
  · simp [results, Try.results25, go_sem, d0, d1]
  · have hs := hb.size
    exact ((((Below.refl _ _).alloc (Nat.le_refl _) _).trans (hb.mono (by simp))).setCell (p := ⟨w.heap.size, 0, none⟩) (Nat.le_refl _) _).setCell (p := ⟨w.heap.size, 1, none⟩) (Nat.le_refl _) _
end Go.Proofs.Ytopepkcmpogdoaa
