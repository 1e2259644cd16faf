/- The walk of lintellaw14.awake. -/
import Derived.Test.YtopepkcmpogdoaaName
import Derived.Test.YtopepkcmpogdoaaTreeFind
namespace Go.Proofs.Ytopepkcmpogdoaa
open Go.RowKit
set_option maxHeartbeats 400000
set_option maxRecDepth 100000

def kA : KK := (⟨#[0, 97]⟩, 0)
def kB : KK := (⟨#[0, 98]⟩, 0)
def m0 : TM := ([[]], fun _ => none)
def m1 : TM := (addM m0 0 kA 7).1
def m2 : TM := (addM m1 0 kA 7).1
def m3 : TM := (addM m2 0 kA 1).1
def m4 : TM := (addM m3 1 kB 7).1
theorem aw1 : (addM m0 0 kA 7).2 = (1, 0) := by decide +kernel
theorem aw2 : (addM m1 0 kA 7).2 = (1, 0) := by decide +kernel
theorem aw3 : (addM m2 0 kA 1).2 = (2, 0) := by decide +kernel
theorem aw4 : (addM m3 1 kB 7).2 = (3, 0) := by decide +kernel
theorem aw5 : findM m4.1 3 kB = (1, 7, true) := by decide +kernel
theorem al1 : m1.1.length ≤ 1000 := by decide +kernel
theorem al2 : m2.1.length ≤ 1000 := by decide +kernel
theorem al3 : m3.1.length ≤ 1000 := by decide +kernel
theorem al4 : m4.1.length ≤ 1000 := by decide +kernel
theorem okA : okK kA := ⟨by decide +kernel, by decide +kernel⟩
theorem okB : okK kB := ⟨by decide +kernel, by decide +kernel⟩

theorem not_touch_key {cs : Array Value} {fr : Nat × Nat} : ¬ touchT (.cells cs 30 fr) := by simp [touchT]

theorem awake_any (w : World) : Calls Try.prog 7 #[] w fun e w' => e = .returned (.bool true) ∧ Below w.heap.size w w' := by
  go_enter Try.func7, Try.ntmps7
  go_wp2_with fail
  refine (new_any _).mono ?_
  rintro e w1 ⟨rfl, hT, hb1⟩
  have s1 := hb1.size
  change IsTree _ _ _ m0.1 m0.2 at hT
  simp only
  go_wp2_with fail
  refine (name_one 97 _ (by decide)).mono ?_
  rintro e w2 ⟨rfl, hb2⟩
  have hT2 := hT.below hb2
  have s2 := hb2.size
  simp only
  go_wp2_with fail
  refine (name_one 98 _ (by decide)).mono ?_
  rintro e w3 ⟨rfl, hb3⟩
  have hT3 := hT2.below hb3
  have s3 := hb3.size
  simp only
  go_wp2_with fail
  generalize hW : (w3.alloc _).alloc _ = w4
  have hb4 : Below w3.heap.size w3 w4 := by
    rw [← hW]
    exact ((Below.refl _ _).alloc (Nat.le_refl _) _).alloc (by simp) _
  have hT4 := hT3.below hb4
  have s4 := hb4.size
  have hA4 : w4.heap[w3.heap.size]? = some (.cells #[.string ⟨#[0, 97]⟩, .int .i64 0] 30 (0, 0)) := by
    rw [← hW]
    exact heap_old' (heap_new' rfl)
  have hB4 : w4.heap[w3.heap.size + 1]? = some (.cells #[.string ⟨#[0, 98]⟩, .int .i64 0] 30 (0, 0)) := by
    rw [← hW]
    exact heap_new' (by simp)
  clear hW
  refine (add_any hT4 0 kA 7 okA (by decide) (by decide) (by decide) (by omega)).mono ?_
  rintro e w5 ⟨rfl, hT5, hF5⟩
  change IsTree _ _ _ m1.1 m1.2 at hT5
  have s5 := hF5.size
  simp only [show addM (m0.1, m0.2) 0 kA 7 = addM m0 0 kA 7 from rfl, aw1]
  have hA5 := hF5.same _ _ hA4 not_touch_key
  have hB5 := hF5.same _ _ hB4 not_touch_key
  have a0 := cell_block hA5 0
  have a1 := cell_block hA5 1
  have b0 := cell_block hB5 0
  have b1 := cell_block hB5 1
  simp at a0 a1 b0 b1
  clear hA4 hB4
  go_wp2_with fail
  clear a0 a1 b0 b1
  refine (add_any hT5 0 kA 7 okA (by decide) (by decide) al1 (by omega)).mono ?_
  rintro e w6 ⟨rfl, hT6, hF6⟩
  change IsTree _ _ _ m2.1 m2.2 at hT6
  have s6 := hF6.size
  simp only [show addM (m1.1, m1.2) 0 kA 7 = addM m1 0 kA 7 from rfl, aw2]
  have hA6 := hF6.same _ _ hA5 not_touch_key
  have hB6 := hF6.same _ _ hB5 not_touch_key
  have a0 := cell_block hA6 0
  have a1 := cell_block hA6 1
  have b0 := cell_block hB6 0
  have b1 := cell_block hB6 1
  simp at a0 a1 b0 b1
  clear hA5 hB5
  go_wp2_with fail
  clear a0 a1 b0 b1
  refine (add_any hT6 0 kA 1 okA (by decide) (by decide) al2 (by omega)).mono ?_
  rintro e w7 ⟨rfl, hT7, hF7⟩
  change IsTree _ _ _ m3.1 m3.2 at hT7
  have s7 := hF7.size
  simp only [show addM (m2.1, m2.2) 0 kA 1 = addM m2 0 kA 1 from rfl, aw3]
  have hA7 := hF7.same _ _ hA6 not_touch_key
  have hB7 := hF7.same _ _ hB6 not_touch_key
  have a0 := cell_block hA7 0
  have a1 := cell_block hA7 1
  have b0 := cell_block hB7 0
  have b1 := cell_block hB7 1
  simp at a0 a1 b0 b1
  clear hA6 hB6
  go_wp2_with fail
  clear a0 a1 b0 b1
  refine (add_any hT7 1 kB 7 okB (by decide) (by decide) al3 (by omega)).mono ?_
  rintro e w8 ⟨rfl, hT8, hF8⟩
  change IsTree _ _ _ m4.1 m4.2 at hT8
  have s8 := hF8.size
  simp only [show addM (m3.1, m3.2) 1 kB 7 = addM m3 1 kB 7 from rfl, aw4]
  have hA8 := hF8.same _ _ hA7 not_touch_key
  have hB8 := hF8.same _ _ hB7 not_touch_key
  have a0 := cell_block hA8 0
  have a1 := cell_block hA8 1
  have b0 := cell_block hB8 0
  have b1 := cell_block hB8 1
  simp at a0 a1 b0 b1
  clear hA7 hB7
  go_wp2_with fail
  clear a0 a1 b0 b1
  refine (find_any hT8 3 kB okB al4).mono ?_
  rintro e w9 ⟨rfl, hb9⟩
  simp only [aw5]
  go_wp2_with fail
  go_ret
  exact ⟨rfl, ((((((((hb1.trans (hb2.mono s1)).trans (hb3.mono (by omega))).trans (hb4.mono (by omega))).trans hF5.below).trans hF6.below).trans hF7.below).trans hF8.below).trans (hb9.mono (by omega)))⟩
end Go.Proofs.Ytopepkcmpogdoaa
