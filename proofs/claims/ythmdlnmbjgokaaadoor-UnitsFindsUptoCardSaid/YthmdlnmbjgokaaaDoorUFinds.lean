/- The walk of UnitsFinds. -/
import Derived.Test.YthmdlnmbjgokaaaDoorUAwake
import Derived.Test.YthmdlnmbjgokaaaDoorURefFind
namespace Go.Proofs.YthmdlnmbjgokaaaDoor
open Go.RowKit
set_option maxHeartbeats 4000000
set_option maxRecDepth 100000

theorem finds_any (s t : ByteArray) (f : Int) (w : World) (hs : s.size ≤ 1048576) (ht : t.size ≤ 1048576) (hT : Lib.Utf8Tabs 0 1 w) :
    Calls Tryd.prog 9 #[.string s, .string t, .int .i64 f] w fun e w' => e = .returned (.bool true) ∧ Below w.heap.size w w' := by
  by_cases hsz : 2000 < s.size + t.size
  · go_enter Tryd.func9, Tryd.ntmps9
    go_wp2_with fail
    refine (awake_any _ hT).mono ?_
    rintro e w1 ⟨rfl, b1⟩
    simp only
    go_wp2_with fail
    go_ret
    exact ⟨rfl, b1⟩
  have h1 := fun w => find_any s t f w hs ht
  have h2 := fun w => reffind_any s t f w hs ht
  have h3 := fun w => last_any s t f w hs ht
  have h4 := fun w => reflast_any s t f w hs ht
  obtain ⟨x, hx⟩ : ∃ x, findR s t f = x := ⟨_, rfl⟩
  obtain ⟨y, hy⟩ : ∃ y, lastR s t f = y := ⟨_, rfl⟩
  rw [hx] at h1 h2
  rw [hy] at h3 h4
  clear hx hy
  go_enter Tryd.func9, Tryd.ntmps9
  go_wp2_with fail
  refine (awake_any _ hT).mono ?_
  rintro e w1 ⟨rfl, b1⟩
  simp only
  go_wp2_with fail
  refine (h1 _).mono ?_
  rintro e w2 ⟨rfl, b2⟩
  have b12 := b1.trans (b2.mono b1.size)
  simp only
  go_wp2_with fail
  refine (h2 _).mono ?_
  rintro e w3 ⟨rfl, b3⟩
  have b13 := b12.trans (b3.mono b12.size)
  simp only
  go_wp2_with fail
  refine (h3 _).mono ?_
  rintro e w4 ⟨rfl, b4⟩
  have b14 := b13.trans (b4.mono b13.size)
  simp only
  go_wp2_with fail
  refine (h4 _).mono ?_
  rintro e w5 ⟨rfl, b5⟩
  have b15 := b14.trans (b5.mono b14.size)
  simp only
  go_wp2_with fail
  go_ret
  exact ⟨rfl, b15⟩
end Go.Proofs.YthmdlnmbjgokaaaDoor
