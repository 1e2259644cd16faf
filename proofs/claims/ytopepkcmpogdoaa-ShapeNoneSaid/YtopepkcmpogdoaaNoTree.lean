/- The walks over a tree that nobody made: nil, or zero. -/
import Derived.Test.YtopepkcmpogdoaaTreeFind
import Derived.Test.YtopepkcmpogdoaaFew
namespace Go.Proofs.Ytopepkcmpogdoaa
open Go.RowKit
set_option maxHeartbeats 400000
set_option maxRecDepth 100000

def NoTree (w : World) (p : Option Addr) : Prop := p = none ∨ ∃ b, p = some ⟨b, 0, none⟩ ∧ w.cell? ⟨b, 0, none⟩ = some (.int .i64 0)
theorem NoTree.below {w w' : World} {p : Option Addr} (h : NoTree w p) (hb : Below w.heap.size w w') : NoTree w' p := by
  rcases h with h | ⟨b, h1, h2⟩
  · exact .inl h
  · exact .inr ⟨b, h1, (hb.cell (World.block_lt_of_cell? _ _ h2)).trans h2⟩
theorem NoTree.alloc {w : World} {p : Option Addr} (h : NoTree w p) (o : Obj) : NoTree (w.alloc o) p := h.below ((Below.refl _ _).alloc (Nat.le_refl _) _)

theorem is_none {w : World} {p : Option Addr} (h : NoTree w p) (s : Int) : Calls Try.prog 26 #[.pointer p, .int .i64 s] w fun e w' => e = .returned (.bool false) ∧ w = w' := by
  rcases h with rfl | ⟨b, rfl, hc⟩
  · go_enter Try.func26, Try.ntmps26
    go_wp2_with fail
    go_ret
    exact ⟨rfl, rfl⟩
  · go_enter Try.func26, Try.ntmps26
    go_wp2_with fail
    go_ret
    exact ⟨rfl, rfl⟩

theorem add_none {w : World} {p : Option Addr} (h : NoTree w p) (s : Int) (k : KK) (fl : Int) : Calls Try.prog 10 #[.pointer p, .int .i64 s, encK k, .int .i64 fl] w fun e w' => e = .returned (.tuple #[.int .i64 0, .int .i64 140]) ∧ Below w.heap.size w w' := by
  obtain ⟨n, sy⟩ := k
  simp only [encK]
  go_enter Try.func10, Try.ntmps10
  go_wp2_with fail
  refine (is_none (h.alloc _) s).mono ?_
  rintro e w' ⟨rfl, rfl⟩
  simp only
  go_wp2_with fail
  go_ret2
  exact ⟨rfl, (Below.refl _ _).alloc (Nat.le_refl _) _⟩
theorem change_none {w : World} {p : Option Addr} (h : NoTree w p) (s : Int) (k : KK) (fl : Int) : Calls Try.prog 14 #[.pointer p, .int .i64 s, encK k, .int .i64 fl] w fun e w' => e = .returned (.tuple #[.int .i64 0, .int .i64 140]) ∧ Below w.heap.size w w' := by
  obtain ⟨n, sy⟩ := k
  simp only [encK]
  go_enter Try.func14, Try.ntmps14
  go_wp2_with fail
  refine (is_none (h.alloc _) s).mono ?_
  rintro e w' ⟨rfl, rfl⟩
  simp only
  go_wp2_with fail
  go_ret2
  exact ⟨rfl, (Below.refl _ _).alloc (Nat.le_refl _) _⟩
theorem find_none {w : World} {p : Option Addr} (h : NoTree w p) (s : Int) (k : KK) : Calls Try.prog 24 #[.pointer p, .int .i64 s, encK k] w fun e w' => e = .returned (.tuple #[.int .i64 0, .int .i64 0, .bool false]) ∧ Below w.heap.size w w' := by
  obtain ⟨n, sy⟩ := k
  simp only [encK]
  go_enter Try.func24, Try.ntmps24
  go_wp2_with fail
  refine (is_none (h.alloc _) s).mono ?_
  rintro e w' ⟨rfl, rfl⟩
  simp only
  go_wp2_with fail
  refine bodyPost_ret (v := .tuple #[.int .i64 0, .int .i64 0, .bool false]) (by simp [results, Try.results24, go_sem]) rfl ?_
  exact ⟨rfl, (Below.refl _ _).alloc (Nat.le_refl _) _⟩
theorem keys_none {w : World} {p : Option Addr} (h : NoTree w p) (s : Int) : Calls Try.prog 12 #[.pointer p, .int .i64 s] w fun e w' => e = .returned (.tuple #[.slice none 0 0, .int .i64 140]) ∧ w = w' := by
  go_enter Try.func12, Try.ntmps12
  go_wp2_with fail
  refine (is_none h s).mono ?_
  rintro e w' ⟨rfl, rfl⟩
  simp only
  go_wp2_with fail
  go_ret2
  exact ⟨rfl, rfl⟩
theorem len_none {w : World} {p : Option Addr} (h : NoTree w p) : Calls Try.prog 11 #[.pointer p] w fun e w' => e = .returned (.int .i64 0) ∧ w = w' := by
  go_enter Try.func11, Try.ntmps11
  go_wp2_with fail
  refine (is_none h 0).mono ?_
  rintro e w' ⟨rfl, rfl⟩
  simp only
  go_wp2_with fail
  go_ret
  exact ⟨rfl, rfl⟩
end Go.Proofs.Ytopepkcmpogdoaa
