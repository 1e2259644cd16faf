/- A cache in memory; the walks of NewCache, real, Flush, Asked. -/
import Derived.Test.YtopepkcmpogdoaaTreeFind
import Derived.Laws.LoneSync
namespace Go.Proofs.Ytopepkcmpogdoaa
open Go.RowKit
set_option maxHeartbeats 400000
set_option maxRecDepth 100000

/-- a cache as data: the tree it remembers, shape, key, place, flags, whether it was there, hits, misses -/
structure CM where
  tree : Option Nat
  s : Int
  k : KK
  at' : Int
  fl : Int
  there : Bool
  hits : Int
  miss : Int
def cacheCells (c : CM) : Array Value := #[.int .i64 1, .pointer (c.tree.map fun x => ⟨x, 0, none⟩), .int .i64 c.s, .string c.k.1, .int .i64 c.k.2, .int .i64 c.at', .int .i64 c.fl, .bool c.there, .int .i64 c.hits, .int .i64 c.miss]
def CacheAt (w : World) (b : Nat) (c : CM) : Prop := w.heap[b]? = some (.cells (cacheCells c) 69 (0, 0))

theorem new_cache (w : World) : Calls Try.prog 18 #[] w fun e w' => e = .returned (.pointer (some ⟨w.heap.size, 0, none⟩)) ∧ CacheAt w' w.heap.size ⟨none, 0, (⟨#[]⟩, 0), 0, 0, false, 0, 0⟩ ∧ Below w.heap.size w w' := by
  go_enter Try.func18, Try.ntmps18
  go_wp2_with fail
  go_ret
  exact ⟨rfl, heap_new' rfl, (Below.refl _ _).alloc (Nat.le_refl _) _⟩

theorem real_nil (w : World) : Calls Try.prog 33 #[.pointer none] w fun e w' => e = .returned (.bool false) ∧ w = w' := by
  go_enter Try.func33, Try.ntmps33
  go_wp2_with fail
  go_ret
  exact ⟨rfl, rfl⟩
theorem real_any (w : World) (b : Nat) (m : Int) (h : w.cell? ⟨b, 0, none⟩ = some (.int .i64 m)) : Calls Try.prog 33 #[.pointer (some ⟨b, 0, none⟩)] w fun e w' => e = .returned (.bool (decide (m = 1))) ∧ w = w' := by
  go_enter Try.func33, Try.ntmps33
  go_wp2_with fail
  go_ret
  exact ⟨rfl, rfl⟩

theorem load_any (w : World) (b o : Nat) (n : Int) (h : w.cell? ⟨b, o, none⟩ = some (.int .i64 n)) : Calls Try.prog 36 #[.pointer (some ⟨b, o, none⟩)] w fun e w' => e = .returned (.int .i64 n) ∧ w = w' := by
  have hld := run_call_load (P := Try.prog) Try.func43 (by kernel_rfl) (by kernel_rfl) (by kernel_rfl) .i64 (by kernel_rfl) h
  go_enter Try.func36, Try.ntmps36
  go_wp2_with fail
  go_ret
  exact ⟨rfl, rfl⟩
theorem atomic_add (w : World) (b o : Nat) (n : Int) (h : w.cell? ⟨b, o, none⟩ = some (.int .i64 n)) (f : w.frozen? ⟨b, o, none⟩ = false) (hn : 0 ≤ n ∧ n < 1000000) :
    Calls Try.prog 34 #[.pointer (some ⟨b, o, none⟩), .int .i64 1] w fun e w' => e = .returned (.int .i64 (n + 1)) ∧ w' = w.setCell ⟨b, o, none⟩ (.int .i64 (n + 1)) := by
  have hs : (Op.intArith .add .i64 n 1).run Try.prog w = .ok (.int .i64 (n + 1)) w := by
    have e1 : IntKind.i64.wrap (n + 1) = n + 1 := by rw [IntKind.wrap_i64]; omega
    simp [Op.intArith, e1]
  have had := run_call_add (P := Try.prog) Try.func41 (by kernel_rfl) (by kernel_rfl) (by kernel_rfl) .i64 (by kernel_rfl) h f hs
  clear hs
  go_enter Try.func34, Try.ntmps34
  go_wp2_with fail
  go_ret
  exact ⟨rfl, rfl⟩

section
variable {w : World} {b : Nat} {c : CM}
theorem CacheAt.cell (h : CacheAt w b c) (i : Nat) : w.cell? ⟨b, i, none⟩ = (cacheCells c)[i]? := cell_block h i
theorem CacheAt.set (h : CacheAt w b c) (i : Nat) (v : Value) (c' : CM) (hc : (cacheCells c).setIfInBounds i v = cacheCells c') : CacheAt (w.setCell ⟨b, i, none⟩ v) b c' := by
  unfold CacheAt
  rw [setCell_block h, hc]

/-- Flush of a cache -/
theorem flush_any (h : CacheAt w b c) : Calls Try.prog 19 #[.pointer (some ⟨b, 0, none⟩)] w fun e w' => e = .returned (.tuple #[]) ∧ w' = w.setCell ⟨b, 1, none⟩ (.pointer none) ∧ CacheAt w' b { c with tree := none } := by
  have c0 := h.cell 0
  have c1 := h.cell 1
  have f1 := frozen_block h 1
  simp [cacheCells] at c0 c1
  go_enter Try.func19, Try.ntmps19
  go_wp2_with fail
  refine (real_any w b 1 c0).mono ?_
  rintro e w' ⟨rfl, rfl⟩
  simp only [decide_true]
  go_wp2_with fail
  go_end0
  exact ⟨rfl, rfl, h.set 1 _ _ rfl⟩
theorem flush_nil (w : World) : Calls Try.prog 19 #[.pointer none] w fun e w' => e = .returned (.tuple #[]) ∧ w' = w := by
  go_enter Try.func19, Try.ntmps19
  go_wp2_with fail
  refine (real_nil w).mono ?_
  rintro e w' ⟨rfl, rfl⟩
  simp only
  go_wp2_with fail
  go_end0
  exact ⟨rfl, rfl⟩
theorem flush_un (hm : w.cell? ⟨b, 0, none⟩ = some (.int .i64 0)) : Calls Try.prog 19 #[.pointer (some ⟨b, 0, none⟩)] w fun e w' => e = .returned (.tuple #[]) ∧ w' = w := by
  go_enter Try.func19, Try.ntmps19
  go_wp2_with fail
  refine (real_any w b 0 hm).mono ?_
  rintro e w' ⟨rfl, rfl⟩
  simp only [show decide ((0 : Int) = 1) = false from rfl]
  go_wp2_with fail
  go_end0
  exact ⟨rfl, rfl⟩

/-- Asked -/
theorem asked_nil (w : World) : Calls Try.prog 23 #[.pointer none] w fun e w' => e = .returned (.tuple #[.int .i64 0, .int .i64 0]) ∧ w' = w := by
  go_enter Try.func23, Try.ntmps23
  go_wp2_with fail
  refine (real_nil w).mono ?_
  rintro e w' ⟨rfl, rfl⟩
  simp only
  go_wp2_with fail
  go_ret2
  exact ⟨rfl, rfl⟩
theorem asked_un (hm : w.cell? ⟨b, 0, none⟩ = some (.int .i64 0)) : Calls Try.prog 23 #[.pointer (some ⟨b, 0, none⟩)] w fun e w' => e = .returned (.tuple #[.int .i64 0, .int .i64 0]) ∧ w' = w := by
  go_enter Try.func23, Try.ntmps23
  go_wp2_with fail
  refine (real_any w b 0 hm).mono ?_
  rintro e w' ⟨rfl, rfl⟩
  simp only [show decide ((0 : Int) = 1) = false from rfl]
  go_wp2_with fail
  go_ret2
  exact ⟨rfl, rfl⟩
theorem asked_any (h : CacheAt w b c) : Calls Try.prog 23 #[.pointer (some ⟨b, 0, none⟩)] w fun e w' => e = .returned (.tuple #[.int .i64 c.hits, .int .i64 c.miss]) ∧ w' = w.drew := by
  have c0 := h.cell 0
  have c8 := h.cell 8
  have c9 := h.cell 9
  simp [cacheCells] at c0 c8 c9
  go_enter Try.func23, Try.ntmps23
  go_wp2_with fail
  refine (real_any w b 1 c0).mono ?_
  rintro e w' ⟨rfl, rfl⟩
  simp only [decide_true]
  go_wp2_with fail
  refine wp_region_lin (fun w' => w' = w.drew) [9] (.block 0 (.block 1 (.block 2 (.block 4 (.block 5 (.block 6 (.scope (.seq (.label 3) (.scope (.seq (.label 7) (.block 8 (.loop (.block 9 (.skip)))))))))))))) (by kernel_rfl) (by kernel_rfl) (by kernel_rfl) (by kernel_rfl) (by kernel_rfl) rfl ?_
  repeat
    (refine lin_light (A1 := ?_) rfl rfl rfl rfl rfl (fun w' hS K hK => ?_) ?_ ?_
     rotate_left
     · obtain rfl := hS; go_step; exact hK
     · rfl)
  refine lin_group ?_
  refine lin_heavy rfl rfl (fun K hK => ?_)
  go_step
  refine (load_any w.drew b 8 _ c8).mono ?_
  rintro e w' ⟨rfl, rfl⟩
  simp only
  refine hK.out _ _ rfl ?_
  clear hK K
  refine lin_group ?_
  refine lin_heavy rfl rfl (fun K hK => ?_)
  go_step
  refine (load_any w.drew b 9 _ c9).mono ?_
  rintro e w' ⟨rfl, rfl⟩
  simp only
  refine hK.out _ _ rfl ?_
  clear hK K
  repeat
    (refine lin_light (A1 := ?_) rfl rfl rfl rfl rfl (fun w' hS K hK => ?_) ?_ ?_
     rotate_left
     · obtain rfl := hS; go_step; exact hK
     · rfl)
  try refine lin_late ?_
  repeat
    (refine lin_light (A1 := ?_) rfl rfl rfl rfl rfl (fun w' hS K hK => ?_) ?_ ?_
     rotate_left
     · clear hS; go_step; exact hK
     · rfl)
  refine lin_end ?_
  go_wp2_with fail
  go_ret2
  exact ⟨rfl, rfl⟩
end
end Go.Proofs.Ytopepkcmpogdoaa
