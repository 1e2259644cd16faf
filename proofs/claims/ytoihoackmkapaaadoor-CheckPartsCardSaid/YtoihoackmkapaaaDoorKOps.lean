/- The walk of code.ops. -/
import Derived.Test.YtoihoackmkapaaaDoorKTab
import Derived.Test.YtoihoackmkapaaaDoorMem
import Derived.Deep.WholeRow
import Derived.Great.BuildSlice
namespace Go.Proofs.YtoihoackmkapaaaDoor
open Go.RowKit
set_option maxHeartbeats 4000000
set_option maxRecDepth 100000

theorem Tryd.infoOps : (Tryd.prog.info? 88).map (fun i => (i.zero, i.size)) = some (some (.agg (Array.replicate 98 (Value.string ⟨#[]⟩))), 98) := by kernel_rfl
/-- the table as cells -/
def tabC : Array Value := (tab.flatMap fun p => [Value.string p.1, Value.string p.2]).toArray
theorem tabC_size : tabC.size = 98 := by kernel_rfl
theorem results_cell {P : Program} {fn : Func} {t : Tmp} {ty : TypeId} (h : fn.results = #[.cell t ty]) (tmps : Array Value) (a : Addr) (ha : tmps.getD t undef = .pointer (some a)) (v : Value) (w : World)
    (hl : (loadVar ty a).run P w = .ok v w) : (results fn tmps).run P w = .ok v w := by
  have ha' : tmps[t]?.getD undef = .pointer (some a) := by simpa using ha
  simp [results, h, ha', asAddr, hl]
theorem ops_ret (w : World) (chain : Array Value) (tmps : Array Value) (h0 : tmps.getD 0 undef = .pointer (some ⟨w.heap.size, 0, none⟩)) (hc : chain = tabC) :
    bodyPost Tryd.prog Tryd.f46 (fun e w' => e = .returned (.agg tabC) ∧ Below w.heap.size w w') .ret { tmps := tmps, defers := [] } (w.alloc (.cells chain 88)) := by
  subst hc
  refine bodyPost_ret (v := .agg tabC) ?_ rfl ⟨rfl, (Below.refl _ _).alloc (Nat.le_refl _) _⟩
  have hl := run_loadVar_new (P := Tryd.prog) w 88 tabC 49 85 Tryd.underlying88 (by rw [tabC_size]; kernel_rfl)
  exact results_cell Tryd.results46 tmps _ h0 _ _ hl
theorem ops_any (w : World) : Calls Tryd.prog 46 #[] w fun e w' => e = .returned (.agg tabC) ∧ Below w.heap.size w w' := by
  obtain ⟨hz, hsz⟩ := zero_of_info Tryd.infoOps
  go_enter Tryd.func46, Tryd.ntmps46
  go_wp2_with (refine wpList_buildTo rfl 88 _ rfl (some 50) rfl tabC (by kernel_rfl) ?_; refine wpList_store_row rfl 88 _ _ rfl w.heap.size tabC rfl rfl 88 (Array.replicate 98 (Value.string ⟨#[]⟩)) (heap_alloc_last w _) (by rw [tabC_size]; exact hsz) (by rw [tabC_size]; rfl) (by kernel_rfl) ?_; rw [World.setRow_alloc_new])
  exact ops_ret w _ _ rfl rfl
end Go.Proofs.YtoihoackmkapaaaDoor
