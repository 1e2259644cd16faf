/- The rules of the kinds. -/
import Derived.Test.YtgnpgdjjdhlhaaaDoorTOps
import Derived.Deep.WholeRow
import Derived.Great.BuildSlice
namespace Go.Proofs.YtgnpgdjjdhlhaaaDoor
open Go.RowKit
set_option maxHeartbeats 4000000
set_option maxRecDepth 100000

def rulesL : List (ByteArray × ByteArray) := [
  (⟨#[]⟩, ⟨#[]⟩),
  (⟨#[]⟩, ⟨#[]⟩),
  (⟨#[]⟩, ⟨#[]⟩),
  (⟨#[]⟩, ⟨#[]⟩),
  (⟨#[]⟩, ⟨#[]⟩),
  (⟨#[]⟩, ⟨#[]⟩),
  (⟨#[110, 97, 109, 101]⟩, ⟨#[]⟩),
  (⟨#[]⟩, ⟨#[]⟩),
  (⟨#[]⟩, ⟨#[97, 42]⟩),
  (⟨#[]⟩, ⟨#[112, 42]⟩),
  (⟨#[]⟩, ⟨#[107, 101]⟩),
  (⟨#[]⟩, ⟨#[107, 71]⟩),
  (⟨#[]⟩, ⟨#[107, 83]⟩),
  (⟨#[109, 97, 121, 98, 101]⟩, ⟨#[80, 66]⟩),
  (⟨#[]⟩, ⟨#[80, 65]⟩),
  (⟨#[]⟩, ⟨#[101, 97, 42]⟩),
  (⟨#[]⟩, ⟨#[101, 97, 42]⟩),
  (⟨#[119, 111, 114, 100]⟩, ⟨#[101]⟩),
  (⟨#[]⟩, ⟨#[101, 101]⟩),
  (⟨#[111, 112]⟩, ⟨#[101]⟩),
  (⟨#[111, 112]⟩, ⟨#[116]⟩),
  (⟨#[111, 112]⟩, ⟨#[116]⟩),
  (⟨#[111, 112]⟩, ⟨#[101, 101]⟩),
  (⟨#[]⟩, ⟨#[101, 101]⟩),
  (⟨#[]⟩, ⟨#[101, 101]⟩),
  (⟨#[]⟩, ⟨#[101, 101, 101]⟩),
  (⟨#[111, 112]⟩, ⟨#[116, 101]⟩),
  (⟨#[]⟩, ⟨#[101, 101, 101, 42]⟩),
  (⟨#[]⟩, ⟨#[84]⟩),
  (⟨#[]⟩, ⟨#[101]⟩),
  (⟨#[]⟩, ⟨#[110, 42, 114, 63]⟩),
  (⟨#[110, 97, 109, 101]⟩, ⟨#[]⟩),
  (⟨#[]⟩, ⟨#[115, 42]⟩),
  (⟨#[]⟩, ⟨#[105, 105, 42]⟩),
  (⟨#[]⟩, ⟨#[105, 105, 42]⟩),
  (⟨#[110, 97, 109, 101]⟩, ⟨#[101, 63]⟩),
  (⟨#[]⟩, ⟨#[]⟩),
  (⟨#[]⟩, ⟨#[101]⟩),
  (⟨#[]⟩, ⟨#[101, 98, 98, 63]⟩),
  (⟨#[]⟩, ⟨#[102, 109, 109, 98]⟩),
  (⟨#[]⟩, ⟨#[104, 101, 98]⟩),
  (⟨#[]⟩, ⟨#[104, 101, 98]⟩),
  (⟨#[]⟩, ⟨#[101, 98]⟩),
  (⟨#[]⟩, ⟨#[98, 101]⟩),
  (⟨#[109, 97, 121, 98, 101]⟩, ⟨#[]⟩),
  (⟨#[109, 97, 121, 98, 101]⟩, ⟨#[]⟩),
  (⟨#[]⟩, ⟨#[101, 63]⟩),
  (⟨#[]⟩, ⟨#[101]⟩),
  (⟨#[109, 97, 121, 98, 101]⟩, ⟨#[66, 78, 78]⟩),
  (⟨#[]⟩, ⟨#[101, 99, 42]⟩),
  (⟨#[]⟩, ⟨#[101, 115, 42]⟩),
  (⟨#[]⟩, ⟨#[115, 42]⟩),
  (⟨#[110, 97, 109, 101]⟩, ⟨#[98]⟩),
  (⟨#[110, 97, 109, 101]⟩, ⟨#[80, 66]⟩),
  (⟨#[]⟩, ⟨#[]⟩),
  (⟨#[]⟩, ⟨#[115, 42]⟩),
  (⟨#[]⟩, ⟨#[101]⟩)]
theorem Tryd.infoRules : (Tryd.prog.info? 51).map (fun i => (i.zero, i.size)) = some (some (.agg (Array.replicate 114 (Value.string ⟨#[]⟩))), 114) := by kernel_rfl
/-- the rules as cells -/
def rulesC : Array Value := (rulesL.flatMap fun p => [Value.string p.1, Value.string p.2]).toArray
theorem rulesC_size : rulesC.size = 114 := by kernel_rfl
theorem results_cell {P : Program} {fn : Func} {t : Tmp} {ty : TypeId} (h : fn.results = #[.cell t ty]) (tmps : Array Value) (a : Addr) (ha : tmps.getD t undef = .pointer (some a)) (v : Value) (w : World)
    (hl : (loadVar ty a).run P w = .ok v w) : (results fn tmps).run P w = .ok v w := by
  have ha' : tmps[t]?.getD undef = .pointer (some a) := by simpa using ha
  simp [results, h, ha', asAddr, hl]
theorem rules_ret (w : World) (chain : Array Value) (tmps : Array Value) (h0 : tmps.getD 0 undef = .pointer (some ⟨w.heap.size, 0, none⟩)) (hc : chain = rulesC) :
    bodyPost Tryd.prog Tryd.f20 (fun e w' => e = .returned (.agg rulesC) ∧ Below w.heap.size w w') .ret { tmps := tmps, defers := [] } (w.alloc (.cells chain 51)) := by
  subst hc
  refine bodyPost_ret (v := .agg rulesC) ?_ rfl ⟨rfl, (Below.refl _ _).alloc (Nat.le_refl _) _⟩
  have hl := run_loadVar_new (P := Tryd.prog) w 51 rulesC 57 50 Tryd.underlying51 (by rw [rulesC_size]; kernel_rfl)
  exact results_cell Tryd.results20 tmps _ h0 _ _ hl
theorem rules_any (w : World) : Calls Tryd.prog 20 #[] w fun e w' => e = .returned (.agg rulesC) ∧ Below w.heap.size w w' := by
  obtain ⟨hz, hsz⟩ := zero_of_info Tryd.infoRules
  go_enter Tryd.func20, Tryd.ntmps20
  go_wp2_with (refine wpList_buildTo rfl 51 _ rfl (some 57) rfl rulesC (by kernel_rfl) ?_; refine wpList_store_row rfl 51 _ _ rfl w.heap.size rulesC rfl rfl 51 (Array.replicate 114 (Value.string ⟨#[]⟩)) (heap_alloc_last w _) (by rw [rulesC_size]; exact hsz) (by rw [rulesC_size]; rfl) (by kernel_rfl) ?_; rw [World.setRow_alloc_new])
  exact rules_ret w _ _ rfl rfl
end Go.Proofs.YtgnpgdjjdhlhaaaDoor
