/- The walks of lintelref01: Units, Make, Point, point, Of, Ascii, Compare. -/
import Derived.Test.YthmdlnmbjgokaaaDoorMem
import Derived.Test.YthmdlnmbjgokaaaDoorLin
namespace Go.Proofs.YthmdlnmbjgokaaaDoor
open Go.RowKit
set_option maxHeartbeats 400000
set_option maxRecDepth 100000

/-- unit number k of a text's bytes -/
def unitAt (s : ByteArray) (k : Nat) : Int := (s[2 * k]?.getD 0).toNat * 256 + (s[2 * k + 1]?.getD 0).toNat
def unitsTo (s : ByteArray) (k : Nat) : List Int := (List.range k).map (unitAt s)
theorem unitsTo_succ (s : ByteArray) (k : Nat) : unitsTo s (k + 1) = unitsTo s k ++ [unitAt s k] := by
  unfold unitsTo; rw [List.range_succ, List.map_append]; rfl
theorem unitsTo_length (s : ByteArray) (k : Nat) : (unitsTo s k).length = k := by simp [unitsTo]

theorem Tryd.info_u16 : (Tryd.prog.info? 54).map (fun i => (i.zero, i.size, i.bytes)) = some (some (.int .u16 0), 1, 2) := by kernel_rfl

theorem units_any (s : ByteArray) (w : World) (hs : s.size ≤ 1048576) :
    Calls Tryd.prog 24 #[.string s] w fun e w' => ∃ v, e = .returned v ∧ w'.ownsRow w.heap.size 54 1 v (s.size / 2) ((unitsTo s (s.size / 2)).map (Value.int .u16)) ∧ Below w.heap.size w w' := by
  obtain ⟨i0, hi, hz0, hz1, hz2⟩ := info_parts Tryd.info_u16
  go_enter Tryd.func24, Tryd.ntmps24
  go_wp2_with fail
  go_loopw [3, 4] (fun v i wr => ∃ k : Nat, 2 * k ≤ s.size ∧ i = .int .i64 (2 * k : Int) ∧ wr.ownsRow w.heap.size 54 1 v k ((unitsTo s k).map (Value.int .u16)) ∧ Below w.heap.size w wr)
    (fun _ i _ => s.size - (intOf i).toNat)
  case atStart => exact ⟨0, by omega, by simp, World.ownsRow_nil _ _ _ _, Below.refl _ _⟩
  case round =>
    obtain ⟨k, hk, rfl, hown, hb⟩ := hrel
    by_cases hlt : 2 * k + 1 < s.size
    · have i1 := run_index_str (P := Tryd.prog) Tryd.underlying22 s (2 * (k : Int)) (2 * k) (by simp) (by omega)
      have i2 := run_index_str (P := Tryd.prog) Tryd.underlying22 s (2 * (k : Int) + 1) (2 * k + 1) (by simp) (by omega)
      obtain ⟨x, hx⟩ : ∃ x : Nat, x = (s[2 * k]?.getD 0).toNat := ⟨_, rfl⟩
      obtain ⟨y, hy⟩ : ∃ y : Nat, y = (s[2 * k + 1]?.getD 0).toNat := ⟨_, rfl⟩
      have hx2 : (x : Int) < 256 := by have := UInt8.toNat_lt (s[2 * k]?.getD 0); omega
      have hy2 : (y : Int) < 256 := by have := UInt8.toNat_lt (s[2 * k + 1]?.getD 0); omega
      have hU : unitAt s k = x * 256 + y := by unfold unitAt; rw [hx, hy]
      rw [← hx] at i1
      rw [← hy] at i2
      have HU := Lib.hid hU
      clear hx hy hU
      go_wp2_with fail
      refine wp_region_lin (fun _ => True) [14] (.block 0 (.block 1 (.block 2 (.block 3 (.block 4 (.block 5 (.block 6 (.block 7 (.block 8 (.block 9 (.block 10 (.block 11 (.scope (.seq (.label 12) (.scope (.seq (.label 13) (.loop (.block 14 (.skip))))))))))))))))))) (by kernel_rfl) (by kernel_rfl) (by kernel_rfl) (by kernel_rfl) (by kernel_rfl) trivial ?_
      repeat
        (refine lin_light (A1 := ?_) rfl rfl rfl rfl rfl (fun w' hS K hK => ?_) ?_ ?_
         rotate_left
         · clear hS; go_step; exact hK
         · rfl)
      refine lin_group ?_
      refine lin_heavy rfl rfl (fun K hK => ?_)
      go_step
      refine hK.out _ _ trivial ?_
      clear hK K
      refine lin_group ?_
      refine lin_heavy rfl rfl (fun K hK => ?_)
      refine wp_append_lies _ _ _ _ rfl w.heap.size 54 i0 _ 1 2 Tryd.underlying33 hi hz0 hz1 hz2 rfl (by omega) _ k _ rfl ((hown.alloc _).drew) ⟨wr.heap.size, 0, none⟩ 1 1 [.int .u16 (x * 256 + y)] rfl rfl
        (World.news_of_block (cs := #[.int .u16 (x * 256 + y)]) (t := 54) (fr := (0, 0)) (heap_alloc_new wr _)) (by simp [Value.oneCell']) (by omega) (by unfold maxLen; omega) (by omega) (by have := hb.size; simp; omega) (wr.heap.size + 1) (by simp) ?_
      intro g cap w1 hown1 hgrow hat hlt2
      refine hK.out _ _ trivial ?_
      clear hK K
      simp only [Act.put, List.setIfInBounds_toArray, List.set_cons_zero, List.set_cons_succ]
      try refine lin_late ?_
      repeat
        (refine lin_light (A1 := ?_) rfl rfl rfl rfl rfl (fun w' hS K hK => ?_) ?_ ?_
         rotate_left
         · clear hS; go_step; exact hK
         · rfl)
      refine lin_end ?_
      go_wp2_with fail
      go_roundw
      case rel =>
        refine ⟨k + 1, by omega, by go_num, ?_, ?_⟩
        · rw [unitsTo_succ, List.map_append, HU.out]
          exact hown1
        · exact (hb.alloc hb.size _).drew.grown hgrow (by have := hb.size; simp; omega) (fun j hj => (hown.lt j hj).1)
      case measure => simp [intOf]; omega
    · go_wp2_with fail
      go_ret
      have e : k = s.size / 2 := by omega
      subst e
      exact ⟨_, rfl, hown, hb⟩
end Go.Proofs.YthmdlnmbjgokaaaDoor
