/- lintellaw12.awake. -/
import Derived.Test.YtoihoackmkapaaaDoorKReach
import Derived.Test.YtoihoackmkapaaaDoorKCheck
import Derived.Test.YtoihoackmkapaaaDoorKRefCheck
namespace Go.Proofs.YtoihoackmkapaaaDoor
open Go.RowKit
set_option maxHeartbeats 4000000
set_option maxRecDepth 100000
attribute [local go_sem] Oper.semAt_some

abbrev fA (b : Nat) : FnT := { name := ⟨#[]⟩, params := 0, rest := false, arrow := false, regs := 1, consts := [], code := [(0, 0, 0, 0, 0), (34, 0, 0, 0, 0)], tries := [], caps := [], cA := none, cC := 0, kA := some ⟨b, 0, none⟩, kC := 2, tA := none, tC := 0, uA := none, uC := 0 }
abbrev fB (b : Nat) : FnT := { name := ⟨#[]⟩, params := 0, rest := false, arrow := false, regs := 1, consts := [], code := [(0, 0, 0, 0, 0)], tries := [], caps := [], cA := none, cC := 0, kA := some ⟨b, 0, none⟩, kC := 2, tA := none, tC := 0, uA := none, uC := 0 }
theorem chA (b : Nat) : checkR [fA b] 1 = #[.int .i64 0, .int .i64 0, .int .i64 0] := by
  have h : chkM (chkF [fA b] 1) 1 0 = none := by kernel_rfl
  unfold checkR
  rw [if_neg (by decide), h]
  rfl
theorem chB (b : Nat) : checkR [fB b] 1 = #[.int .i64 0, .int .i64 0, .int .i64 120] := by
  have h : chkM (chkF [fB b] 1) 1 0 = some (0, 0) := by kernel_rfl
  unfold checkR
  rw [if_neg (by decide), h]
  rfl
theorem rcB (b : Nat) (l : List Bool) (h : IsRc 1 (succs (fB b)) l) : l = [true] := by
  refine h.eq ⟨rfl, fun k => ⟨fun hk => ?_, fun hk => ?_⟩⟩
  · cases k with
    | zero => exact .zero (by decide)
    | succ k => simp at hk
  · have := hk.lt
    obtain rfl : k = 0 := by omega
    rfl
theorem Row.nil {w : World} {B sz : Nat} {A : Option Addr} : Row w B A sz [] := fun k r h => by simp at h
theorem small_of {f : FnT} (h : fewF f ≤ 1000) : Small f := by
  unfold fewF at h
  exact ⟨by omega, by omega, by omega, by omega⟩
theorem fnA_in {w : World} {B b : Nat} (hb : b < B) (h : w.heap[b]? = some (.cells #[.int .i64 0, .int .i64 0, .int .i64 0, .int .i64 0, .int .i64 0, .int .i64 34, .int .i64 0, .int .i64 0, .int .i64 0, .int .i64 0] 50 (0, 0))) : FnIn w B (fA b) where
  cr := Row.nil
  kr := fun k r hr => by
    match k, hr with
    | 0, hr =>
      cases hr
      refine ⟨b, 0, rfl, hb, fun j u hu => ?_⟩
      rw [cell_blockK h]
      match j, hu with
      | 0, hu => exact hu
      | 1, hu => exact hu
      | 2, hu => exact hu
      | 3, hu => exact hu
      | 4, hu => exact hu
      | j + 5, hu => simp [insC] at hu
    | 1, hr =>
      cases hr
      refine ⟨b, 0, rfl, hb, fun j u hu => ?_⟩
      rw [cell_blockK h]
      match j, hu with
      | 0, hu => exact hu
      | 1, hu => exact hu
      | 2, hu => exact hu
      | 3, hu => exact hu
      | 4, hu => exact hu
      | j + 5, hu => simp [insC] at hu
    | k + 2, hr => simp at hr
  tr := Row.nil
  ur := Row.nil
  tc := Nat.le_refl _
  rg := by show (1 : Int) ≤ _; decide
  pl := by show (-9223372036854775808 : Int) ≤ 0 ∧ (0 : Int) ≤ _; decide
theorem fnB_in {w : World} {B b : Nat} (h : FnIn w B (fA b)) : FnIn w B (fB b) where
  cr := Row.nil
  kr := fun k r hr => by
    match k, hr with
    | 0, hr => exact h.kr 0 r hr
    | k + 1, hr => simp at hr
  tr := Row.nil
  ur := Row.nil
  tc := Nat.le_refl _
  rg := by show (1 : Int) ≤ _; decide
  pl := by show (-9223372036854775808 : Int) ≤ 0 ∧ (0 : Int) ≤ _; decide
theorem mod_one {w : World} {B b : Nat} {f : FnT} (hf : FnIn w B f) (hb : b < B) (h : w.heap[b]? = some (.cells (fnC f).toArray 38 (0, 0))) : ModIn w B (some ⟨b, 0, none⟩) [f] where
  rows := fun k r hr => by
    match k, hr with
    | 0, hr =>
      cases hr
      refine ⟨b, 0, rfl, hb, fun j u hu => ?_⟩
      rw [cell_blockK h, Nat.zero_mul, Nat.zero_add]
      simpa using hu
    | k + 1, hr => simp at hr
  each := fun g hg => by
    obtain rfl := List.mem_singleton.1 hg
    exact hf

theorem awake_any (w : World) (hT : Tb w) :
    Calls Tryd.prog 7 #[] w fun e w' => e = .returned (.bool true) ∧ Below w.heap.size w w' := by
  go_enter Tryd.func7, Tryd.ntmps7
  go_wp2_with fail
  have e1 : (w.alloc (.cells #[.int .i64 0, .int .i64 0, .int .i64 0, .int .i64 0, .int .i64 0, .int .i64 34, .int .i64 0, .int .i64 0, .int .i64 0, .int .i64 0] 50)).heap.size = w.heap.size + 1 := by simp
  have e2 : ((w.alloc (.cells #[.int .i64 0, .int .i64 0, .int .i64 0, .int .i64 0, .int .i64 0, .int .i64 34, .int .i64 0, .int .i64 0, .int .i64 0, .int .i64 0] 50)).alloc (.cells #[.string ⟨#[]⟩, .int .i64 0, .bool false, .bool false, .int .i64 1, .slice none 0 0, .slice (some ⟨w.heap.size, 0, none⟩) 2 2, .slice none 0 0, .slice none 0 0] 38)).heap.size = w.heap.size + 1 + 1 := by simp
  have k0 : (((w.alloc (.cells #[.int .i64 0, .int .i64 0, .int .i64 0, .int .i64 0, .int .i64 0, .int .i64 34, .int .i64 0, .int .i64 0, .int .i64 0, .int .i64 0] 50)).alloc (.cells #[.string ⟨#[]⟩, .int .i64 0, .bool false, .bool false, .int .i64 1, .slice none 0 0, .slice (some ⟨w.heap.size, 0, none⟩) 2 2, .slice none 0 0, .slice none 0 0] 38)).alloc (.cells #[.string ⟨#[]⟩, .int .i64 0, .bool false, .bool false, .int .i64 1, .slice none 0 0, .slice (some ⟨w.heap.size, 0, none⟩) 2 2, .slice none 0 0, .slice none 0 0] 38)).heap[w.heap.size]? = some (.cells #[.int .i64 0, .int .i64 0, .int .i64 0, .int .i64 0, .int .i64 0, .int .i64 34, .int .i64 0, .int .i64 0, .int .i64 0, .int .i64 0] 50 (0, 0)) := by
    rw [Lib.alloc_old _ _ _ (by rw [e2]; omega), Lib.alloc_old _ _ _ (by rw [e1]; omega)]
    exact heap_alloc_new w _
  have k1 : (((w.alloc (.cells #[.int .i64 0, .int .i64 0, .int .i64 0, .int .i64 0, .int .i64 0, .int .i64 34, .int .i64 0, .int .i64 0, .int .i64 0, .int .i64 0] 50)).alloc (.cells #[.string ⟨#[]⟩, .int .i64 0, .bool false, .bool false, .int .i64 1, .slice none 0 0, .slice (some ⟨w.heap.size, 0, none⟩) 2 2, .slice none 0 0, .slice none 0 0] 38)).alloc (.cells #[.string ⟨#[]⟩, .int .i64 0, .bool false, .bool false, .int .i64 1, .slice none 0 0, .slice (some ⟨w.heap.size, 0, none⟩) 2 2, .slice none 0 0, .slice none 0 0] 38)).heap[w.heap.size + 1]? = some (.cells #[.string ⟨#[]⟩, .int .i64 0, .bool false, .bool false, .int .i64 1, .slice none 0 0, .slice (some ⟨w.heap.size, 0, none⟩) 2 2, .slice none 0 0, .slice none 0 0] 38 (0, 0)) := by
    rw [Lib.alloc_old _ _ _ (by rw [e2]; omega), ← e1]
    exact heap_alloc_new _ _
  have k2 : (((w.alloc (.cells #[.int .i64 0, .int .i64 0, .int .i64 0, .int .i64 0, .int .i64 0, .int .i64 34, .int .i64 0, .int .i64 0, .int .i64 0, .int .i64 0] 50)).alloc (.cells #[.string ⟨#[]⟩, .int .i64 0, .bool false, .bool false, .int .i64 1, .slice none 0 0, .slice (some ⟨w.heap.size, 0, none⟩) 2 2, .slice none 0 0, .slice none 0 0] 38)).alloc (.cells #[.string ⟨#[]⟩, .int .i64 0, .bool false, .bool false, .int .i64 1, .slice none 0 0, .slice (some ⟨w.heap.size, 0, none⟩) 2 2, .slice none 0 0, .slice none 0 0] 38)).heap[w.heap.size + 1 + 1]? = some (.cells #[.string ⟨#[]⟩, .int .i64 0, .bool false, .bool false, .int .i64 1, .slice none 0 0, .slice (some ⟨w.heap.size, 0, none⟩) 2 2, .slice none 0 0, .slice none 0 0] 38 (0, 0)) := by
    rw [← e2]
    exact heap_alloc_new _ _
  have bA : Below w.heap.size w (((w.alloc (.cells #[.int .i64 0, .int .i64 0, .int .i64 0, .int .i64 0, .int .i64 0, .int .i64 34, .int .i64 0, .int .i64 0, .int .i64 0, .int .i64 0] 50)).alloc (.cells #[.string ⟨#[]⟩, .int .i64 0, .bool false, .bool false, .int .i64 1, .slice none 0 0, .slice (some ⟨w.heap.size, 0, none⟩) 2 2, .slice none 0 0, .slice none 0 0] 38)).alloc (.cells #[.string ⟨#[]⟩, .int .i64 0, .bool false, .bool false, .int .i64 1, .slice none 0 0, .slice (some ⟨w.heap.size, 0, none⟩) 2 2, .slice none 0 0, .slice none 0 0] 38)) := (((Below.refl _ _).alloc (Nat.le_refl _) _).alloc (by rw [e1]; omega) _).alloc (by rw [e2]; omega) _
  clear e1 e2
  obtain ⟨wA, hwA⟩ : ∃ wA, (((w.alloc (.cells #[.int .i64 0, .int .i64 0, .int .i64 0, .int .i64 0, .int .i64 0, .int .i64 34, .int .i64 0, .int .i64 0, .int .i64 0, .int .i64 0] 50)).alloc (.cells #[.string ⟨#[]⟩, .int .i64 0, .bool false, .bool false, .int .i64 1, .slice none 0 0, .slice (some ⟨w.heap.size, 0, none⟩) 2 2, .slice none 0 0, .slice none 0 0] 38)).alloc (.cells #[.string ⟨#[]⟩, .int .i64 0, .bool false, .bool false, .int .i64 1, .slice none 0 0, .slice (some ⟨w.heap.size, 0, none⟩) 2 2, .slice none 0 0, .slice none 0 0] 38)) = wA := ⟨_, rfl⟩
  rw [hwA] at k0 k1 k2 bA ⊢
  clear hwA
  have l2 := (Array.getElem?_eq_some_iff.1 k2).1
  have fin := fnA_in (B := wA.heap.size) (by omega) k0
  refine (check_any (A := some ⟨w.heap.size + 1 + 1, 0, none⟩) (fns := [fA w.heap.size]) (m := 1) (mod_one fin l2 k2) rfl (hT.below bA (Nat.le_refl _)) (by omega) (by intro f hf; obtain rfl := List.mem_singleton.1 hf; exact small_of (by simp [fewF]))).mono ?_
  rintro e w1 ⟨rfl, b1⟩
  rw [chA]
  have fin1 := fin.below b1 (B' := w1.heap.size) b1.size
  replace k1 := (b1.block _ (by omega)).trans k1
  have s1 := b1.size
  have c6 := cell_blockK k1 6
  have z6 := frozen_blockK k1 6
  have kB := setCell_blockK (i := 6) k1 (.slice (some ⟨w.heap.size, 0, none⟩) 1 2)
  have bB : Below (w.heap.size + 1) w1 (w1.setCell ⟨w.heap.size + 1, 6, none⟩ (.slice (some ⟨w.heap.size, 0, none⟩) 1 2)) := (Below.refl _ _).setCell (p := ⟨w.heap.size + 1, 6, none⟩) (Nat.le_refl _) _
  have sB : wA.heap.size ≤ (w1.setCell ⟨w.heap.size + 1, 6, none⟩ (.slice (some ⟨w.heap.size, 0, none⟩) 1 2)).heap.size := by simp; omega
  obtain ⟨wB, hwB⟩ : ∃ wB, w1.setCell ⟨w.heap.size + 1, 6, none⟩ (.slice (some ⟨w.heap.size, 0, none⟩) 1 2) = wB := ⟨_, rfl⟩
  rw [hwB] at kB bB sB
  have finB := fnB_in (fnA_in (B := wB.heap.size) (by omega) ((bB.block w.heap.size (by omega)).trans ((b1.block w.heap.size (by omega)).trans k0)))
  have bwB : Below w.heap.size w wB := (bA.trans (b1.mono (by omega))).trans (bB.mono (by omega))
  have d0 := cell_blockK kB 0
  have d1 := cell_blockK kB 1
  have d2 := cell_blockK kB 2
  have d3 := cell_blockK kB 3
  have d4 := cell_blockK kB 4
  have d5 := cell_blockK kB 5
  have d6 := cell_blockK kB 6
  have d7 := cell_blockK kB 7
  have d8 := cell_blockK kB 8
  simp at c6 d0 d1 d2 d3 d4 d5 d6 d7 d8
  have kC : (wB.alloc (.cells #[.string ⟨#[]⟩, .int .i64 0, .bool false, .bool false, .int .i64 1, .slice none 0 0, .slice (some ⟨w.heap.size, 0, none⟩) 1 2, .slice none 0 0, .slice none 0 0] 38)).heap[wB.heap.size]? = some (.cells #[.string ⟨#[]⟩, .int .i64 0, .bool false, .bool false, .int .i64 1, .slice none 0 0, .slice (some ⟨w.heap.size, 0, none⟩) 1 2, .slice none 0 0, .slice none 0 0] 38 (0, 0)) := heap_alloc_new _ _
  have bC : Below wB.heap.size wB (wB.alloc (.cells #[.string ⟨#[]⟩, .int .i64 0, .bool false, .bool false, .int .i64 1, .slice none 0 0, .slice (some ⟨w.heap.size, 0, none⟩) 1 2, .slice none 0 0, .slice none 0 0] 38)) := (Below.refl _ _).alloc (Nat.le_refl _) _
  have lC := (Array.getElem?_eq_some_iff.1 kC).1
  clear k0 k1 k2 fin fin1 b1 bA
  simp only
  go_wp2_with fail
  generalize wB.alloc (.cells #[.string ⟨#[]⟩, .int .i64 0, .bool false, .bool false, .int .i64 1, .slice none 0 0, .slice (some ⟨w.heap.size, 0, none⟩) 1 2, .slice none 0 0, .slice none 0 0] 38) = wC at kC bC lC ⊢
  have finC := finB.below bC (B' := wC.heap.size) bC.size
  refine (check_any (A := some ⟨wB.heap.size, 0, none⟩) (fns := [fB w.heap.size]) (m := 1) (mod_one finC lC kC) rfl (hT.below (bwB.trans (bC.mono bwB.size)) (Nat.le_refl _)) (by omega) (by intro f hf; obtain rfl := List.mem_singleton.1 hf; exact small_of (by simp [fewF]))).mono ?_
  rintro e w2 ⟨rfl, b2⟩
  rw [chB]
  have s2 := bC.size
  have kD := (b2.block _ (by omega)).trans ((bC.block _ (by omega)).trans kB)
  have bD := (bwB.trans (bC.mono bwB.size)).trans (b2.mono (by have := bwB.size; omega))
  have finD := finC.below b2 (B' := w2.heap.size) b2.size
  have sD := b2.size
  clear d0 d1 d2 d3 d4 d5 d6 d7 d8
  have d0 := cell_blockK kD 0
  have d1 := cell_blockK kD 1
  have d2 := cell_blockK kD 2
  have d3 := cell_blockK kD 3
  have d4 := cell_blockK kD 4
  have d5 := cell_blockK kD 5
  have d6 := cell_blockK kD 6
  have d7 := cell_blockK kD 7
  have d8 := cell_blockK kD 8
  simp at d0 d1 d2 d3 d4 d5 d6 d7 d8
  simp only
  go_wp2_with fail
  have hok : ∀ i ∈ (fB w.heap.size).code, okIns i := fun i hi => by
    obtain rfl := List.mem_singleton.1 hi
    intro k
    have : argAt (0, 0, 0, 0, 0) k = 0 := by unfold argAt; split <;> rfl
    rw [this]
    exact okI_nat (n := 0) (by omega)
  refine (reach_any (fB w.heap.size) finD (hT.below bD (Nat.le_refl _)) (small_of (by simp [fewF])) hok).mono ?_
  rintro e w3 ⟨x1, g1, rfl, _, _, _, b3⟩
  have s3 := b3.size
  have kE := (b3.block _ (by omega)).trans kD
  have bE := bD.trans (b3.mono bD.size)
  have finE := finD.below b3 (B' := w3.heap.size) b3.size
  clear d0 d1 d2 d3 d4 d5 d6 d7 d8
  have d0 := cell_blockK kE 0
  have d1 := cell_blockK kE 1
  have d2 := cell_blockK kE 2
  have d3 := cell_blockK kE 3
  have d4 := cell_blockK kE 4
  have d5 := cell_blockK kE 5
  have d6 := cell_blockK kE 6
  have d7 := cell_blockK kE 7
  have d8 := cell_blockK kE 8
  simp at d0 d1 d2 d3 d4 d5 d6 d7 d8
  simp only
  go_wp2_with fail
  refine (reach_any (fB w.heap.size) finE (hT.below bE (Nat.le_refl _)) (small_of (by simp [fewF])) hok).mono ?_
  rintro e w4 ⟨x2, g2, rfl, hrc, hh, _, b4⟩
  obtain rfl := rcB _ _ hrc
  have c0 := cell_blockK hh 0
  simp at c0
  simp only
  go_wp2_with fail
  go_ret
  exact ⟨rfl, bE.trans (b4.mono bE.size)⟩
end Go.Proofs.YtoihoackmkapaaaDoor
