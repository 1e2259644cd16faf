/- lintelref06.shape at 0 kids. -/
import Derived.Test.YtgnpgdjjdhlhaaaDoorTShapeD
namespace Go.Proofs.YtgnpgdjjdhlhaaaDoor
open Go.RowKit
set_option maxHeartbeats 40000000
set_option maxRecDepth 100000
attribute [local go_sem] Oper.semAt_some store_floatK
section
variable {w : World} {A : Option Addr} {n c f : Nat} {l : List Nd}
theorem shape_0 (hN : Nds w w.heap.size A l) (hn : l.length = n) {i : Nat} {x : Nd} (hx : l[i]? = some x) (hK : KidsOk l (i + 1)) (hqs : x.kids = []) (g9 : (x.kind == 9) = false) (g11 : (x.kind == 11) = false) (g12 : (x.kind == 12) = false)
    (hmore : MoreSays w A n c l f i x) :
    Calls Tryd.prog 15 #[.slice A n c, .int .i64 (i : Nat)] w fun e w' => ∃ v, e = .returned (.bool v) ∧ Below w.heap.size w w' ∧ (v = true → shQ l f x.kind x.kids x.text) := by
  have hs := hN.small.1
  rw [hn] at hs
  have hi2 : i < n := by rw [← hn]; exact (List.getElem?_eq_some_iff.1 hx).1
  have hxm := List.mem_of_getElem? hx
  have hkx := hN.small.2 x hxm
  have hin := hK i x (by omega) hx
  have y1 := heap_alloc_new w (.cells #[.int .i64 x.kind, .string x.text, .string x.str, .float .f64 x.num, .slice x.kA x.kids.length x.kC, .int .i64 x.at_] 39)
  have b1 : Below w.heap.size w (w.alloc (.cells #[.int .i64 x.kind, .string x.text, .string x.str, .float .f64 x.num, .slice x.kA x.kids.length x.kC, .int .i64 x.at_] 39)) := (Below.refl _ _).alloc (Nat.le_refl _) _
  have hkinds := fun w' (hb : Below w.heap.size w w') => kinds_any (w := w') (c := c) x (hN.below hb hb.size) hn ((hN.each x hxm).below hb hb.size) hkx (fun y hy => by have := hin y hy; omega)
  obtain ⟨b, off, rfl, hbl, d0, d1, d2, d3, d4, d5⟩ := hN.rows.nd hx
  obtain ⟨k, hk⟩ : ∃ k, x.kind = k := ⟨_, rfl⟩
  have hkl : (ksOf l x).length = x.kids.length := by unfold ksOf; rw [List.length_map]
  unfold nV at hkinds
  unfold MoreSays at hmore
  have hkn : x.kids.length = 0 := by rw [hqs]; rfl
  rw [hkn] at hkinds hmore hkl d4 y1 b1 hkx
  rw [hk] at hkinds hmore d0 y1 b1 g9 g11 g12 ⊢
  rw [hqs] at hmore ⊢
  have hks : ksOf l x = [] := by unfold ksOf; rw [hqs]; rfl
  rw [hks] at hkinds hmore hkl
  have HMORE := Lib.hid hmore
  have HKINDS := Lib.hid hkinds
  have HKL := Lib.hid hkl
  clear hx hn hin hK hk hkn hxm hN hqs hks hkl hmore hkinds 
  obtain ⟨w1, hw1⟩ : ∃ w1, w.alloc (.cells #[.int .i64 k, .string x.text, .string x.str, .float .f64 x.num, .slice x.kA 0 x.kC, .int .i64 x.at_] 39) = w1 := ⟨_, rfl⟩
  rw [hw1] at y1 b1
  have l1 := (Array.getElem?_eq_some_iff.1 y1).1
  have g0 := cell_blockK y1 0
  have g1 := cell_blockK y1 1
  have g2 := cell_blockK y1 2
  have g3 := cell_blockK y1 3
  have g4 := cell_blockK y1 4
  have g5 := cell_blockK y1 5
  simp at g0 g1 g2 g3 g4 g5
  go_enter Tryd.func15, Tryd.ntmps15
  go_wp2_with fail
  refine (HKINDS.out w1 b1).mono ?_
  rintro e w2 ⟨A', c', rfl, hr, hca, hb2⟩
  have f0 := (hb2.cell (World.block_lt_of_cell? _ _ g0)).trans g0
  have hbw : Below w.heap.size w w2 := b1.trans (hb2.mono b1.size)
  have HR := Lib.hid hr
  have HCA := Lib.hid hca
  obtain ⟨hmc, hA'⟩ := hca
  clear g0 g1 g2 g3 g4 g5 d0 d1 d2 d3 d4 d5 hw1
  clear hA' hr
  simp only
  go_wp2_with fail
  all_goals try
    (go_ret
     first
       | exact ⟨false, rfl, hbw, fun h => by cases h⟩
       | (refine ⟨_, rfl, hbw, fun h => .inl ?_⟩
          have hk := eq_of_beq ‹(k == _) = true›
          subst hk
          simp [sh1, List.map, okE_false, List.drop, *]
          done))
  all_goals first
    | (go_at_call 29; refine Calls.mono (key_ex _ _) ?_; rintro e w3 ⟨⟨rfl, hv⟩ | ⟨rfl, hv⟩, rfl⟩)
    | (go_at_call 30; refine Calls.mono (expr_ex _ _) ?_; rintro e w3 ⟨⟨rfl, hv⟩ | ⟨rfl, hv⟩, rfl⟩)
    | (go_at_call 31; refine Calls.mono (target_ex _ _) ?_; rintro e w3 ⟨⟨rfl, hv⟩ | ⟨rfl, hv⟩, rfl⟩)
    | (go_at_call 28; have h15 := ‹(k == 15) = true›; refine Calls.mono (from1_ex HR.out HKL.out (by omega) _) ?_; rintro e w3 ⟨⟨rfl, hv⟩ | ⟨rfl, hv⟩, rfl⟩)
    | (go_at_call 28; have h15 := ‹(k == 16) = true›; refine Calls.mono (from1_ex HR.out HKL.out (by omega) _) ?_; rintro e w3 ⟨⟨rfl, hv⟩ | ⟨rfl, hv⟩, rfl⟩)
    | (go_at_call 28; refine Calls.mono (from0_ex HR.out HKL.out (by omega) _) ?_; rintro e w3 ⟨⟨rfl, hv⟩ | ⟨rfl, hv⟩, rfl⟩)
    | (go_at_call 32; refine Calls.mono (HMORE.out _ _ _ hbw HR.out HCA.out) ?_; rintro e w3 ⟨v, rfl, hb3, hv3⟩; simp only; go_wp2_with fail; go_ret; exact ⟨_, rfl, hbw.trans (hb3.mono hbw.size), fun h => .inr (hv3 h)⟩)
  all_goals try simp only
  all_goals go_wp2_with fail
  all_goals try
    (go_ret
     first
       | exact ⟨false, rfl, hbw, fun h => by cases h⟩
       | (refine ⟨_, rfl, hbw, fun h => .inl ?_⟩
          have hk := eq_of_beq ‹(k == _) = true›
          subst hk
          simp [sh1, List.map, okE_false, List.drop, *]
          done))
end
end Go.Proofs.YtgnpgdjjdhlhaaaDoor
