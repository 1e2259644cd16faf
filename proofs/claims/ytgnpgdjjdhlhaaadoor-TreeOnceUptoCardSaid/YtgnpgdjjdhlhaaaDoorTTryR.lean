/- lintelref06.more at a try. -/
import Derived.Test.YtgnpgdjjdhlhaaaDoorTPostM
namespace Go.Proofs.YtgnpgdjjdhlhaaaDoor
open Go.RowKit
set_option maxHeartbeats 40000000
set_option maxRecDepth 100000
attribute [local go_sem] Oper.semAt_some store_floatK

section
variable {w : World} {A : Option Addr} {n c f : Nat} {l : List Nd}
def tryB (t0 t1 t2 : Int) (ve : Bool) : Bool := (t0 == 32) && ((t1 == 32) || (t1 == 54)) && ((t2 == 32) || (t2 == 54)) && ((t1 == 32) == !ve) && ((t1 == 32) || (t2 == 32))
theorem more_try3 (hN : Nds w w.heap.size A l) (hn : l.length = n) {i : Nat} {x : Nd} (hx : l[i]? = some x) (hk : x.kind = 48) {t0 t1 t2 : Int} (h3 : ksOf l x = [t0, t1, t2])
    {A' : Option Addr} {c' : Nat} (hr : Rd w w.heap.size A' (ints (ksOf l x))) (hca : x.kids.length ≤ c' ∧ (x.kids.length ≠ 0 → ∃ g, A' = some ⟨g, 0, none⟩)) :
    Calls Tryd.prog 32 #[.slice A n c, .int .i64 (i : Nat), .slice A' x.kids.length c'] w fun e w' => e = .returned (.bool (tryB t0 t1 t2 (decide (x.text.size = 0)))) ∧ Below w.heap.size w w' := by
  have hem := empty_dec (s := x.text)
  have hs := hN.small.1
  rw [hn] at hs
  have hi2 : i < n := by rw [← hn]; exact (List.getElem?_eq_some_iff.1 hx).1
  have hxm := List.mem_of_getElem? hx
  have hkx := hN.small.2 x hxm
  have y1 := heap_alloc_new w (.cells #[.int .i64 x.kind, .string x.text, .string x.str, .float .f64 x.num, .slice x.kA x.kids.length x.kC, .int .i64 x.at_] 39)
  have b1 : Below w.heap.size w (w.alloc (.cells #[.int .i64 x.kind, .string x.text, .string x.str, .float .f64 x.num, .slice x.kA x.kids.length x.kC, .int .i64 x.at_] 39)) := (Below.refl _ _).alloc (Nat.le_refl _) _
  have hkl : (ksOf l x).length = x.kids.length := by unfold ksOf; rw [List.length_map]
  obtain ⟨kn, hkn⟩ : ∃ m, x.kids.length = m := ⟨_, rfl⟩
  obtain ⟨b, off, rfl, hbl, d0, d1, d2, d3, d4, d5⟩ := hN.rows.nd hx
  rw [hkn] at hkl d4 y1 b1 hkx hca ⊢
  rw [hk] at d0 y1 b1
  obtain ⟨ks, hks⟩ : ∃ ks, ksOf l x = ks := ⟨_, rfl⟩
  rw [hks] at hkl hr
  have HKL := Lib.hid hkl
  have HKS := Lib.hid hks
  have HKN := Lib.hid hkn
  clear hx hn hkn hxm hN hks hkl hk
  obtain rfl : ks = [t0, t1, t2] := HKS.out.symm.trans h3
  obtain rfl : kn = 3 := HKL.out.symm
  clear h3
  obtain ⟨ve, ee⟩ : ∃ v, decide (x.text.size = 0) = v := ⟨_, rfl⟩
  rw [ee] at hem ⊢
  obtain ⟨hmc, hA'⟩ := hca
  obtain ⟨g, rfl⟩ := hA' (by omega)
  have cc : ∀ j t, ([t0, t1, t2])[j]? = some t → w.cell? ⟨g, j, none⟩ = some (.int .i64 t) := fun j t ht => by
    obtain ⟨ad, h1, h2⟩ := rd_int hr ht
    obtain rfl := Option.some.inj h1
    rw [Addr.add_lit, Nat.zero_add] at h2
    exact h2
  have u0 := cc 0 t0 rfl
  have u1 := cc 1 t1 rfl
  have u2 := cc 2 t2 rfl
  obtain ⟨w1, hw1⟩ : ∃ w1, w.alloc (.cells #[.int .i64 48, .string x.text, .string x.str, .float .f64 x.num, .slice x.kA 3 x.kC, .int .i64 x.at_] 39) = w1 := ⟨_, rfl⟩
  rw [hw1] at y1 b1
  have c0 := cell_blockK y1 0
  have c1 := cell_blockK y1 1
  have c2 := cell_blockK y1 2
  have c3 := cell_blockK y1 3
  have c4 := cell_blockK y1 4
  have c5 := cell_blockK y1 5
  simp at c0 c1 c2 c3 c4 c5
  have x0 := (b1.cell (World.block_lt_of_cell? _ _ u0)).trans u0
  have x1 := (b1.cell (World.block_lt_of_cell? _ _ u1)).trans u1
  have x2 := (b1.cell (World.block_lt_of_cell? _ _ u2)).trans u2
  obtain ⟨v0, e0⟩ : ∃ v, (t0 == 32) = v := ⟨_, rfl⟩
  obtain ⟨v1, e1⟩ : ∃ v, (t1 == 32) = v := ⟨_, rfl⟩
  obtain ⟨v2, e2⟩ : ∃ v, (t2 == 32) = v := ⟨_, rfl⟩
  obtain ⟨v3, e3⟩ : ∃ v, (t1 == 54) = v := ⟨_, rfl⟩
  obtain ⟨v4, e4⟩ : ∃ v, (t2 == 54) = v := ⟨_, rfl⟩
  have e0' : (t0 != 32) = !v0 := by rw [bne, e0]
  have e1' : (t1 != 32) = !v1 := by rw [bne, e1]
  have e2' : (t2 != 32) = !v2 := by rw [bne, e2]
  have e3' : (t1 != 54) = !v3 := by rw [bne, e3]
  have e4' : (t2 != 54) = !v4 := by rw [bne, e4]
  have hfin : tryB t0 t1 t2 ve = (v0 && (v1 || v3) && (v2 || v4) && (v1 == !ve) && (v1 || v2)) := by unfold tryB; rw [e0, e1, e2, e3, e4]
  rw [hfin]
  clear y1 hr cc u0 u1 u2 hA' hfin ee
  go_enter Tryd.func32, Tryd.ntmps32
  cases v0
  · go_wp2_with fail
    go_ret
    exact ⟨rfl, b1⟩
  have h13 : v1 = true ∨ (v1 = false ∧ v3 = true) ∨ (v1 = false ∧ v3 = false) := by cases v1 <;> cases v3 <;> simp
  have h24 : v2 = true ∨ (v2 = false ∧ v4 = true) ∨ (v2 = false ∧ v4 = false) := by cases v2 <;> cases v4 <;> simp
  rcases h13 with rfl | ⟨rfl, rfl⟩ | ⟨rfl, rfl⟩
  rotate_left 2
  · go_wp2_with fail
    go_ret
    exact ⟨rfl, b1⟩
  all_goals rcases h24 with rfl | ⟨rfl, rfl⟩ | ⟨rfl, rfl⟩
  all_goals go_wp2_with fail
  all_goals try (go_ret; exact ⟨by simp, b1⟩)
  all_goals
    refine wp_region_lin (fun w' => w'.cell? ⟨g, 1, none⟩ = some (.int .i64 t1) ∧ w'.cell? ⟨g, 2, none⟩ = some (.int .i64 t2) ∧ w'.cell? ⟨w.heap.size, 1, none⟩ = some (.string x.text)) [20] (.block 0 (.block 1 (.block 2 (.block 3 (.block 4 (.block 5 (.block 6 (.block 7 (.block 8 (.block 9 (.block 10 (.block 11 (.block 12 (.block 13 (.block 14 (.block 15 (.block 16 (.block 17 (.block 18 (.block 19 (.loop (.block 20 (.skip))))))))))))))))))))))) (by kernel_rfl) (by kernel_rfl) (by kernel_rfl) (by kernel_rfl) (by kernel_rfl) ⟨x1, x2, c1⟩ ?_
    cases ve
    all_goals
      repeat first
        | (refine lin_light (A1 := ?_) rfl rfl rfl rfl rfl (fun w' hS K hK => ?_) ?_ ?_
           rotate_left
           · obtain ⟨s0, s1, s2⟩ := hS; go_step; exact hK
           · rfl)
        | (refine lin_skip rfl rfl ?_; simp only [Act.put, List.setIfInBounds_toArray, List.set_cons_zero, List.set_cons_succ])
      try refine lin_late ?_
      repeat first
        | (refine lin_light (A1 := ?_) rfl rfl rfl rfl rfl (fun w' hS K hK => ?_) ?_ ?_
           rotate_left
           · obtain _ := hS; go_step; exact hK
           · rfl)
        | (refine lin_skip rfl rfl ?_; simp only [Act.put, List.setIfInBounds_toArray, List.set_cons_zero, List.set_cons_succ])
      refine lin_end ?_
      go_wp2_with fail
      go_ret
      exact ⟨by simp, b1.drew⟩
end
end Go.Proofs.YtgnpgdjjdhlhaaaDoor
