/- One node of the example, and what a checker holds. -/
import Derived.Test.YtgnpgdjjdhlhaaaDoorTRules
import Derived.Test.YtgnpgdjjdhlhaaaDoorTD
import Derived.Test.YtgnpgdjjdhlhaaaDoorUnroll
import Derived.Laws.Externs
import Derived.WalkMore
namespace Go.Proofs.YtgnpgdjjdhlhaaaDoor
open Go.RowKit
set_option maxHeartbeats 2000000
set_option maxRecDepth 100000
attribute [local go_sem] Oper.semAt_some store_floatK

theorem run_bits (b : Nat) (w : World) : (Extern.MathFloatBits.float64bits #[.float .f64 b]).run Tryd.prog w = .ok (.int .u64 b) w := rfl
theorem signbit_one (w : World) : Calls Tryd.prog 24 #[.float .f64 4607182418800017408] w fun e w' => e = .returned (.bool false) ∧ w = w' := by
  go_enter Tryd.func24, Tryd.ntmps24
  go_wp2_with fail
  rw [run_callFunc_extern Tryd.func39 (by kernel_rfl) (by kernel_rfl) (by kernel_rfl) (e := Extern.MathFloatBits.float64bits) (by kernel_rfl)]
  rw [run_bits]
  simp only [Result.andThen]
  rw [Oper.upon_value]
  go_wp2_with fail
  go_ret
  exact ⟨rfl, rfl⟩
theorem signbit_zero (w : World) : Calls Tryd.prog 24 #[.float .f64 0] w fun e w' => e = .returned (.bool false) ∧ w = w' := by
  go_enter Tryd.func24, Tryd.ntmps24
  go_wp2_with fail
  rw [run_callFunc_extern Tryd.func39 (by kernel_rfl) (by kernel_rfl) (by kernel_rfl) (e := Extern.MathFloatBits.float64bits) (by kernel_rfl)]
  rw [run_bits]
  simp only [Result.andThen]
  rw [Oper.upon_value]
  go_wp2_with fail
  go_ret
  exact ⟨rfl, rfl⟩

/-- the checker at block cb, over n nodes that lie at block nb -/
structure Ck (w : World) (cb : Nat) (A : Option Addr) (n c : Nat) : Prop where
  block : w.heap[cb]? = some (.cells (#[.slice A n c] ++ rulesC) 54 (0, 0))
theorem Ck.below {w w' : World} {cb n c : Nat} {A : Option Addr} (h : Ck w cb A n c) (hb : Below w.heap.size w w') : Ck w' cb A n c :=
  ⟨(hb.block cb (Array.getElem?_eq_some_iff.1 h.block).1).trans h.block⟩
theorem Ck.l {w : World} {cb n c : Nat} {A : Option Addr} (h : Ck w cb A n c) : w.cell? ⟨cb, 0, none⟩ = some (.slice A n c) := by
  rw [cell_blockK h.block, Array.getElem?_append_left (by simp)]
  rfl
theorem rulesC_text : rulesC[2]? = some (.string ⟨#[]⟩) ∧ rulesC[74]? = some (.string ⟨#[]⟩) ∧ rulesC[110]? = some (.string ⟨#[]⟩) := ⟨by kernel_rfl, by kernel_rfl, by kernel_rfl⟩
theorem rulesC_kids : rulesC[3]? = some (.string ⟨#[]⟩) ∧ rulesC[75]? = some (.string ⟨#[101]⟩) ∧ rulesC[111]? = some (.string ⟨#[115, 42]⟩) := ⟨by kernel_rfl, by kernel_rfl, by kernel_rfl⟩
theorem Ck.rule {w : World} {cb n c : Nat} {A : Option Addr} (h : Ck w cb A n c) {k : Nat} {v : Value} (hk : rulesC[k]? = some v) : w.cell? ⟨cb, k + 1, none⟩ = some v := by
  rw [cell_blockK h.block, Array.getElem?_append_right (by simp)]
  exact hk

/-- a node that has no Text, where its rule asks for none -/
theorem text_any {w : World} {cb n c k : Nat} {A0 : Option Addr} (h : Ck w cb A0 n c) (hk : rulesC[2 * k]? = some (.string ⟨#[]⟩)) (hk2 : k < 57) (s : ByteArray) (u : Nat) (A : Option Addr) (m d : Nat) (at_ : Int) :
    Calls Tryd.prog 36 #[.pointer (some ⟨cb, 0, none⟩), .agg #[.int .i64 (k : Nat), .string ⟨#[]⟩, .string s, .float .f64 u, .slice A m d, .int .i64 at_]] w fun e w' => e = .returned (.bool true) ∧ Below w.heap.size w w' := by
  have hr := h.rule hk
  rw [show 2 * k + 1 = 1 + k * 2 by omega] at hr
  have hk3 : (k : Int) < 57 := by omega
  have hb := (Below.refl w.heap.size w).alloc (Nat.le_refl _) (.cells #[.int .i64 (k : Nat), .string ⟨#[]⟩, .string s, .float .f64 u, .slice A m d, .int .i64 at_] 39)
  have hz := heap_alloc_new w (.cells #[.int .i64 (k : Nat), .string ⟨#[]⟩, .string s, .float .f64 u, .slice A m d, .int .i64 at_] 39)
  obtain ⟨w0, hw0⟩ : ∃ w0, w.alloc (.cells #[.int .i64 (k : Nat), .string ⟨#[]⟩, .string s, .float .f64 u, .slice A m d, .int .i64 at_] 39) = w0 := ⟨_, rfl⟩
  rw [hw0] at hb hz
  have c0 := cell_blockK hz 0
  have c1 := cell_blockK hz 1
  have hr1 := (hb.cell (World.block_lt_of_cell? _ _ hr)).trans hr
  simp at c0 c1
  go_enter Tryd.func36, Tryd.ntmps36
  go_wp2_with fail
  refine wp_region_lin (fun w' => w'.cell? ⟨w.heap.size, 0, none⟩ = some (.int .i64 (k : Nat)) ∧ w'.cell? ⟨cb, 1 + k * 2, none⟩ = some (.string ⟨#[]⟩)) [] (.block 0 (.block 1 (.block 2 (.block 3 (.block 4 (.block 5 (.block 6 (.block 7 (.skip))))))))) (by kernel_rfl) (by kernel_rfl) (by kernel_rfl) (by kernel_rfl) (by kernel_rfl) ⟨c0, hr1⟩ ?_
  repeat
    (refine lin_light (A1 := ?_) rfl rfl rfl rfl rfl (fun w' hS K hK => ?_) ?_ ?_
     rotate_left
     · obtain ⟨s0, s1⟩ := hS; go_step; exact hK
     · rfl)
  refine lin_end ?_
  have c1 : w0.drew.cell? ⟨w.heap.size, 1, none⟩ = some (.string ⟨#[]⟩) := c1
  go_wp2_with fail
  go_ret
  exact ⟨rfl, hb.drew⟩

theorem more_any {w : World} {cb k : Nat} (h48 : k ≠ 48) (h49 : k ≠ 49) (t s : ByteArray) (u : Nat) (A : Option Addr) (m d : Nat) (at_ : Int) :
    Calls Tryd.prog 38 #[.pointer (some ⟨cb, 0, none⟩), .agg #[.int .i64 (k : Nat), .string t, .string s, .float .f64 u, .slice A m d, .int .i64 at_]] w fun e w' => e = .returned (.bool true) ∧ Below w.heap.size w w' := by
  have hb := (Below.refl w.heap.size w).alloc (Nat.le_refl _) (.cells #[.int .i64 (k : Nat), .string t, .string s, .float .f64 u, .slice A m d, .int .i64 at_] 39)
  have hz := heap_alloc_new w (.cells #[.int .i64 (k : Nat), .string t, .string s, .float .f64 u, .slice A m d, .int .i64 at_] 39)
  obtain ⟨w0, hw0⟩ : ∃ w0, w.alloc (.cells #[.int .i64 (k : Nat), .string t, .string s, .float .f64 u, .slice A m d, .int .i64 at_] 39) = w0 := ⟨_, rfl⟩
  rw [hw0] at hb hz
  have c0 := cell_blockK hz 0
  simp at c0
  have g1 : ((k : Int) == 48) = false := by rw [beq_eq_false_iff_ne]; omega
  have g2 : ((k : Int) == 49) = false := by rw [beq_eq_false_iff_ne]; omega
  go_enter Tryd.func38, Tryd.ntmps38
  go_wp2_with fail
  go_ret
  exact ⟨rfl, hb⟩

theorem kids_none {w : World} {cb : Nat} : Calls Tryd.prog 37 #[.pointer (some ⟨cb, 0, none⟩), .slice none 0 0, .string ⟨#[]⟩] w fun e w' => e = .returned (.bool true) ∧ w = w' := by
  go_enter Tryd.func37, Tryd.ntmps37
  go_wp2_with fail
  refine wp_loop_un 0 (Un.last ?_)
  go_wp2_with fail
  go_ret
  exact ⟨rfl, rfl⟩
theorem expr_one (w : World) : Calls Tryd.prog 53 #[.int .i64 1] w fun e w' => e = .returned (.bool true) ∧ w = w' := by
  go_enter Tryd.func53, Tryd.ntmps53
  go_wp2_with fail
  go_ret
  exact ⟨rfl, rfl⟩
theorem stmt_expr (w : World) : Calls Tryd.prog 66 #[.int .i64 37] w fun e w' => e = .returned (.bool true) ∧ w = w' := by
  go_enter Tryd.func66, Tryd.ntmps66
  go_wp2_with fail
  go_ret
  exact ⟨rfl, rfl⟩
theorem fits_e {w : World} {cb nb n c : Nat} (h : Ck w cb (some ⟨nb, 0, none⟩) n c) (hn : 0 < n) (h0 : w.cell? ⟨nb, 0, none⟩ = some (.int .i64 1)) :
    Calls Tryd.prog 54 #[.pointer (some ⟨cb, 0, none⟩), .int .u8 101, .int .i64 0] w fun e w' => e = .returned (.bool true) ∧ w = w' := by
  have hl := h.l
  have hn2 : (0 : Int) < (n : Int) := by omega
  go_enter Tryd.func54, Tryd.ntmps54
  go_wp2_with fail
  refine (expr_one _).mono ?_
  rintro e w' ⟨rfl, rfl⟩
  simp only
  go_wp2_with fail
  go_ret
  exact ⟨rfl, rfl⟩
theorem fits_s {w : World} {cb nb n c : Nat} (h : Ck w cb (some ⟨nb, 0, none⟩) n c) (hn : 1 < n) (h0 : w.cell? ⟨nb, 6, none⟩ = some (.int .i64 37)) :
    Calls Tryd.prog 54 #[.pointer (some ⟨cb, 0, none⟩), .int .u8 115, .int .i64 1] w fun e w' => e = .returned (.bool true) ∧ w = w' := by
  have hl := h.l
  have hn2 : (1 : Int) < (n : Int) := by omega
  go_enter Tryd.func54, Tryd.ntmps54
  go_wp2_with fail
  refine (stmt_expr _).mono ?_
  rintro e w' ⟨rfl, rfl⟩
  simp only
  go_wp2_with fail
  go_ret
  exact ⟨rfl, rfl⟩
theorem kids_e {w : World} {cb nb n c kb : Nat} (h : Ck w cb (some ⟨nb, 0, none⟩) n c) (hn : 0 < n) (h0 : w.cell? ⟨nb, 0, none⟩ = some (.int .i64 1)) (hk : w.cell? ⟨kb, 0, none⟩ = some (.int .i64 0)) :
    Calls Tryd.prog 37 #[.pointer (some ⟨cb, 0, none⟩), .slice (some ⟨kb, 0, none⟩) 1 1, .string ⟨#[101]⟩] w fun e w' => e = .returned (.bool true) ∧ w = w' := by
  go_enter Tryd.func37, Tryd.ntmps37
  go_wp2_with fail
  refine wp_loop_un 1 (Un.step fun K hK => ?_)
  go_wp2_with fail
  refine (fits_e h hn h0).mono ?_
  rintro e w' ⟨rfl, rfl⟩
  simp only
  go_wp2_with fail
  refine Un.last ?_
  go_wp2_with fail
  go_ret
  exact ⟨rfl, rfl⟩
theorem kids_s {w : World} {cb nb n c kb : Nat} (h : Ck w cb (some ⟨nb, 0, none⟩) n c) (hn : 1 < n) (h0 : w.cell? ⟨nb, 6, none⟩ = some (.int .i64 37)) (hk : w.cell? ⟨kb, 0, none⟩ = some (.int .i64 1)) :
    Calls Tryd.prog 37 #[.pointer (some ⟨cb, 0, none⟩), .slice (some ⟨kb, 0, none⟩) 1 1, .string ⟨#[115, 42]⟩] w fun e w' => e = .returned (.bool true) ∧ Below w.heap.size w w' := by
  have hx : (⟨#[115, 42]⟩ : ByteArray).extract 1 2 = ⟨#[42]⟩ := by decide +kernel
  go_enter Tryd.func37, Tryd.ntmps37
  go_wp2_with fail
  refine wp_loop_un 1 (Un.step fun K hK => ?_)
  go_wp2_with fail
  refine wp_region_lin (fun w' => w' = w.drew) [5] (.block 0 (.block 1 (.block 2 (.block 3 (.block 4 (.loop (.block 5 (.skip)))))))) (by kernel_rfl) (by kernel_rfl) (by kernel_rfl) (by kernel_rfl) (by kernel_rfl) rfl ?_
  repeat
    (refine lin_light (A1 := ?_) rfl rfl rfl rfl rfl (fun w' hS K hK => ?_) ?_ ?_
     rotate_left
     · obtain rfl := hS; go_step; exact hK
     · rfl)
  try refine lin_late ?_
  repeat
    (refine lin_light (A1 := ?_) rfl rfl rfl rfl rfl (fun w' hS K hK => ?_) ?_ ?_
     rotate_left
     · clear hS; go_step; exact hK
     · rfl)
  refine lin_end ?_
  have h' : Ck w.drew cb (some ⟨nb, 0, none⟩) n c := ⟨h.block⟩
  have h0' : w.drew.cell? ⟨nb, 6, none⟩ = some (.int .i64 37) := h0
  have hk' : w.drew.cell? ⟨kb, 0, none⟩ = some (.int .i64 1) := hk
  go_wp2_with fail
  refine wp_loop_un 1 (Un.step fun K2 hK2 => ?_)
  go_wp2_with fail
  refine (fits_s h' hn h0').mono ?_
  rintro e w' ⟨rfl, rfl⟩
  simp only
  go_wp2_with fail
  refine Un.last ?_
  go_wp2_with fail
  refine Un.last ?_
  go_wp2_with fail
  go_ret
  exact ⟨rfl, (Below.refl _ _).drew⟩

theorem node_0 {w : World} {cb nb n c : Nat} (h : Ck w cb (some ⟨nb, 0, none⟩) n c) (hn : 0 < n) (h0 : w.cell? ⟨nb, 0, none⟩ = some (.int .i64 1)) (h1 : w.cell? ⟨nb, 1, none⟩ = some (.string ⟨#[]⟩)) (h2 : w.cell? ⟨nb, 2, none⟩ = some (.string ⟨#[]⟩)) (h3 : w.cell? ⟨nb, 3, none⟩ = some (.float .f64 4607182418800017408)) (h4 : w.cell? ⟨nb, 4, none⟩ = some (.slice none 0 0)) (h5 : w.cell? ⟨nb, 5, none⟩ = some (.int .i64 0)) :
    Calls Tryd.prog 23 #[.pointer (some ⟨cb, 0, none⟩), .int .i64 0] w fun e w' => e = .returned (.bool true) ∧ Below w.heap.size w w' := by
  have hl := h.l
  have hr := h.rule rulesC_kids.1
  have hn2 : (0 : Int) < (n : Int) := by omega
  have hb := (Below.refl w.heap.size w).alloc (Nat.le_refl _) (.cells #[.int .i64 1, .string ⟨#[]⟩, .string ⟨#[]⟩, .float .f64 4607182418800017408, .slice none 0 0, .int .i64 0] 39)
  have hz := heap_alloc_new w (.cells #[.int .i64 1, .string ⟨#[]⟩, .string ⟨#[]⟩, .float .f64 4607182418800017408, .slice none 0 0, .int .i64 0] 39)
  have hs1 : w.heap.size ≤ (w.alloc (.cells #[.int .i64 1, .string ⟨#[]⟩, .string ⟨#[]⟩, .float .f64 4607182418800017408, .slice none 0 0, .int .i64 0] 39)).heap.size := hb.size
  go_enter Tryd.func23, Tryd.ntmps23
  go_wp2_with fail
  generalize w.alloc (.cells #[.int .i64 1, .string ⟨#[]⟩, .string ⟨#[]⟩, .float .f64 4607182418800017408, .slice none 0 0, .int .i64 0] 39) = w1 at hb hz hs1 ⊢
  have hlt := (Array.getElem?_eq_some_iff.1 hz).1
  have h1' := h.below hb
  refine (signbit_one _).mono ?_
  rintro e w2 ⟨rfl, rfl⟩
  have hF : ∀ w', Below w1.heap.size w1 w' → w'.cell? ⟨w.heap.size, 0, none⟩ = some (.int .i64 1) ∧ w'.cell? ⟨w.heap.size, 1, none⟩ = some (.string ⟨#[]⟩) ∧ w'.cell? ⟨w.heap.size, 2, none⟩ = some (.string ⟨#[]⟩) ∧ w'.cell? ⟨w.heap.size, 3, none⟩ = some (.float .f64 4607182418800017408) ∧ w'.cell? ⟨w.heap.size, 4, none⟩ = some (.slice none 0 0) ∧ w'.cell? ⟨w.heap.size, 5, none⟩ = some (.int .i64 0) ∧ w'.cell? ⟨cb, 4, none⟩ = some (.string ⟨#[]⟩) := fun w' hb' => by
    have hz' := (hb'.block _ hlt).trans hz
    have e0 := cell_blockK hz' 0
    have e1 := cell_blockK hz' 1
    have e2 := cell_blockK hz' 2
    have e3 := cell_blockK hz' 3
    have e4 := cell_blockK hz' 4
    have e5 := cell_blockK hz' 5
    have e6 := (hb'.cell (World.block_lt_of_cell? _ _ (h1'.rule rulesC_kids.1))).trans (h1'.rule rulesC_kids.1)
    simp at e0 e1 e2 e3 e4 e5
    exact ⟨e0, e1, e2, e3, e4, e5, e6⟩
  have HF := Lib.hid hF
  obtain ⟨z0, z1, z2, z3, z4, z5, z6⟩ := hF w1 (Below.refl _ _)
  have hkc : ∀ w', Below w1.heap.size w1 w' → w'.heap.size ≥ w1.heap.size := fun w' hb' => hb'.size
  clear hF hkc
  simp only
  go_wp2_with fail
  clear z0 z1 z2 z3 z4 z5 z6
  refine wp_region_lin (fun w' => Below w1.heap.size w1 w') [22] (.block 0 (.block 1 (.scope (.seq (.label 2) (.block 3 (.block 4 (.block 5 (.block 6 (.block 7 (.block 8 (.block 9 (.block 10 (.block 11 (.block 12 (.block 13 (.block 14 (.scope (.seq (.label 15) (.block 16 (.block 17 (.block 18 (.block 19 (.scope (.seq (.label 20) (.block 21 (.loop (.block 22 (.skip)))))))))))))))))))))))))))) (by kernel_rfl) (by kernel_rfl) (by kernel_rfl) (by kernel_rfl) (by kernel_rfl) (Below.refl _ _).drew ?_
  repeat
    (refine lin_light (A1 := ?_) rfl rfl rfl rfl rfl (fun w' hS K hK => ?_) ?_ ?_
     rotate_left
     · have hF := HF.out _ hS; obtain ⟨_, _, _, _, _, _, _⟩ := hF; go_step; exact hK
     · rfl)
  refine lin_group ?_
  refine lin_heavy rfl rfl (fun K hK => ?_)
  go_step
  refine (text_any (k := 1) (h1'.below ((Below.refl _ _).drew)) rulesC_text.1 (by omega) _ _ _ _ _ _).mono ?_
  rintro e w3 ⟨rfl, b3⟩
  have hb3 : Below w1.heap.size w1 w3 := (Below.refl _ _).drew.trans b3
  simp only
  refine hK.out _ _ hb3 ?_
  clear hK K
  repeat
    (refine lin_light (A1 := ?_) rfl rfl rfl rfl rfl (fun w' hS K hK => ?_) ?_ ?_
     rotate_left
     · have hF := HF.out _ hS; obtain ⟨_, _, _, _, _, _, _⟩ := hF; go_step; exact hK
     · rfl)
  refine lin_group ?_
  refine lin_heavy rfl rfl (fun K hK => ?_)
  go_step
  refine kids_none.mono ?_
  rintro e w4 ⟨rfl, rfl⟩
  have hb4 := hb3
  simp only
  refine hK.out _ _ hb4 ?_
  clear hK K
  repeat
    (refine lin_light (A1 := ?_) rfl rfl rfl rfl rfl (fun w' hS K hK => ?_) ?_ ?_
     rotate_left
     · have hF := HF.out _ hS; obtain ⟨_, _, _, _, _, _, _⟩ := hF; go_step; exact hK
     · rfl)
  refine lin_group ?_
  refine lin_heavy rfl rfl (fun K hK => ?_)
  go_step
  refine (more_any (k := 1) (by omega) (by omega) _ _ _ _ _ _ _).mono ?_
  rintro e w5 ⟨rfl, b5⟩
  have hb5 : Below w1.heap.size w1 w5 := hb4.trans (b5.mono hb4.size)
  simp only
  refine hK.out _ _ hb5 ?_
  clear hK K
  try refine lin_late ?_
  repeat
    (refine lin_light (A1 := ?_) rfl rfl rfl rfl rfl (fun w' hS K hK => ?_) ?_ ?_
     rotate_left
     · clear hS; go_step; exact hK
     · rfl)
  refine lin_end ?_
  go_wp2_with fail
  go_ret
  exact ⟨rfl, hb.trans (hb5.mono hs1)⟩
theorem node_1 {w : World} {cb nb n c kb : Nat} (h : Ck w cb (some ⟨nb, 0, none⟩) n c) (hn : 1 < n) (h0 : w.cell? ⟨nb, 6, none⟩ = some (.int .i64 37)) (h1 : w.cell? ⟨nb, 7, none⟩ = some (.string ⟨#[]⟩)) (h2 : w.cell? ⟨nb, 8, none⟩ = some (.string ⟨#[]⟩)) (h3 : w.cell? ⟨nb, 9, none⟩ = some (.float .f64 0)) (h4 : w.cell? ⟨nb, 10, none⟩ = some (.slice (some ⟨kb, 0, none⟩) 1 1)) (h5 : w.cell? ⟨nb, 11, none⟩ = some (.int .i64 0)) (hk : w.cell? ⟨kb, 0, none⟩ = some (.int .i64 0)) (h00 : w.cell? ⟨nb, 0, none⟩ = some (.int .i64 1)) :
    Calls Tryd.prog 23 #[.pointer (some ⟨cb, 0, none⟩), .int .i64 1] w fun e w' => e = .returned (.bool true) ∧ Below w.heap.size w w' := by
  have hl := h.l
  have hr := h.rule rulesC_kids.2.1
  have hn2 : (1 : Int) < (n : Int) := by omega
  have hb := (Below.refl w.heap.size w).alloc (Nat.le_refl _) (.cells #[.int .i64 37, .string ⟨#[]⟩, .string ⟨#[]⟩, .float .f64 0, .slice (some ⟨kb, 0, none⟩) 1 1, .int .i64 0] 39)
  have hz := heap_alloc_new w (.cells #[.int .i64 37, .string ⟨#[]⟩, .string ⟨#[]⟩, .float .f64 0, .slice (some ⟨kb, 0, none⟩) 1 1, .int .i64 0] 39)
  have hs1 : w.heap.size ≤ (w.alloc (.cells #[.int .i64 37, .string ⟨#[]⟩, .string ⟨#[]⟩, .float .f64 0, .slice (some ⟨kb, 0, none⟩) 1 1, .int .i64 0] 39)).heap.size := hb.size
  go_enter Tryd.func23, Tryd.ntmps23
  go_wp2_with fail
  generalize w.alloc (.cells #[.int .i64 37, .string ⟨#[]⟩, .string ⟨#[]⟩, .float .f64 0, .slice (some ⟨kb, 0, none⟩) 1 1, .int .i64 0] 39) = w1 at hb hz hs1 ⊢
  have hlt := (Array.getElem?_eq_some_iff.1 hz).1
  have h1' := h.below hb
  refine (signbit_zero _).mono ?_
  rintro e w2 ⟨rfl, rfl⟩
  have hF : ∀ w', Below w1.heap.size w1 w' → w'.cell? ⟨w.heap.size, 0, none⟩ = some (.int .i64 37) ∧ w'.cell? ⟨w.heap.size, 1, none⟩ = some (.string ⟨#[]⟩) ∧ w'.cell? ⟨w.heap.size, 2, none⟩ = some (.string ⟨#[]⟩) ∧ w'.cell? ⟨w.heap.size, 3, none⟩ = some (.float .f64 0) ∧ w'.cell? ⟨w.heap.size, 4, none⟩ = some (.slice (some ⟨kb, 0, none⟩) 1 1) ∧ w'.cell? ⟨w.heap.size, 5, none⟩ = some (.int .i64 0) ∧ w'.cell? ⟨cb, 76, none⟩ = some (.string ⟨#[101]⟩) := fun w' hb' => by
    have hz' := (hb'.block _ hlt).trans hz
    have e0 := cell_blockK hz' 0
    have e1 := cell_blockK hz' 1
    have e2 := cell_blockK hz' 2
    have e3 := cell_blockK hz' 3
    have e4 := cell_blockK hz' 4
    have e5 := cell_blockK hz' 5
    have e6 := (hb'.cell (World.block_lt_of_cell? _ _ (h1'.rule rulesC_kids.2.1))).trans (h1'.rule rulesC_kids.2.1)
    simp at e0 e1 e2 e3 e4 e5
    exact ⟨e0, e1, e2, e3, e4, e5, e6⟩
  have HF := Lib.hid hF
  obtain ⟨z0, z1, z2, z3, z4, z5, z6⟩ := hF w1 (Below.refl _ _)
  have hkc : ∀ w', Below w1.heap.size w1 w' → w'.heap.size ≥ w1.heap.size := fun w' hb' => hb'.size
  clear hF hkc
  simp only
  go_wp2_with fail
  clear z0 z1 z2 z3 z4 z5 z6
  refine wp_region_lin (fun w' => Below w1.heap.size w1 w') [22] (.block 0 (.block 1 (.scope (.seq (.label 2) (.block 3 (.block 4 (.block 5 (.block 6 (.block 7 (.block 8 (.block 9 (.block 10 (.block 11 (.block 12 (.block 13 (.block 14 (.scope (.seq (.label 15) (.block 16 (.block 17 (.block 18 (.block 19 (.scope (.seq (.label 20) (.block 21 (.loop (.block 22 (.skip)))))))))))))))))))))))))))) (by kernel_rfl) (by kernel_rfl) (by kernel_rfl) (by kernel_rfl) (by kernel_rfl) (Below.refl _ _).drew ?_
  repeat
    (refine lin_light (A1 := ?_) rfl rfl rfl rfl rfl (fun w' hS K hK => ?_) ?_ ?_
     rotate_left
     · have hF := HF.out _ hS; obtain ⟨_, _, _, _, _, _, _⟩ := hF; go_step; exact hK
     · rfl)
  refine lin_group ?_
  refine lin_heavy rfl rfl (fun K hK => ?_)
  go_step
  refine (text_any (k := 37) (h1'.below ((Below.refl _ _).drew)) rulesC_text.2.1 (by omega) _ _ _ _ _ _).mono ?_
  rintro e w3 ⟨rfl, b3⟩
  have hb3 : Below w1.heap.size w1 w3 := (Below.refl _ _).drew.trans b3
  simp only
  refine hK.out _ _ hb3 ?_
  clear hK K
  repeat
    (refine lin_light (A1 := ?_) rfl rfl rfl rfl rfl (fun w' hS K hK => ?_) ?_ ?_
     rotate_left
     · have hF := HF.out _ hS; obtain ⟨_, _, _, _, _, _, _⟩ := hF; go_step; exact hK
     · rfl)
  refine lin_group ?_
  refine lin_heavy rfl rfl (fun K hK => ?_)
  go_step
  have hbt := hb.trans (hb3.mono hs1)
  refine (kids_e (h1'.below hb3) (by omega) ((hbt.cell (World.block_lt_of_cell? _ _ h00)).trans h00) ((hbt.cell (World.block_lt_of_cell? _ _ hk)).trans hk)).mono ?_
  rintro e w4 ⟨rfl, rfl⟩
  have hb4 := hb3
  simp only
  refine hK.out _ _ hb4 ?_
  clear hK K
  repeat
    (refine lin_light (A1 := ?_) rfl rfl rfl rfl rfl (fun w' hS K hK => ?_) ?_ ?_
     rotate_left
     · have hF := HF.out _ hS; obtain ⟨_, _, _, _, _, _, _⟩ := hF; go_step; exact hK
     · rfl)
  refine lin_group ?_
  refine lin_heavy rfl rfl (fun K hK => ?_)
  go_step
  refine (more_any (k := 37) (by omega) (by omega) _ _ _ _ _ _ _).mono ?_
  rintro e w5 ⟨rfl, b5⟩
  have hb5 : Below w1.heap.size w1 w5 := hb4.trans (b5.mono hb4.size)
  simp only
  refine hK.out _ _ hb5 ?_
  clear hK K
  try refine lin_late ?_
  repeat
    (refine lin_light (A1 := ?_) rfl rfl rfl rfl rfl (fun w' hS K hK => ?_) ?_ ?_
     rotate_left
     · clear hS; go_step; exact hK
     · rfl)
  refine lin_end ?_
  go_wp2_with fail
  go_ret
  exact ⟨rfl, hb.trans (hb5.mono hs1)⟩
theorem node_2 {w : World} {cb nb n c kb : Nat} (h : Ck w cb (some ⟨nb, 0, none⟩) n c) (hn : 2 < n) (h0 : w.cell? ⟨nb, 12, none⟩ = some (.int .i64 55)) (h1 : w.cell? ⟨nb, 13, none⟩ = some (.string ⟨#[]⟩)) (h2 : w.cell? ⟨nb, 14, none⟩ = some (.string ⟨#[]⟩)) (h3 : w.cell? ⟨nb, 15, none⟩ = some (.float .f64 0)) (h4 : w.cell? ⟨nb, 16, none⟩ = some (.slice (some ⟨kb, 0, none⟩) 1 1)) (h5 : w.cell? ⟨nb, 17, none⟩ = some (.int .i64 0)) (hk : w.cell? ⟨kb, 0, none⟩ = some (.int .i64 1)) (h00 : w.cell? ⟨nb, 6, none⟩ = some (.int .i64 37)) :
    Calls Tryd.prog 23 #[.pointer (some ⟨cb, 0, none⟩), .int .i64 2] w fun e w' => e = .returned (.bool true) ∧ Below w.heap.size w w' := by
  have hl := h.l
  have hr := h.rule rulesC_kids.2.2
  have hn2 : (2 : Int) < (n : Int) := by omega
  have hb := (Below.refl w.heap.size w).alloc (Nat.le_refl _) (.cells #[.int .i64 55, .string ⟨#[]⟩, .string ⟨#[]⟩, .float .f64 0, .slice (some ⟨kb, 0, none⟩) 1 1, .int .i64 0] 39)
  have hz := heap_alloc_new w (.cells #[.int .i64 55, .string ⟨#[]⟩, .string ⟨#[]⟩, .float .f64 0, .slice (some ⟨kb, 0, none⟩) 1 1, .int .i64 0] 39)
  have hs1 : w.heap.size ≤ (w.alloc (.cells #[.int .i64 55, .string ⟨#[]⟩, .string ⟨#[]⟩, .float .f64 0, .slice (some ⟨kb, 0, none⟩) 1 1, .int .i64 0] 39)).heap.size := hb.size
  go_enter Tryd.func23, Tryd.ntmps23
  go_wp2_with fail
  generalize w.alloc (.cells #[.int .i64 55, .string ⟨#[]⟩, .string ⟨#[]⟩, .float .f64 0, .slice (some ⟨kb, 0, none⟩) 1 1, .int .i64 0] 39) = w1 at hb hz hs1 ⊢
  have hlt := (Array.getElem?_eq_some_iff.1 hz).1
  have h1' := h.below hb
  refine (signbit_zero _).mono ?_
  rintro e w2 ⟨rfl, rfl⟩
  have hF : ∀ w', Below w1.heap.size w1 w' → w'.cell? ⟨w.heap.size, 0, none⟩ = some (.int .i64 55) ∧ w'.cell? ⟨w.heap.size, 1, none⟩ = some (.string ⟨#[]⟩) ∧ w'.cell? ⟨w.heap.size, 2, none⟩ = some (.string ⟨#[]⟩) ∧ w'.cell? ⟨w.heap.size, 3, none⟩ = some (.float .f64 0) ∧ w'.cell? ⟨w.heap.size, 4, none⟩ = some (.slice (some ⟨kb, 0, none⟩) 1 1) ∧ w'.cell? ⟨w.heap.size, 5, none⟩ = some (.int .i64 0) ∧ w'.cell? ⟨cb, 112, none⟩ = some (.string ⟨#[115, 42]⟩) := fun w' hb' => by
    have hz' := (hb'.block _ hlt).trans hz
    have e0 := cell_blockK hz' 0
    have e1 := cell_blockK hz' 1
    have e2 := cell_blockK hz' 2
    have e3 := cell_blockK hz' 3
    have e4 := cell_blockK hz' 4
    have e5 := cell_blockK hz' 5
    have e6 := (hb'.cell (World.block_lt_of_cell? _ _ (h1'.rule rulesC_kids.2.2))).trans (h1'.rule rulesC_kids.2.2)
    simp at e0 e1 e2 e3 e4 e5
    exact ⟨e0, e1, e2, e3, e4, e5, e6⟩
  have HF := Lib.hid hF
  obtain ⟨z0, z1, z2, z3, z4, z5, z6⟩ := hF w1 (Below.refl _ _)
  have hkc : ∀ w', Below w1.heap.size w1 w' → w'.heap.size ≥ w1.heap.size := fun w' hb' => hb'.size
  clear hF hkc
  simp only
  go_wp2_with fail
  clear z0 z1 z2 z3 z4 z5 z6
  refine wp_region_lin (fun w' => Below w1.heap.size w1 w') [22] (.block 0 (.block 1 (.scope (.seq (.label 2) (.block 3 (.block 4 (.block 5 (.block 6 (.block 7 (.block 8 (.block 9 (.block 10 (.block 11 (.block 12 (.block 13 (.block 14 (.scope (.seq (.label 15) (.block 16 (.block 17 (.block 18 (.block 19 (.scope (.seq (.label 20) (.block 21 (.loop (.block 22 (.skip)))))))))))))))))))))))))))) (by kernel_rfl) (by kernel_rfl) (by kernel_rfl) (by kernel_rfl) (by kernel_rfl) (Below.refl _ _).drew ?_
  repeat
    (refine lin_light (A1 := ?_) rfl rfl rfl rfl rfl (fun w' hS K hK => ?_) ?_ ?_
     rotate_left
     · have hF := HF.out _ hS; obtain ⟨_, _, _, _, _, _, _⟩ := hF; go_step; exact hK
     · rfl)
  refine lin_group ?_
  refine lin_heavy rfl rfl (fun K hK => ?_)
  go_step
  refine (text_any (k := 55) (h1'.below ((Below.refl _ _).drew)) rulesC_text.2.2 (by omega) _ _ _ _ _ _).mono ?_
  rintro e w3 ⟨rfl, b3⟩
  have hb3 : Below w1.heap.size w1 w3 := (Below.refl _ _).drew.trans b3
  simp only
  refine hK.out _ _ hb3 ?_
  clear hK K
  repeat
    (refine lin_light (A1 := ?_) rfl rfl rfl rfl rfl (fun w' hS K hK => ?_) ?_ ?_
     rotate_left
     · have hF := HF.out _ hS; obtain ⟨_, _, _, _, _, _, _⟩ := hF; go_step; exact hK
     · rfl)
  refine lin_group ?_
  refine lin_heavy rfl rfl (fun K hK => ?_)
  go_step
  have hbt := hb.trans (hb3.mono hs1)
  refine (kids_s (h1'.below hb3) (by omega) ((hbt.cell (World.block_lt_of_cell? _ _ h00)).trans h00) ((hbt.cell (World.block_lt_of_cell? _ _ hk)).trans hk)).mono ?_
  rintro e w4 ⟨rfl, b4⟩
  have hb4 := hb3.trans (b4.mono hb3.size)
  simp only
  refine hK.out _ _ hb4 ?_
  clear hK K
  repeat
    (refine lin_light (A1 := ?_) rfl rfl rfl rfl rfl (fun w' hS K hK => ?_) ?_ ?_
     rotate_left
     · have hF := HF.out _ hS; obtain ⟨_, _, _, _, _, _, _⟩ := hF; go_step; exact hK
     · rfl)
  refine lin_group ?_
  refine lin_heavy rfl rfl (fun K hK => ?_)
  go_step
  refine (more_any (k := 55) (by omega) (by omega) _ _ _ _ _ _ _).mono ?_
  rintro e w5 ⟨rfl, b5⟩
  have hb5 : Below w1.heap.size w1 w5 := hb4.trans (b5.mono hb4.size)
  simp only
  refine hK.out _ _ hb5 ?_
  clear hK K
  try refine lin_late ?_
  repeat
    (refine lin_light (A1 := ?_) rfl rfl rfl rfl rfl (fun w' hS K hK => ?_) ?_ ?_
     rotate_left
     · clear hS; go_step; exact hK
     · rfl)
  refine lin_end ?_
  go_wp2_with fail
  go_ret
  exact ⟨rfl, hb.trans (hb5.mono hs1)⟩
end Go.Proofs.YtgnpgdjjdhlhaaaDoor
