/- lintelref06.more at 1 kids. -/
import Derived.Test.YtgnpgdjjdhlhaaaDoorTPostM
namespace Go.Proofs.YtgnpgdjjdhlhaaaDoor
open Go.RowKit
set_option maxHeartbeats 40000000
set_option maxRecDepth 100000
attribute [local go_sem] Oper.semAt_some store_floatK
section
variable {w : World} {A : Option Addr} {n c f : Nat} {l : List Nd}
theorem more_1 (hN : Nds w w.heap.size A l) (hn : l.length = n) {i : Nat} {x : Nd} (hx : l[i]? = some x) (hK : KidsOk l (i + 1)) (hif : i < f) {q0 : Nat} (hqs : x.kids = [(q0 : Int)]) (g30 : (x.kind == 30) = false) (g33 : (x.kind == 33) = false) (g34 : (x.kind == 34) = false) (g48 : (x.kind == 48) = false)
    {A' : Option Addr} {c' : Nat} (hr : Rd w w.heap.size A' (ints (ksOf l x))) (hca : x.kids.length ≤ c' ∧ (x.kids.length ≠ 0 → ∃ g, A' = some ⟨g, 0, none⟩)) :
    Calls Tryd.prog 32 #[.slice A n c, .int .i64 (i : Nat), .slice A' x.kids.length c'] w fun e w' => PostM w l f x.kind x.kids x.text e w' := by
  have hs := hN.small.1
  rw [hn] at hs
  have hi2 : i < n := by rw [← hn]; exact (List.getElem?_eq_some_iff.1 hx).1
  have hxm := List.mem_of_getElem? hx
  have hkx := hN.small.2 x hxm
  have hin := hK i x (by omega) hx
  have hrow := hN.each x hxm
  have y1 := heap_alloc_new w (.cells #[.int .i64 x.kind, .string x.text, .string x.str, .float .f64 x.num, .slice x.kA x.kids.length x.kC, .int .i64 x.at_] 39)
  have b1 : Below w.heap.size w (w.alloc (.cells #[.int .i64 x.kind, .string x.text, .string x.str, .float .f64 x.num, .slice x.kA x.kids.length x.kC, .int .i64 x.at_] 39)) := (Below.refl _ _).alloc (Nat.le_refl _) _
  have hem := empty_dec (s := x.text)
  obtain ⟨k, hk⟩ : ∃ k, x.kind = k := ⟨_, rfl⟩
  have hkl : (ksOf l x).length = x.kids.length := by unfold ksOf; rw [List.length_map]
  have hlt0 : q0 < i := by have := hin (q0 : Int) (by rw [hqs]; simp); omega
  have hbd := fun w' (hb : Below w.heap.size w w') (q : Nat) (hq : q < i) => body_ex (c := c) (f := f) (hN.below hb hb.size) hn hK (by omega) q (by omega) (by omega)
  have hone := fun w' (hb : Below w.heap.size w w') => one_ex (c := c) (hN.below hb hb.size) hn hK (by omega) q0 (by omega)
  have hparts := fun w' (hb : Below w.heap.size w w') (hr' : Rd w' w'.heap.size A' (ints (ksOf l x))) => parts_any (f := f) (c := c) (c' := c') (hN.below hb hb.size) hn hx hK hif (A' := A') hr' hca
  have hkn : x.kids.length = 1 := by rw [hqs]; rfl
  rw [hkn] at hca hparts hkl y1 b1 hkx ⊢
  obtain ⟨b, off, rfl, hbl, d0, d1, d2, d3, d4, d5⟩ := hN.rows.nd hx
  rw [hkn] at d4
  unfold nV at hparts
  rw [hkn] at hparts
  rw [hk] at d0 y1 b1 g30 g33 g34 g48 hparts ⊢
  rw [hqs] at hparts ⊢
  obtain ⟨kb, ko, hkA, hkb, u0⟩ := hrow.kid (k := 0) (x := (q0 : Int)) (by rw [hqs]; rfl)
  rw [Nat.add_zero] at u0
  rw [hkA] at d4 y1 b1 hparts
  have hks : ksOf l x = [kindAt l (q0 : Nat)] := by unfold ksOf; rw [hqs]; rfl
  rw [hks] at hr hkl hparts
  obtain ⟨t0, e0⟩ : ∃ t, kindAt l (q0 : Nat) = t := ⟨_, rfl⟩
  rw [e0] at hr hkl hparts
  have E0 := Lib.hid e0
  have HBD := Lib.hid hbd
  have HONE := Lib.hid hone
  have HPARTS := Lib.hid hparts
  have HKL := Lib.hid hkl
  have HR := Lib.hid hr
  have HCA := Lib.hid hca
  obtain ⟨hmc, hA'⟩ := hca
  obtain ⟨ve, ee⟩ : ∃ v, decide (x.text.size = 0) = v := ⟨_, rfl⟩
  rw [ee] at hem
  have EE := Lib.hid ee
  clear hn hin hK hk hkn hxm hqs hks hkl hparts hrow ee hif e0  hbd hone hkA
  obtain ⟨g, rfl⟩ := hA' (by omega)
  have c0 : w.cell? ⟨g, 0, none⟩ = some (.int .i64 t0) := by
    obtain ⟨ad, h1, h2⟩ := rd_int hr (k := 0) (x := t0) rfl
    obtain rfl := Option.some.inj h1
    rw [Addr.add_lit, Nat.zero_add] at h2
    exact h2
  clear hA' hr hN hx
  obtain ⟨w1, hw1⟩ : ∃ w1, w.alloc (.cells #[.int .i64 k, .string x.text, .string x.str, .float .f64 x.num, .slice (some ⟨kb, ko, none⟩) 1 x.kC, .int .i64 x.at_] 39) = w1 := ⟨_, rfl⟩
  rw [hw1] at y1 b1
  have l1 := (Array.getElem?_eq_some_iff.1 y1).1
  have g0 := cell_blockK y1 0
  have g1 := cell_blockK y1 1
  have g2 := cell_blockK y1 2
  have g3 := cell_blockK y1 3
  have g4 := cell_blockK y1 4
  have g5 := cell_blockK y1 5
  simp at g0 g1 g2 g3 g4 g5
  have HR1 := Lib.hid ((HR.out.below b1).more b1.size)
  have v0 := (b1.cell (World.block_lt_of_cell? _ _ u0)).trans u0
  have x0 := (b1.cell (World.block_lt_of_cell? _ _ c0)).trans c0
  clear y1 l1 u0 c0
  go_enter Tryd.func32, Tryd.ntmps32
  go_wp2_with fail
  all_goals try
    (go_ret
     first
       | exact PostM.of false rfl b1 (fun h => by cases h)
       | exact PostM.of false rfl (b1.trans (hb3.mono b1.size)) (fun h => by cases h)
       | (refine PostM.of _ rfl b1 (fun h => ?_)
          have hk := eq_of_beq ‹(k == _) = true›
          subst hk
          exact hv)
       | (refine PostM.of _ rfl (b1.trans (hb3.mono b1.size)) (fun h => ?_)
          have hk := eq_of_beq ‹(k == 39) = true›
          subst hk
          exact hvp h)
       | (refine PostM.of _ rfl b1 (fun h => ?_)
          have hk := eq_of_beq ‹(k == 28) = true›
          subst hk
          show (decide ([(q0 : Int)].length % 2 = 1) && tmplB 0 ([(q0 : Int)].map (kindAt l))) = true
          have h2 : tmplB 0 [t0] = true := by simpa using hv
          rw [List.map_cons, List.map_nil, E0.out, h2]
          rfl)
       | (refine PostM.of _ rfl b1 (fun h => ?_)
          have hk := eq_of_beq ‹(k == 49) = true›
          subst hk
          show clausesB ([(q0 : Int)].map (kindAt l)) = true
          rw [List.map_cons, List.map_nil, E0.out]
          exact hv)
       | (refine PostM.of _ rfl b1 (fun h => ?_)
          have hk := eq_of_beq ‹(k == _) = true›
          subst hk
          try simp [okE_false, List.drop] at hv
          simp [moreK, headB, List.map, okE_false, List.drop, E0.out, EE.out, *]
          done)
       | (refine PostM.of _ rfl (b1.trans (hb3.mono b1.size)) (fun h => ?_)
          have hk := eq_of_beq ‹(k == _) = true›
          subst hk
          simp [moreK, headB, List.map, okE_false, List.drop, E0.out, EE.out, *]
          done))
  all_goals first
    | (go_at_call 43; refine Calls.mono (tmpl_ex HR1.out HKL.out (by omega)) ?_; rintro e w3 ⟨⟨rfl, hv⟩ | ⟨rfl, hv⟩, rfl⟩)
    | (go_at_call 44; have h50 := ‹(k == 50) = true›; refine Calls.mono (stmts1_ex HR1.out HKL.out (by omega)) ?_; rintro e w3 ⟨⟨rfl, hv⟩ | ⟨rfl, hv⟩, rfl⟩)
    | (go_at_call 44; refine Calls.mono (stmts0_ex HR1.out HKL.out (by omega)) ?_; rintro e w3 ⟨⟨rfl, hv⟩ | ⟨rfl, hv⟩, rfl⟩)
    | (go_at_call 28; refine Calls.mono (from0_ex HR1.out HKL.out (by omega) _) ?_; rintro e w3 ⟨⟨rfl, hv⟩ | ⟨rfl, hv⟩, rfl⟩)
    | (go_at_call 48; refine Calls.mono (clauses_ex HR1.out HKL.out (by omega) HCA.out) ?_; rintro e w3 ⟨⟨rfl, hv⟩ | ⟨rfl, hv⟩, rfl⟩)
    | (go_at_call 30; refine Calls.mono (expr_ex _ _) ?_; rintro e w3 ⟨⟨rfl, hv⟩ | ⟨rfl, hv⟩, rfl⟩)
    | (go_at_call 46; refine Calls.mono (HPARTS.out _ b1 HR1.out) ?_; rintro e w3 ⟨vp, rfl, hb3, hvp⟩)
    | (go_at_call 45; refine Calls.mono (HBD.out _ b1 _ (by assumption)) ?_; rintro e w3 ⟨⟨rfl, hv⟩ | ⟨rfl, hv⟩, rfl⟩)
  all_goals try simp only
  all_goals go_wp2_with fail
  all_goals try
    (go_ret
     first
       | exact PostM.of false rfl b1 (fun h => by cases h)
       | exact PostM.of false rfl (b1.trans (hb3.mono b1.size)) (fun h => by cases h)
       | (refine PostM.of _ rfl b1 (fun h => ?_)
          have hk := eq_of_beq ‹(k == _) = true›
          subst hk
          exact hv)
       | (refine PostM.of _ rfl (b1.trans (hb3.mono b1.size)) (fun h => ?_)
          have hk := eq_of_beq ‹(k == 39) = true›
          subst hk
          exact hvp h)
       | (refine PostM.of _ rfl b1 (fun h => ?_)
          have hk := eq_of_beq ‹(k == 28) = true›
          subst hk
          show (decide ([(q0 : Int)].length % 2 = 1) && tmplB 0 ([(q0 : Int)].map (kindAt l))) = true
          have h2 : tmplB 0 [t0] = true := by simpa using hv
          rw [List.map_cons, List.map_nil, E0.out, h2]
          rfl)
       | (refine PostM.of _ rfl b1 (fun h => ?_)
          have hk := eq_of_beq ‹(k == 49) = true›
          subst hk
          show clausesB ([(q0 : Int)].map (kindAt l)) = true
          rw [List.map_cons, List.map_nil, E0.out]
          exact hv)
       | (refine PostM.of _ rfl b1 (fun h => ?_)
          have hk := eq_of_beq ‹(k == _) = true›
          subst hk
          try simp [okE_false, List.drop] at hv
          simp [moreK, headB, List.map, okE_false, List.drop, E0.out, EE.out, *]
          done)
       | (refine PostM.of _ rfl (b1.trans (hb3.mono b1.size)) (fun h => ?_)
          have hk := eq_of_beq ‹(k == _) = true›
          subst hk
          simp [moreK, headB, List.map, okE_false, List.drop, E0.out, EE.out, *]
          done))
  all_goals first
    | (go_at_call 43; refine Calls.mono (tmpl_ex HR1.out HKL.out (by omega)) ?_; rintro e w3 ⟨⟨rfl, hv⟩ | ⟨rfl, hv⟩, rfl⟩)
    | (go_at_call 44; have h50 := ‹(k == 50) = true›; refine Calls.mono (stmts1_ex HR1.out HKL.out (by omega)) ?_; rintro e w3 ⟨⟨rfl, hv⟩ | ⟨rfl, hv⟩, rfl⟩)
    | (go_at_call 44; refine Calls.mono (stmts0_ex HR1.out HKL.out (by omega)) ?_; rintro e w3 ⟨⟨rfl, hv⟩ | ⟨rfl, hv⟩, rfl⟩)
    | (go_at_call 28; refine Calls.mono (from0_ex HR1.out HKL.out (by omega) _) ?_; rintro e w3 ⟨⟨rfl, hv⟩ | ⟨rfl, hv⟩, rfl⟩)
    | (go_at_call 48; refine Calls.mono (clauses_ex HR1.out HKL.out (by omega) HCA.out) ?_; rintro e w3 ⟨⟨rfl, hv⟩ | ⟨rfl, hv⟩, rfl⟩)
    | (go_at_call 30; refine Calls.mono (expr_ex _ _) ?_; rintro e w3 ⟨⟨rfl, hv⟩ | ⟨rfl, hv⟩, rfl⟩)
    | (go_at_call 46; refine Calls.mono (HPARTS.out _ b1 HR1.out) ?_; rintro e w3 ⟨vp, rfl, hb3, hvp⟩)
    | (go_at_call 45; refine Calls.mono (HBD.out _ b1 _ (by assumption)) ?_; rintro e w3 ⟨⟨rfl, hv⟩ | ⟨rfl, hv⟩, rfl⟩)
  all_goals try simp only
  all_goals go_wp2_with fail
  all_goals try
    (go_ret
     first
       | exact PostM.of false rfl b1 (fun h => by cases h)
       | exact PostM.of false rfl (b1.trans (hb3.mono b1.size)) (fun h => by cases h)
       | (refine PostM.of _ rfl b1 (fun h => ?_)
          have hk := eq_of_beq ‹(k == _) = true›
          subst hk
          exact hv)
       | (refine PostM.of _ rfl (b1.trans (hb3.mono b1.size)) (fun h => ?_)
          have hk := eq_of_beq ‹(k == 39) = true›
          subst hk
          exact hvp h)
       | (refine PostM.of _ rfl b1 (fun h => ?_)
          have hk := eq_of_beq ‹(k == 28) = true›
          subst hk
          show (decide ([(q0 : Int)].length % 2 = 1) && tmplB 0 ([(q0 : Int)].map (kindAt l))) = true
          have h2 : tmplB 0 [t0] = true := by simpa using hv
          rw [List.map_cons, List.map_nil, E0.out, h2]
          rfl)
       | (refine PostM.of _ rfl b1 (fun h => ?_)
          have hk := eq_of_beq ‹(k == 49) = true›
          subst hk
          show clausesB ([(q0 : Int)].map (kindAt l)) = true
          rw [List.map_cons, List.map_nil, E0.out]
          exact hv)
       | (refine PostM.of _ rfl b1 (fun h => ?_)
          have hk := eq_of_beq ‹(k == _) = true›
          subst hk
          try simp [okE_false, List.drop] at hv
          simp [moreK, headB, List.map, okE_false, List.drop, E0.out, EE.out, *]
          done)
       | (refine PostM.of _ rfl (b1.trans (hb3.mono b1.size)) (fun h => ?_)
          have hk := eq_of_beq ‹(k == _) = true›
          subst hk
          simp [moreK, headB, List.map, okE_false, List.drop, E0.out, EE.out, *]
          done))
end
end Go.Proofs.YtgnpgdjjdhlhaaaDoor
