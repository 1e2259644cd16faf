/- lintelref06.parts; bodies and heads told each way. -/
import Derived.Test.YtgnpgdjjdhlhaaaDoorTShapeD
import Derived.Test.YtgnpgdjjdhlhaaaDoorTText
namespace Go.Proofs.YtgnpgdjjdhlhaaaDoor
open Go.RowKit
set_option maxHeartbeats 40000000
set_option maxRecDepth 100000
attribute [local go_sem] Oper.semAt_some store_floatK

section
variable {w : World} {A : Option Addr} {n c f : Nat} {l : List Nd}
theorem body_ex {N : Nat} (hN : Nds w w.heap.size A l) (hn : l.length = n) (hK : KidsOk l N) (hNn : N ≤ n) (q : Nat) (h1 : q < f) (h2 : q < N) :
    Calls Tryd.prog 45 #[.slice A n c, .int .i64 (q : Nat)] w fun e w' => Told2 (bodyB l f (q : Nat)) e ∧ w' = w :=
  (refbody_any hN hn hK hNn f q h1 h2).mono fun _ _ h => ⟨told2 h.1, h.2⟩
theorem one_ex {N : Nat} (hN : Nds w w.heap.size A l) (hn : l.length = n) (hK : KidsOk l N) (hNn : N ≤ n) (q : Nat) (h2 : q < N) :
    Calls Tryd.prog 47 #[.slice A n c, .int .i64 (q : Nat)] w fun e w' => Told2 (oneB l (q : Nat)) e ∧ Below w.heap.size w w' :=
  (refone_any hN hn hK hNn q h2).mono fun _ _ h => ⟨told2 h.1, h.2⟩
theorem parts_no (x : Nd) {A' : Option Addr} {c' : Nat} (h4 : x.kids.length ≠ 4) (hkx : x.kids.length ≤ 3000) :
    Calls Tryd.prog 46 #[.slice A n c, nV x, .slice A' x.kids.length c'] w fun e w' => e = .returned (.bool false) ∧ Below w.heap.size w w' := by
  have b1 : Below w.heap.size w (w.alloc (.cells (nCells x) 39)) := (Below.refl _ _).alloc (Nat.le_refl _) _
  unfold nV
  unfold nCells at b1
  obtain ⟨kn, hkn⟩ : ∃ m, x.kids.length = m := ⟨_, rfl⟩
  rw [hkn] at h4 hkx b1 ⊢
  have g4 : ((kn : Int) == 4) = false := by rw [beq_eq_false_iff_ne]; omega
  have g4' : ((kn : Int) != 4) = true := by rw [bne, g4]; rfl
  clear hkn
  go_enter Tryd.func46, Tryd.ntmps46
  go_wp2_with fail
  go_ret
  exact ⟨rfl, b1⟩
theorem parts_four (hN : Nds w w.heap.size A l) (hn : l.length = n) {i : Nat} {x : Nd} (hx : l[i]? = some x) (hK : KidsOk l (i + 1)) (hif : i < f) {q0 q1 q2 q3 : Nat} (hqs : x.kids = [(q0 : Int), (q1 : Int), (q2 : Int), (q3 : Int)]) {A' : Option Addr} {c' : Nat} (hr : Rd w w.heap.size A' (ints (ksOf l x))) (hca : 4 ≤ c' ∧ (4 ≠ 0 → ∃ g, A' = some ⟨g, 0, none⟩)) :
    Calls Tryd.prog 46 #[.slice A n c, nV x, .slice A' 4 c'] w fun e w' => ∃ v, e = .returned (.bool v) ∧ Below w.heap.size w w' ∧ (v = true → moreK l f 39 [(q0 : Int), (q1 : Int), (q2 : Int), (q3 : Int)] x.text = true) := by
  have hs := hN.small.1
  rw [hn] at hs
  have hi2 : i < n := by rw [← hn]; exact (List.getElem?_eq_some_iff.1 hx).1
  have hxm := List.mem_of_getElem? hx
  have hin := hK i x (by omega) hx
  have hlt3 : q3 < i := by have := hin (q3 : Int) (by rw [hqs]; simp); omega
  have y1 := heap_alloc_new w (.cells (nCells x) 39)
  have b1 : Below w.heap.size w (w.alloc (.cells (nCells x) 39)) := (Below.refl _ _).alloc (Nat.le_refl _) _
  have hbd := fun w' (hb : Below w.heap.size w w') => body_ex (c := c) (hN.below hb hb.size) hn hK (by omega) q3 (f := f) (by omega) (by omega)
  have HBD := Lib.hid hbd
  obtain ⟨kb, ko, hkA, hkb, u3⟩ := (hN.each x hxm).kid (k := 3) (x := (q3 : Int)) (by rw [hqs]; rfl)
  have hkn : x.kids.length = 4 := by rw [hqs]; rfl
  have hks : ksOf l x = [kindAt l (q0 : Nat), kindAt l (q1 : Nat), kindAt l (q2 : Nat), kindAt l (q3 : Nat)] := by unfold ksOf; rw [hqs]; rfl
  rw [hks] at hr
  obtain ⟨hmc, hA'⟩ := hca
  obtain ⟨g, rfl⟩ := hA' (by omega)
  obtain ⟨t0, e0⟩ : ∃ t, kindAt l (q0 : Nat) = t := ⟨_, rfl⟩
  obtain ⟨t1, e1⟩ : ∃ t, kindAt l (q1 : Nat) = t := ⟨_, rfl⟩
  obtain ⟨t2, e2⟩ : ∃ t, kindAt l (q2 : Nat) = t := ⟨_, rfl⟩
  rw [e0, e1, e2] at hr
  have E0 := Lib.hid e0
  have E1 := Lib.hid e1
  have E2 := Lib.hid e2
  have cc : ∀ j t, ([t0, t1, t2, kindAt l (q3 : Nat)])[j]? = some t → w.cell? ⟨g, j, none⟩ = some (.int .i64 t) := fun j t ht => by
    obtain ⟨ad, h1, h2⟩ := rd_int hr ht
    obtain rfl := Option.some.inj h1
    rw [Addr.add_lit, Nat.zero_add] at h2
    exact h2
  have c0 := cc 0 t0 rfl
  have c1 := cc 1 t1 rfl
  have c2 := cc 2 t2 rfl
  unfold nV
  unfold nCells at y1 b1
  rw [hkn, hkA] at y1 b1 ⊢
  clear cc hbd hr hA' e0 e1 e2 hks hin hK hn hN hx hxm hqs hkn
  obtain ⟨w1, hw1⟩ : ∃ w1, w.alloc (.cells #[.int .i64 x.kind, .string x.text, .string x.str, .float .f64 x.num, .slice (some ⟨kb, ko, none⟩) 4 x.kC, .int .i64 x.at_] 39) = w1 := ⟨_, rfl⟩
  rw [hw1] at y1 b1
  have g4 := cell_blockK y1 4
  simp at g4
  have v3 := (b1.cell (World.block_lt_of_cell? _ _ u3)).trans u3
  have x0 := (b1.cell (World.block_lt_of_cell? _ _ c0)).trans c0
  have x1 := (b1.cell (World.block_lt_of_cell? _ _ c1)).trans c1
  have x2 := (b1.cell (World.block_lt_of_cell? _ _ c2)).trans c2
  clear u3 c0 c1 c2 y1
  go_enter Tryd.func46, Tryd.ntmps46
  go_wp2_with fail
  refine Calls.mono (HBD.out _ b1) ?_
  rintro e w3 ⟨⟨rfl, hbv⟩ | ⟨rfl, hbv⟩, rfl⟩
  · simp only
    go_wp2_with fail
    all_goals try
      (refine Calls.mono (expr_ex _ _) ?_
       rintro e w3 ⟨⟨rfl, hv0⟩ | ⟨rfl, hv0⟩, rfl⟩)
    all_goals try simp only
    all_goals go_wp2_with fail
    all_goals try
      (refine Calls.mono (expr_ex _ _) ?_
       rintro e w3 ⟨⟨rfl, hv1⟩ | ⟨rfl, hv1⟩, rfl⟩)
    all_goals try simp only
    all_goals go_wp2_with fail
    all_goals try
      (refine Calls.mono (expr_ex _ _) ?_
       rintro e w3 ⟨⟨rfl, hv2⟩ | ⟨rfl, hv2⟩, rfl⟩)
    all_goals try simp only
    all_goals go_wp2_with fail
    all_goals try
      (refine Calls.mono (expr_ex _ _) ?_
       rintro e w3 ⟨⟨rfl, hv3⟩ | ⟨rfl, hv3⟩, rfl⟩)
    all_goals try simp only
    all_goals go_wp2_with fail
    all_goals go_ret
    all_goals first
      | exact ⟨false, rfl, b1, fun h => by cases h⟩
      | (refine ⟨_, rfl, b1, fun h => ?_⟩
         simp [moreK, E0.out, E1.out, E2.out, *]
         done)
      | (refine ⟨_, rfl, b1, fun h => ?_⟩
         simp_all [moreK, E0.out, E1.out, E2.out]
         done)
  · simp only
    go_wp2_with fail
    go_ret
    exact ⟨false, rfl, b1, fun h => by cases h⟩
theorem parts_any (hN : Nds w w.heap.size A l) (hn : l.length = n) {i : Nat} {x : Nd} (hx : l[i]? = some x) (hK : KidsOk l (i + 1)) (hif : i < f) {A' : Option Addr} {c' : Nat} (hr : Rd w w.heap.size A' (ints (ksOf l x))) (hca : x.kids.length ≤ c' ∧ (x.kids.length ≠ 0 → ∃ g, A' = some ⟨g, 0, none⟩)) :
    Calls Tryd.prog 46 #[.slice A n c, nV x, .slice A' x.kids.length c'] w fun e w' => ∃ v, e = .returned (.bool v) ∧ Below w.heap.size w w' ∧ (v = true → moreK l f 39 x.kids x.text = true) := by
  by_cases h4 : x.kids.length = 4
  · have hin := hK i x (by omega) hx
    match hk : x.kids, h4 with
    | [a, b, c0, d], h4 =>
      rw [hk] at hin hca
      obtain ⟨qa, rfl⟩ : ∃ q : Nat, a = q := ⟨a.toNat, by have := hin a (by simp); omega⟩
      obtain ⟨qb, rfl⟩ : ∃ q : Nat, b = q := ⟨b.toNat, by have := hin b (by simp); omega⟩
      obtain ⟨qc, rfl⟩ : ∃ q : Nat, c0 = q := ⟨c0.toNat, by have := hin c0 (by simp); omega⟩
      obtain ⟨qd, rfl⟩ : ∃ q : Nat, d = q := ⟨d.toNat, by have := hin d (by simp); omega⟩
      exact parts_four hN hn hx hK hif hk hr hca
  · exact (parts_no x h4 (hN.small.2 x (List.mem_of_getElem? hx))).mono fun e w' h => ⟨false, h.1, h.2, fun h => by cases h⟩
end
end Go.Proofs.YtgnpgdjjdhlhaaaDoor
