/- Whether a node is what a letter of a rule says: checker.fits. -/
import Derived.Test.YtgnpgdjjdhlhaaaDoorTParams
namespace Go.Proofs.YtgnpgdjjdhlhaaaDoor
open Go.RowKit
set_option maxHeartbeats 4000000
set_option maxRecDepth 100000
attribute [local go_sem] Oper.semAt_some store_floatK

/-- the kinds of a function's parameters -/
def parK (l : List Nd) (k : Int) : List Int := match kidsAt l k with
  | [] => []
  | p :: _ => (kidsAt l p).map (kindAt l)
def fitsB (l : List Nd) (f : Nat) (a : Nat) (k : Int) : Bool :=
  let t := kindAt l k
  if a = 101 then exprB t else
  if a = 97 then exprB t || (t == 29) else
  if a = 115 then stmtB t else
  if a = 98 then bodyB l f k else
  if a = 116 then (t == 6) || (t == 17) || (t == 18) else
  if a = 107 then (t == 2) || (t == 1) || (t == 56) else
  if a = 112 then decide (t ≥ 10) && decide (t ≤ 12) else
  if a = 71 then (t == 13) && (parK l k).isEmpty else
  if a = 83 then (t == 13) && (parK l k == [6]) else
  if a = 80 then t == 30 else
  if a = 66 then t == 32 else
  if a = 65 then (t == 32) || exprB t else
  if a = 78 then (t == 32) || (t == 54) else
  if a = 110 then t == 6 else
  if a = 114 then t == 31 else
  if a = 105 then t == 35 else
  if a = 102 then (t == 33) || (t == 34) || (t == 54) || exprB t else
  if a = 109 then (t == 54) || exprB t else
  if a = 104 then headB l k else
  (t == 50) || (t == 51)
def letters : List Nat := [101, 97, 115, 98, 116, 107, 112, 71, 83, 80, 66, 65, 78, 110, 114, 105, 102, 109, 104, 99]
/-- a function has a first kid, up to a node -/
def FuncOk (l : List Nd) (N : Nat) : Prop := ∀ (i : Nat) (x : Nd), i < N → l[i]? = some x → x.kind = 13 → ∃ p, x.kids[0]? = some p
theorem parK_of {l : List Nd} {i p : Nat} {x y : Nd} (hx : l[i]? = some x) (hp : x.kids[0]? = some (p : Int)) (hy : l[p]? = some y) : parK l i = ksOf l y := by
  unfold parK
  rw [kidsAt_of hx]
  match hk : x.kids, hp with
  | q :: r, hp =>
    cases hp
    show (kidsAt l p).map (kindAt l) = _
    rw [kidsAt_of hy]
    rfl
section
variable {w : World} {A : Option Addr} {n c cb N f : Nat} {l : List Nd}
theorem fits_101 (hC : Ck w cb A n c) (hN : Nds w w.heap.size A l) (hn : l.length = n) (hK : KidsOk l N) (hL : LabOk l N) (hU : FuncOk l N) (hNn : N ≤ n) {i : Nat} (hi : i < N) (hif : i < f) :
    Calls Tryd.prog 54 #[.pointer (some ⟨cb, 0, none⟩), .int .u8 101, .int .i64 (i : Nat)] w fun e w' => e = .returned (.bool (fitsB l f 101 (i : Nat))) ∧ Below w.heap.size w w' := by
  have hs := hN.small.1
  rw [hn] at hs
  obtain ⟨x, hx⟩ : ∃ x, l[i]? = some x := ⟨l[i]'(by omega), List.getElem?_eq_getElem _⟩
  have hin2 : i < n := by omega
  have hfit : fitsB l f 101 (i : Nat) = (fun (l : List Nd) (f : Nat) (t k : Int) => exprB t) l f (kindAt l (i : Nat)) (i : Nat) := rfl
  dsimp only at hfit
  rw [kindAt_of hx] at hfit
  obtain ⟨b, off, rfl, hbl, d0, d1, d2, d3, d4, d5⟩ := hN.rows.nd hx
  have hl := hC.l
  have hcall := expr_any x.kind w
  obtain ⟨vE, eE⟩ : ∃ v, exprB x.kind = v := ⟨_, rfl⟩
  rw [eE] at hfit
  rw [eE] at hcall
  rw [hfit]
  clear hn hx hK hL hU hfit d1 d2 d3 d4 d5 eE
  go_enter Tryd.func54, Tryd.ntmps54
  cases vE
  all_goals
    go_wp2_with fail
    try
      (refine Calls.mono hcall ?_
       rintro e w1 ⟨rfl, rfl⟩
       simp only
       go_wp2_with fail)
    go_ret
    exact ⟨rfl, Below.refl _ _⟩
theorem fits_97 (hC : Ck w cb A n c) (hN : Nds w w.heap.size A l) (hn : l.length = n) (hK : KidsOk l N) (hL : LabOk l N) (hU : FuncOk l N) (hNn : N ≤ n) {i : Nat} (hi : i < N) (hif : i < f) :
    Calls Tryd.prog 54 #[.pointer (some ⟨cb, 0, none⟩), .int .u8 97, .int .i64 (i : Nat)] w fun e w' => e = .returned (.bool (fitsB l f 97 (i : Nat))) ∧ Below w.heap.size w w' := by
  have hs := hN.small.1
  rw [hn] at hs
  obtain ⟨x, hx⟩ : ∃ x, l[i]? = some x := ⟨l[i]'(by omega), List.getElem?_eq_getElem _⟩
  have hin2 : i < n := by omega
  have hfit : fitsB l f 97 (i : Nat) = (fun (l : List Nd) (f : Nat) (t k : Int) => exprB t || (t == 29)) l f (kindAt l (i : Nat)) (i : Nat) := rfl
  dsimp only at hfit
  rw [kindAt_of hx] at hfit
  obtain ⟨b, off, rfl, hbl, d0, d1, d2, d3, d4, d5⟩ := hN.rows.nd hx
  have hl := hC.l
  have hcall := expr_any x.kind w
  obtain ⟨v0, e0⟩ : ∃ v, (x.kind == 29) = v := ⟨_, rfl⟩
  obtain ⟨vE, eE⟩ : ∃ v, exprB x.kind = v := ⟨_, rfl⟩
  rw [e0, eE] at hfit
  rw [eE] at hcall
  rw [hfit]
  clear hn hx hK hL hU hfit d1 d2 d3 d4 d5 eE
  go_enter Tryd.func54, Tryd.ntmps54
  cases v0 <;> cases vE
  all_goals
    go_wp2_with fail
    try
      (refine Calls.mono hcall ?_
       rintro e w1 ⟨rfl, rfl⟩
       simp only
       go_wp2_with fail)
    go_ret
    exact ⟨rfl, Below.refl _ _⟩
theorem fits_115 (hC : Ck w cb A n c) (hN : Nds w w.heap.size A l) (hn : l.length = n) (hK : KidsOk l N) (hL : LabOk l N) (hU : FuncOk l N) (hNn : N ≤ n) {i : Nat} (hi : i < N) (hif : i < f) :
    Calls Tryd.prog 54 #[.pointer (some ⟨cb, 0, none⟩), .int .u8 115, .int .i64 (i : Nat)] w fun e w' => e = .returned (.bool (fitsB l f 115 (i : Nat))) ∧ Below w.heap.size w w' := by
  have hs := hN.small.1
  rw [hn] at hs
  obtain ⟨x, hx⟩ : ∃ x, l[i]? = some x := ⟨l[i]'(by omega), List.getElem?_eq_getElem _⟩
  have hin2 : i < n := by omega
  have hfit : fitsB l f 115 (i : Nat) = (fun (l : List Nd) (f : Nat) (t k : Int) => stmtB t) l f (kindAt l (i : Nat)) (i : Nat) := rfl
  dsimp only at hfit
  rw [kindAt_of hx] at hfit
  obtain ⟨b, off, rfl, hbl, d0, d1, d2, d3, d4, d5⟩ := hN.rows.nd hx
  have hl := hC.l
  have hcall := stmt_any x.kind w
  obtain ⟨vE, eE⟩ : ∃ v, stmtB x.kind = v := ⟨_, rfl⟩
  rw [eE] at hfit
  rw [eE] at hcall
  rw [hfit]
  clear hn hx hK hL hU hfit d1 d2 d3 d4 d5 eE
  go_enter Tryd.func54, Tryd.ntmps54
  cases vE
  all_goals
    go_wp2_with fail
    try
      (refine Calls.mono hcall ?_
       rintro e w1 ⟨rfl, rfl⟩
       simp only
       go_wp2_with fail)
    go_ret
    exact ⟨rfl, Below.refl _ _⟩
theorem fits_98 (hC : Ck w cb A n c) (hN : Nds w w.heap.size A l) (hn : l.length = n) (hK : KidsOk l N) (hL : LabOk l N) (hU : FuncOk l N) (hNn : N ≤ n) {i : Nat} (hi : i < N) (hif : i < f) :
    Calls Tryd.prog 54 #[.pointer (some ⟨cb, 0, none⟩), .int .u8 98, .int .i64 (i : Nat)] w fun e w' => e = .returned (.bool (fitsB l f 98 (i : Nat))) ∧ Below w.heap.size w w' := by
  have hs := hN.small.1
  rw [hn] at hs
  obtain ⟨x, hx⟩ : ∃ x, l[i]? = some x := ⟨l[i]'(by omega), List.getElem?_eq_getElem _⟩
  have hin2 : i < n := by omega
  have hcall := body_any (f := f) hN hn hK hL hNn hC hif hi
  have hfit : fitsB l f 98 (i : Nat) = (fun (l : List Nd) (f : Nat) (t k : Int) => bodyB l f k) l f (kindAt l (i : Nat)) (i : Nat) := rfl
  dsimp only at hfit
  obtain ⟨b, off, rfl, hbl, d0, d1, d2, d3, d4, d5⟩ := hN.rows.nd hx
  have hl := hC.l
  obtain ⟨vE, eE⟩ : ∃ v, bodyB l f (i : Nat) = v := ⟨_, rfl⟩
  rw [eE] at hfit
  rw [eE] at hcall
  rw [hfit]
  clear hn hx hK hL hU hfit d1 d2 d3 d4 d5 eE
  go_enter Tryd.func54, Tryd.ntmps54
  cases vE
  all_goals
    go_wp2_with fail
    try
      (refine Calls.mono hcall ?_
       rintro e w1 ⟨rfl, rfl⟩
       simp only
       go_wp2_with fail)
    go_ret
    exact ⟨rfl, Below.refl _ _⟩
theorem fits_116 (hC : Ck w cb A n c) (hN : Nds w w.heap.size A l) (hn : l.length = n) (hK : KidsOk l N) (hL : LabOk l N) (hU : FuncOk l N) (hNn : N ≤ n) {i : Nat} (hi : i < N) (hif : i < f) :
    Calls Tryd.prog 54 #[.pointer (some ⟨cb, 0, none⟩), .int .u8 116, .int .i64 (i : Nat)] w fun e w' => e = .returned (.bool (fitsB l f 116 (i : Nat))) ∧ Below w.heap.size w w' := by
  have hs := hN.small.1
  rw [hn] at hs
  obtain ⟨x, hx⟩ : ∃ x, l[i]? = some x := ⟨l[i]'(by omega), List.getElem?_eq_getElem _⟩
  have hin2 : i < n := by omega
  have hfit : fitsB l f 116 (i : Nat) = (fun (l : List Nd) (f : Nat) (t k : Int) => (t == 6) || (t == 17) || (t == 18)) l f (kindAt l (i : Nat)) (i : Nat) := rfl
  dsimp only at hfit
  rw [kindAt_of hx] at hfit
  obtain ⟨b, off, rfl, hbl, d0, d1, d2, d3, d4, d5⟩ := hN.rows.nd hx
  have hl := hC.l
  obtain ⟨v0, e0⟩ : ∃ v, (x.kind == 6) = v := ⟨_, rfl⟩
  obtain ⟨v1, e1⟩ : ∃ v, (x.kind == 17) = v := ⟨_, rfl⟩
  obtain ⟨v2, e2⟩ : ∃ v, (x.kind == 18) = v := ⟨_, rfl⟩
  rw [e0, e1, e2] at hfit
  rw [hfit]
  clear hn hx hK hL hU hfit d1 d2 d3 d4 d5
  go_enter Tryd.func54, Tryd.ntmps54
  cases v0 <;> cases v1 <;> cases v2
  all_goals
    go_wp2_with fail
    go_ret
    exact ⟨rfl, Below.refl _ _⟩
theorem fits_107 (hC : Ck w cb A n c) (hN : Nds w w.heap.size A l) (hn : l.length = n) (hK : KidsOk l N) (hL : LabOk l N) (hU : FuncOk l N) (hNn : N ≤ n) {i : Nat} (hi : i < N) (hif : i < f) :
    Calls Tryd.prog 54 #[.pointer (some ⟨cb, 0, none⟩), .int .u8 107, .int .i64 (i : Nat)] w fun e w' => e = .returned (.bool (fitsB l f 107 (i : Nat))) ∧ Below w.heap.size w w' := by
  have hs := hN.small.1
  rw [hn] at hs
  obtain ⟨x, hx⟩ : ∃ x, l[i]? = some x := ⟨l[i]'(by omega), List.getElem?_eq_getElem _⟩
  have hin2 : i < n := by omega
  have hfit : fitsB l f 107 (i : Nat) = (fun (l : List Nd) (f : Nat) (t k : Int) => (t == 2) || (t == 1) || (t == 56)) l f (kindAt l (i : Nat)) (i : Nat) := rfl
  dsimp only at hfit
  rw [kindAt_of hx] at hfit
  obtain ⟨b, off, rfl, hbl, d0, d1, d2, d3, d4, d5⟩ := hN.rows.nd hx
  have hl := hC.l
  obtain ⟨v0, e0⟩ : ∃ v, (x.kind == 2) = v := ⟨_, rfl⟩
  obtain ⟨v1, e1⟩ : ∃ v, (x.kind == 1) = v := ⟨_, rfl⟩
  obtain ⟨v2, e2⟩ : ∃ v, (x.kind == 56) = v := ⟨_, rfl⟩
  rw [e0, e1, e2] at hfit
  rw [hfit]
  clear hn hx hK hL hU hfit d1 d2 d3 d4 d5
  go_enter Tryd.func54, Tryd.ntmps54
  cases v0 <;> cases v1 <;> cases v2
  all_goals
    go_wp2_with fail
    go_ret
    exact ⟨rfl, Below.refl _ _⟩
theorem fits_112 (hC : Ck w cb A n c) (hN : Nds w w.heap.size A l) (hn : l.length = n) (hK : KidsOk l N) (hL : LabOk l N) (hU : FuncOk l N) (hNn : N ≤ n) {i : Nat} (hi : i < N) (hif : i < f) :
    Calls Tryd.prog 54 #[.pointer (some ⟨cb, 0, none⟩), .int .u8 112, .int .i64 (i : Nat)] w fun e w' => e = .returned (.bool (fitsB l f 112 (i : Nat))) ∧ Below w.heap.size w w' := by
  have hs := hN.small.1
  rw [hn] at hs
  obtain ⟨x, hx⟩ : ∃ x, l[i]? = some x := ⟨l[i]'(by omega), List.getElem?_eq_getElem _⟩
  have hin2 : i < n := by omega
  have hfit : fitsB l f 112 (i : Nat) = (fun (l : List Nd) (f : Nat) (t k : Int) => decide (t ≥ 10) && decide (t ≤ 12)) l f (kindAt l (i : Nat)) (i : Nat) := rfl
  dsimp only at hfit
  rw [kindAt_of hx] at hfit
  obtain ⟨b, off, rfl, hbl, d0, d1, d2, d3, d4, d5⟩ := hN.rows.nd hx
  have hl := hC.l
  obtain ⟨v0, e0⟩ : ∃ v, (decide (x.kind ≥ 10)) = v := ⟨_, rfl⟩
  obtain ⟨v1, e1⟩ : ∃ v, (decide (x.kind ≤ 12)) = v := ⟨_, rfl⟩
  rw [e0, e1] at hfit
  rw [hfit]
  clear hn hx hK hL hU hfit d1 d2 d3 d4 d5
  go_enter Tryd.func54, Tryd.ntmps54
  cases v0 <;> cases v1
  all_goals
    go_wp2_with fail
    go_ret
    exact ⟨rfl, Below.refl _ _⟩
theorem fits_71 (hC : Ck w cb A n c) (hN : Nds w w.heap.size A l) (hn : l.length = n) (hK : KidsOk l N) (hL : LabOk l N) (hU : FuncOk l N) (hNn : N ≤ n) {i : Nat} (hi : i < N) (hif : i < f) :
    Calls Tryd.prog 54 #[.pointer (some ⟨cb, 0, none⟩), .int .u8 71, .int .i64 (i : Nat)] w fun e w' => e = .returned (.bool (fitsB l f 71 (i : Nat))) ∧ Below w.heap.size w w' := by
  have hs := hN.small.1
  rw [hn] at hs
  obtain ⟨x, hx⟩ : ∃ x, l[i]? = some x := ⟨l[i]'(by omega), List.getElem?_eq_getElem _⟩
  have hin2 : i < n := by omega
  have hfit : fitsB l f 71 (i : Nat) = (fun (l : List Nd) (f : Nat) (t k : Int) => (t == 13) && (parK l k).isEmpty) l f (kindAt l (i : Nat)) (i : Nat) := rfl
  dsimp only at hfit
  rw [kindAt_of hx] at hfit
  by_cases h13 : x.kind = 13
  · obtain ⟨p', hp⟩ := hU i x hi hx h13
    obtain ⟨hp0, hpi⟩ := hK i x hi hx p' (List.mem_of_getElem? hp)
    obtain ⟨p, rfl⟩ : ∃ p : Nat, p' = p := ⟨p'.toNat, by omega⟩
    obtain ⟨y, hy⟩ : ∃ y, l[p]? = some y := ⟨l[p]'(by omega), List.getElem?_eq_getElem _⟩
    have hcall := params_any hC hN hn hx hp hy (fun z hz => by have := hK p y (by omega) hy z hz; omega)
    rw [h13, parK_of hx hp hy, show ((13 : Int) == 13) = true from rfl, Bool.true_and] at hfit
    have hky := hN.small.2 y (List.mem_of_getElem? hy)
    have hkl : (ksOf l y).length = y.kids.length := by unfold ksOf; rw [List.length_map]
    obtain ⟨b, off, rfl, hbl, d0, d1, d2, d3, d4, d5⟩ := hN.rows.nd hx
    have hl := hC.l
    rw [h13] at d0
    obtain ⟨m, hm⟩ : ∃ m, y.kids.length = m := ⟨_, rfl⟩
    rw [hm] at hcall hky hkl
    obtain ⟨ks, hks⟩ : ∃ ks, ksOf l y = ks := ⟨_, rfl⟩
    rw [hks] at hcall hkl hfit
    have HFIT := Lib.hid hfit
    have HCALL := Lib.hid hcall
    have HKL := Lib.hid hkl
    clear hn hx hK hL hU hfit hcall hp hy hkl hm hks d1 d2 d3 d4 d5
    go_enter Tryd.func54, Tryd.ntmps54
    go_wp2_with fail
    refine HCALL.out.mono ?_
    rintro e w1 ⟨A', c', rfl, hr, ⟨hmc, hA'⟩, hb⟩
    obtain ⟨v, hv⟩ : ∃ v, ((m : Int) == 0) = v := ⟨_, rfl⟩
    have hfin : ks.isEmpty = v := by
      rw [← hv, Bool.eq_iff_iff, List.isEmpty_iff, beq_iff_eq, ← List.length_eq_zero_iff, HKL.out]; omega
    rw [hfin] at HFIT
    clear hA' hr hfin
    simp only
    go_wp2_with fail
    go_ret
    exact ⟨by rw [HFIT.out]; rfl, hb⟩
  · have h13' : (x.kind == 13) = false := by rw [beq_eq_false_iff_ne]; exact h13
    rw [h13', Bool.false_and] at hfit
    rw [hfit]
    obtain ⟨b, off, rfl, hbl, d0, d1, d2, d3, d4, d5⟩ := hN.rows.nd hx
    have hl := hC.l
    clear hn hx hK hL hU hfit h13 d1 d2 d3 d4 d5
    go_enter Tryd.func54, Tryd.ntmps54
    go_wp2_with fail
    go_ret
    exact ⟨rfl, Below.refl _ _⟩
theorem fits_83 (hC : Ck w cb A n c) (hN : Nds w w.heap.size A l) (hn : l.length = n) (hK : KidsOk l N) (hL : LabOk l N) (hU : FuncOk l N) (hNn : N ≤ n) {i : Nat} (hi : i < N) (hif : i < f) :
    Calls Tryd.prog 54 #[.pointer (some ⟨cb, 0, none⟩), .int .u8 83, .int .i64 (i : Nat)] w fun e w' => e = .returned (.bool (fitsB l f 83 (i : Nat))) ∧ Below w.heap.size w w' := by
  have hs := hN.small.1
  rw [hn] at hs
  obtain ⟨x, hx⟩ : ∃ x, l[i]? = some x := ⟨l[i]'(by omega), List.getElem?_eq_getElem _⟩
  have hin2 : i < n := by omega
  have hfit : fitsB l f 83 (i : Nat) = (fun (l : List Nd) (f : Nat) (t k : Int) => (t == 13) && (parK l k == [6])) l f (kindAt l (i : Nat)) (i : Nat) := rfl
  dsimp only at hfit
  rw [kindAt_of hx] at hfit
  by_cases h13 : x.kind = 13
  · obtain ⟨p', hp⟩ := hU i x hi hx h13
    obtain ⟨hp0, hpi⟩ := hK i x hi hx p' (List.mem_of_getElem? hp)
    obtain ⟨p, rfl⟩ : ∃ p : Nat, p' = p := ⟨p'.toNat, by omega⟩
    obtain ⟨y, hy⟩ : ∃ y, l[p]? = some y := ⟨l[p]'(by omega), List.getElem?_eq_getElem _⟩
    have hcall := params_any hC hN hn hx hp hy (fun z hz => by have := hK p y (by omega) hy z hz; omega)
    rw [h13, parK_of hx hp hy, show ((13 : Int) == 13) = true from rfl, Bool.true_and] at hfit
    have hky := hN.small.2 y (List.mem_of_getElem? hy)
    have hkl : (ksOf l y).length = y.kids.length := by unfold ksOf; rw [List.length_map]
    obtain ⟨b, off, rfl, hbl, d0, d1, d2, d3, d4, d5⟩ := hN.rows.nd hx
    have hl := hC.l
    rw [h13] at d0
    obtain ⟨m, hm⟩ : ∃ m, y.kids.length = m := ⟨_, rfl⟩
    rw [hm] at hcall hky hkl
    obtain ⟨ks, hks⟩ : ∃ ks, ksOf l y = ks := ⟨_, rfl⟩
    rw [hks] at hcall hkl hfit
    have HFIT := Lib.hid hfit
    have HCALL := Lib.hid hcall
    have HKL := Lib.hid hkl
    clear hn hx hK hL hU hfit hcall hp hy hkl hm hks d1 d2 d3 d4 d5
    go_enter Tryd.func54, Tryd.ntmps54
    go_wp2_with fail
    refine HCALL.out.mono ?_
    rintro e w1 ⟨A', c', rfl, hr, ⟨hmc, hA'⟩, hb⟩
    simp only
    have y6 := heap_alloc_new w1 (.cells #[.int .i64 6] 3)
    have b6 : Below w1.heap.size w1 (w1.alloc (.cells #[.int .i64 6] 3)) := (Below.refl _ _).alloc (Nat.le_refl _) _
    by_cases hm0 : m = 0
    · subst hm0
      have hfin : (ks == [6]) = false := by rw [List.length_eq_zero_iff.1 HKL.out]; rfl
      rw [hfin] at HFIT
      clear hA' hr hfin y6
      go_wp2_with fail
      refine (Go.Proofs.Tryd.slices_Equal_int_empty _ _ _ _ _ _ (by omega)).mono ?_
      rintro e w2 ⟨rfl, rfl⟩
      simp only
      go_wp2_with fail
      go_ret
      exact ⟨by rw [HFIT.out]; rfl, hb.trans (b6.mono hb.size)⟩
    · obtain ⟨g, rfl⟩ := hA' hm0
      have c6 : (w1.alloc (.cells #[.int .i64 6] 3)).cell? ⟨w1.heap.size, 0, none⟩ = some (.int .i64 6) := by rw [cell_blockK y6 0]; rfl
      have heq := Go.Proofs.Tryd.slices_Equal_int g 0 m c' w1.heap.size 0 1 1 ks [6] (w1.alloc (.cells #[.int .i64 6] 3)) (by rw [HKL.out]; exact Nat.le_refl _) (Nat.le_refl _) (by omega) (by omega) (fun j hj => by
        obtain ⟨ad, h1, _, h2⟩ := (hr.below b6).at_ (k := j) (u := .int .i64 (ks.getD j 0)) (by unfold ints; rw [List.getElem?_map, List.getD_eq_getElem?_getD, List.getElem?_eq_getElem hj]; rfl)
        obtain rfl := Option.some.inj h1
        rw [Addr.add_lit] at h2
        exact h2) (fun j hj => by
        obtain rfl : j = 0 := by simpa using hj
        exact c6)
      rw [List.take_of_length_le (by rw [HKL.out]; exact Nat.le_refl _)] at heq
      have heq2 : ([6] : List Int).take 1 = [6] := rfl
      rw [heq2] at heq
      generalize (ks == [6]) = v at heq HFIT
      have HEQ := Lib.hid heq
      clear hA' hr heq heq2 y6 c6
      go_wp2_with fail
      refine HEQ.out.mono ?_
      rintro e w2 ⟨rfl, q, rfl⟩
      simp only
      go_wp2_with fail
      go_ret
      exact ⟨by rw [HFIT.out]; rfl, below_drewN (hb.trans (b6.mono hb.size)) q⟩
  · have h13' : (x.kind == 13) = false := by rw [beq_eq_false_iff_ne]; exact h13
    rw [h13', Bool.false_and] at hfit
    rw [hfit]
    obtain ⟨b, off, rfl, hbl, d0, d1, d2, d3, d4, d5⟩ := hN.rows.nd hx
    have hl := hC.l
    clear hn hx hK hL hU hfit h13 d1 d2 d3 d4 d5
    go_enter Tryd.func54, Tryd.ntmps54
    go_wp2_with fail
    go_ret
    exact ⟨rfl, Below.refl _ _⟩
theorem fits_80 (hC : Ck w cb A n c) (hN : Nds w w.heap.size A l) (hn : l.length = n) (hK : KidsOk l N) (hL : LabOk l N) (hU : FuncOk l N) (hNn : N ≤ n) {i : Nat} (hi : i < N) (hif : i < f) :
    Calls Tryd.prog 54 #[.pointer (some ⟨cb, 0, none⟩), .int .u8 80, .int .i64 (i : Nat)] w fun e w' => e = .returned (.bool (fitsB l f 80 (i : Nat))) ∧ Below w.heap.size w w' := by
  have hs := hN.small.1
  rw [hn] at hs
  obtain ⟨x, hx⟩ : ∃ x, l[i]? = some x := ⟨l[i]'(by omega), List.getElem?_eq_getElem _⟩
  have hin2 : i < n := by omega
  have hfit : fitsB l f 80 (i : Nat) = (fun (l : List Nd) (f : Nat) (t k : Int) => t == 30) l f (kindAt l (i : Nat)) (i : Nat) := rfl
  dsimp only at hfit
  rw [kindAt_of hx] at hfit
  obtain ⟨b, off, rfl, hbl, d0, d1, d2, d3, d4, d5⟩ := hN.rows.nd hx
  have hl := hC.l
  obtain ⟨v0, e0⟩ : ∃ v, (x.kind == 30) = v := ⟨_, rfl⟩
  rw [e0] at hfit
  rw [hfit]
  clear hn hx hK hL hU hfit d1 d2 d3 d4 d5
  go_enter Tryd.func54, Tryd.ntmps54
  cases v0
  all_goals
    go_wp2_with fail
    go_ret
    exact ⟨rfl, Below.refl _ _⟩
theorem fits_66 (hC : Ck w cb A n c) (hN : Nds w w.heap.size A l) (hn : l.length = n) (hK : KidsOk l N) (hL : LabOk l N) (hU : FuncOk l N) (hNn : N ≤ n) {i : Nat} (hi : i < N) (hif : i < f) :
    Calls Tryd.prog 54 #[.pointer (some ⟨cb, 0, none⟩), .int .u8 66, .int .i64 (i : Nat)] w fun e w' => e = .returned (.bool (fitsB l f 66 (i : Nat))) ∧ Below w.heap.size w w' := by
  have hs := hN.small.1
  rw [hn] at hs
  obtain ⟨x, hx⟩ : ∃ x, l[i]? = some x := ⟨l[i]'(by omega), List.getElem?_eq_getElem _⟩
  have hin2 : i < n := by omega
  have hfit : fitsB l f 66 (i : Nat) = (fun (l : List Nd) (f : Nat) (t k : Int) => t == 32) l f (kindAt l (i : Nat)) (i : Nat) := rfl
  dsimp only at hfit
  rw [kindAt_of hx] at hfit
  obtain ⟨b, off, rfl, hbl, d0, d1, d2, d3, d4, d5⟩ := hN.rows.nd hx
  have hl := hC.l
  obtain ⟨v0, e0⟩ : ∃ v, (x.kind == 32) = v := ⟨_, rfl⟩
  rw [e0] at hfit
  rw [hfit]
  clear hn hx hK hL hU hfit d1 d2 d3 d4 d5
  go_enter Tryd.func54, Tryd.ntmps54
  cases v0
  all_goals
    go_wp2_with fail
    go_ret
    exact ⟨rfl, Below.refl _ _⟩
theorem fits_65 (hC : Ck w cb A n c) (hN : Nds w w.heap.size A l) (hn : l.length = n) (hK : KidsOk l N) (hL : LabOk l N) (hU : FuncOk l N) (hNn : N ≤ n) {i : Nat} (hi : i < N) (hif : i < f) :
    Calls Tryd.prog 54 #[.pointer (some ⟨cb, 0, none⟩), .int .u8 65, .int .i64 (i : Nat)] w fun e w' => e = .returned (.bool (fitsB l f 65 (i : Nat))) ∧ Below w.heap.size w w' := by
  have hs := hN.small.1
  rw [hn] at hs
  obtain ⟨x, hx⟩ : ∃ x, l[i]? = some x := ⟨l[i]'(by omega), List.getElem?_eq_getElem _⟩
  have hin2 : i < n := by omega
  have hfit : fitsB l f 65 (i : Nat) = (fun (l : List Nd) (f : Nat) (t k : Int) => (t == 32) || exprB t) l f (kindAt l (i : Nat)) (i : Nat) := rfl
  dsimp only at hfit
  rw [kindAt_of hx] at hfit
  obtain ⟨b, off, rfl, hbl, d0, d1, d2, d3, d4, d5⟩ := hN.rows.nd hx
  have hl := hC.l
  have hcall := expr_any x.kind w
  obtain ⟨v0, e0⟩ : ∃ v, (x.kind == 32) = v := ⟨_, rfl⟩
  obtain ⟨vE, eE⟩ : ∃ v, exprB x.kind = v := ⟨_, rfl⟩
  rw [e0, eE] at hfit
  rw [eE] at hcall
  rw [hfit]
  clear hn hx hK hL hU hfit d1 d2 d3 d4 d5 eE
  go_enter Tryd.func54, Tryd.ntmps54
  cases v0 <;> cases vE
  all_goals
    go_wp2_with fail
    try
      (refine Calls.mono hcall ?_
       rintro e w1 ⟨rfl, rfl⟩
       simp only
       go_wp2_with fail)
    go_ret
    exact ⟨rfl, Below.refl _ _⟩
theorem fits_78 (hC : Ck w cb A n c) (hN : Nds w w.heap.size A l) (hn : l.length = n) (hK : KidsOk l N) (hL : LabOk l N) (hU : FuncOk l N) (hNn : N ≤ n) {i : Nat} (hi : i < N) (hif : i < f) :
    Calls Tryd.prog 54 #[.pointer (some ⟨cb, 0, none⟩), .int .u8 78, .int .i64 (i : Nat)] w fun e w' => e = .returned (.bool (fitsB l f 78 (i : Nat))) ∧ Below w.heap.size w w' := by
  have hs := hN.small.1
  rw [hn] at hs
  obtain ⟨x, hx⟩ : ∃ x, l[i]? = some x := ⟨l[i]'(by omega), List.getElem?_eq_getElem _⟩
  have hin2 : i < n := by omega
  have hfit : fitsB l f 78 (i : Nat) = (fun (l : List Nd) (f : Nat) (t k : Int) => (t == 32) || (t == 54)) l f (kindAt l (i : Nat)) (i : Nat) := rfl
  dsimp only at hfit
  rw [kindAt_of hx] at hfit
  obtain ⟨b, off, rfl, hbl, d0, d1, d2, d3, d4, d5⟩ := hN.rows.nd hx
  have hl := hC.l
  obtain ⟨v0, e0⟩ : ∃ v, (x.kind == 32) = v := ⟨_, rfl⟩
  obtain ⟨v1, e1⟩ : ∃ v, (x.kind == 54) = v := ⟨_, rfl⟩
  rw [e0, e1] at hfit
  rw [hfit]
  clear hn hx hK hL hU hfit d1 d2 d3 d4 d5
  go_enter Tryd.func54, Tryd.ntmps54
  cases v0 <;> cases v1
  all_goals
    go_wp2_with fail
    go_ret
    exact ⟨rfl, Below.refl _ _⟩
theorem fits_110 (hC : Ck w cb A n c) (hN : Nds w w.heap.size A l) (hn : l.length = n) (hK : KidsOk l N) (hL : LabOk l N) (hU : FuncOk l N) (hNn : N ≤ n) {i : Nat} (hi : i < N) (hif : i < f) :
    Calls Tryd.prog 54 #[.pointer (some ⟨cb, 0, none⟩), .int .u8 110, .int .i64 (i : Nat)] w fun e w' => e = .returned (.bool (fitsB l f 110 (i : Nat))) ∧ Below w.heap.size w w' := by
  have hs := hN.small.1
  rw [hn] at hs
  obtain ⟨x, hx⟩ : ∃ x, l[i]? = some x := ⟨l[i]'(by omega), List.getElem?_eq_getElem _⟩
  have hin2 : i < n := by omega
  have hfit : fitsB l f 110 (i : Nat) = (fun (l : List Nd) (f : Nat) (t k : Int) => t == 6) l f (kindAt l (i : Nat)) (i : Nat) := rfl
  dsimp only at hfit
  rw [kindAt_of hx] at hfit
  obtain ⟨b, off, rfl, hbl, d0, d1, d2, d3, d4, d5⟩ := hN.rows.nd hx
  have hl := hC.l
  obtain ⟨v0, e0⟩ : ∃ v, (x.kind == 6) = v := ⟨_, rfl⟩
  rw [e0] at hfit
  rw [hfit]
  clear hn hx hK hL hU hfit d1 d2 d3 d4 d5
  go_enter Tryd.func54, Tryd.ntmps54
  cases v0
  all_goals
    go_wp2_with fail
    go_ret
    exact ⟨rfl, Below.refl _ _⟩
theorem fits_114 (hC : Ck w cb A n c) (hN : Nds w w.heap.size A l) (hn : l.length = n) (hK : KidsOk l N) (hL : LabOk l N) (hU : FuncOk l N) (hNn : N ≤ n) {i : Nat} (hi : i < N) (hif : i < f) :
    Calls Tryd.prog 54 #[.pointer (some ⟨cb, 0, none⟩), .int .u8 114, .int .i64 (i : Nat)] w fun e w' => e = .returned (.bool (fitsB l f 114 (i : Nat))) ∧ Below w.heap.size w w' := by
  have hs := hN.small.1
  rw [hn] at hs
  obtain ⟨x, hx⟩ : ∃ x, l[i]? = some x := ⟨l[i]'(by omega), List.getElem?_eq_getElem _⟩
  have hin2 : i < n := by omega
  have hfit : fitsB l f 114 (i : Nat) = (fun (l : List Nd) (f : Nat) (t k : Int) => t == 31) l f (kindAt l (i : Nat)) (i : Nat) := rfl
  dsimp only at hfit
  rw [kindAt_of hx] at hfit
  obtain ⟨b, off, rfl, hbl, d0, d1, d2, d3, d4, d5⟩ := hN.rows.nd hx
  have hl := hC.l
  obtain ⟨v0, e0⟩ : ∃ v, (x.kind == 31) = v := ⟨_, rfl⟩
  rw [e0] at hfit
  rw [hfit]
  clear hn hx hK hL hU hfit d1 d2 d3 d4 d5
  go_enter Tryd.func54, Tryd.ntmps54
  cases v0
  all_goals
    go_wp2_with fail
    go_ret
    exact ⟨rfl, Below.refl _ _⟩
theorem fits_105 (hC : Ck w cb A n c) (hN : Nds w w.heap.size A l) (hn : l.length = n) (hK : KidsOk l N) (hL : LabOk l N) (hU : FuncOk l N) (hNn : N ≤ n) {i : Nat} (hi : i < N) (hif : i < f) :
    Calls Tryd.prog 54 #[.pointer (some ⟨cb, 0, none⟩), .int .u8 105, .int .i64 (i : Nat)] w fun e w' => e = .returned (.bool (fitsB l f 105 (i : Nat))) ∧ Below w.heap.size w w' := by
  have hs := hN.small.1
  rw [hn] at hs
  obtain ⟨x, hx⟩ : ∃ x, l[i]? = some x := ⟨l[i]'(by omega), List.getElem?_eq_getElem _⟩
  have hin2 : i < n := by omega
  have hfit : fitsB l f 105 (i : Nat) = (fun (l : List Nd) (f : Nat) (t k : Int) => t == 35) l f (kindAt l (i : Nat)) (i : Nat) := rfl
  dsimp only at hfit
  rw [kindAt_of hx] at hfit
  obtain ⟨b, off, rfl, hbl, d0, d1, d2, d3, d4, d5⟩ := hN.rows.nd hx
  have hl := hC.l
  obtain ⟨v0, e0⟩ : ∃ v, (x.kind == 35) = v := ⟨_, rfl⟩
  rw [e0] at hfit
  rw [hfit]
  clear hn hx hK hL hU hfit d1 d2 d3 d4 d5
  go_enter Tryd.func54, Tryd.ntmps54
  cases v0
  all_goals
    go_wp2_with fail
    go_ret
    exact ⟨rfl, Below.refl _ _⟩
theorem fits_102 (hC : Ck w cb A n c) (hN : Nds w w.heap.size A l) (hn : l.length = n) (hK : KidsOk l N) (hL : LabOk l N) (hU : FuncOk l N) (hNn : N ≤ n) {i : Nat} (hi : i < N) (hif : i < f) :
    Calls Tryd.prog 54 #[.pointer (some ⟨cb, 0, none⟩), .int .u8 102, .int .i64 (i : Nat)] w fun e w' => e = .returned (.bool (fitsB l f 102 (i : Nat))) ∧ Below w.heap.size w w' := by
  have hs := hN.small.1
  rw [hn] at hs
  obtain ⟨x, hx⟩ : ∃ x, l[i]? = some x := ⟨l[i]'(by omega), List.getElem?_eq_getElem _⟩
  have hin2 : i < n := by omega
  have hfit : fitsB l f 102 (i : Nat) = (fun (l : List Nd) (f : Nat) (t k : Int) => (t == 33) || (t == 34) || (t == 54) || exprB t) l f (kindAt l (i : Nat)) (i : Nat) := rfl
  dsimp only at hfit
  rw [kindAt_of hx] at hfit
  obtain ⟨b, off, rfl, hbl, d0, d1, d2, d3, d4, d5⟩ := hN.rows.nd hx
  have hl := hC.l
  have hcall := expr_any x.kind w
  obtain ⟨v0, e0⟩ : ∃ v, (x.kind == 33) = v := ⟨_, rfl⟩
  obtain ⟨v1, e1⟩ : ∃ v, (x.kind == 34) = v := ⟨_, rfl⟩
  obtain ⟨v2, e2⟩ : ∃ v, (x.kind == 54) = v := ⟨_, rfl⟩
  obtain ⟨vE, eE⟩ : ∃ v, exprB x.kind = v := ⟨_, rfl⟩
  rw [e0, e1, e2, eE] at hfit
  rw [eE] at hcall
  rw [hfit]
  clear hn hx hK hL hU hfit d1 d2 d3 d4 d5 eE
  go_enter Tryd.func54, Tryd.ntmps54
  cases v0 <;> cases v1 <;> cases v2 <;> cases vE
  all_goals
    go_wp2_with fail
    try
      (refine Calls.mono hcall ?_
       rintro e w1 ⟨rfl, rfl⟩
       simp only
       go_wp2_with fail)
    go_ret
    exact ⟨rfl, Below.refl _ _⟩
theorem fits_109 (hC : Ck w cb A n c) (hN : Nds w w.heap.size A l) (hn : l.length = n) (hK : KidsOk l N) (hL : LabOk l N) (hU : FuncOk l N) (hNn : N ≤ n) {i : Nat} (hi : i < N) (hif : i < f) :
    Calls Tryd.prog 54 #[.pointer (some ⟨cb, 0, none⟩), .int .u8 109, .int .i64 (i : Nat)] w fun e w' => e = .returned (.bool (fitsB l f 109 (i : Nat))) ∧ Below w.heap.size w w' := by
  have hs := hN.small.1
  rw [hn] at hs
  obtain ⟨x, hx⟩ : ∃ x, l[i]? = some x := ⟨l[i]'(by omega), List.getElem?_eq_getElem _⟩
  have hin2 : i < n := by omega
  have hfit : fitsB l f 109 (i : Nat) = (fun (l : List Nd) (f : Nat) (t k : Int) => (t == 54) || exprB t) l f (kindAt l (i : Nat)) (i : Nat) := rfl
  dsimp only at hfit
  rw [kindAt_of hx] at hfit
  obtain ⟨b, off, rfl, hbl, d0, d1, d2, d3, d4, d5⟩ := hN.rows.nd hx
  have hl := hC.l
  have hcall := expr_any x.kind w
  obtain ⟨v0, e0⟩ : ∃ v, (x.kind == 54) = v := ⟨_, rfl⟩
  obtain ⟨vE, eE⟩ : ∃ v, exprB x.kind = v := ⟨_, rfl⟩
  rw [e0, eE] at hfit
  rw [eE] at hcall
  rw [hfit]
  clear hn hx hK hL hU hfit d1 d2 d3 d4 d5 eE
  go_enter Tryd.func54, Tryd.ntmps54
  cases v0 <;> cases vE
  all_goals
    go_wp2_with fail
    try
      (refine Calls.mono hcall ?_
       rintro e w1 ⟨rfl, rfl⟩
       simp only
       go_wp2_with fail)
    go_ret
    exact ⟨rfl, Below.refl _ _⟩
theorem fits_104 (hC : Ck w cb A n c) (hN : Nds w w.heap.size A l) (hn : l.length = n) (hK : KidsOk l N) (hL : LabOk l N) (hU : FuncOk l N) (hNn : N ≤ n) {i : Nat} (hi : i < N) (hif : i < f) :
    Calls Tryd.prog 54 #[.pointer (some ⟨cb, 0, none⟩), .int .u8 104, .int .i64 (i : Nat)] w fun e w' => e = .returned (.bool (fitsB l f 104 (i : Nat))) ∧ Below w.heap.size w w' := by
  have hs := hN.small.1
  rw [hn] at hs
  obtain ⟨x, hx⟩ : ∃ x, l[i]? = some x := ⟨l[i]'(by omega), List.getElem?_eq_getElem _⟩
  have hin2 : i < n := by omega
  have hcall := head_any hC hN hn hK hNn i hi
  have hfit : fitsB l f 104 (i : Nat) = (fun (l : List Nd) (f : Nat) (t k : Int) => headB l k) l f (kindAt l (i : Nat)) (i : Nat) := rfl
  dsimp only at hfit
  obtain ⟨b, off, rfl, hbl, d0, d1, d2, d3, d4, d5⟩ := hN.rows.nd hx
  have hl := hC.l
  obtain ⟨vE, eE⟩ : ∃ v, headB l (i : Nat) = v := ⟨_, rfl⟩
  rw [eE] at hfit
  rw [eE] at hcall
  rw [hfit]
  clear hn hx hK hL hU hfit d1 d2 d3 d4 d5 eE
  go_enter Tryd.func54, Tryd.ntmps54
  cases vE
  all_goals
    go_wp2_with fail
    refine Calls.mono hcall ?_
    rintro e w1 ⟨rfl, hb⟩
    simp only
    go_wp2_with fail
    go_ret
    exact ⟨rfl, hb⟩
theorem fits_99 (hC : Ck w cb A n c) (hN : Nds w w.heap.size A l) (hn : l.length = n) (hK : KidsOk l N) (hL : LabOk l N) (hU : FuncOk l N) (hNn : N ≤ n) {i : Nat} (hi : i < N) (hif : i < f) :
    Calls Tryd.prog 54 #[.pointer (some ⟨cb, 0, none⟩), .int .u8 99, .int .i64 (i : Nat)] w fun e w' => e = .returned (.bool (fitsB l f 99 (i : Nat))) ∧ Below w.heap.size w w' := by
  have hs := hN.small.1
  rw [hn] at hs
  obtain ⟨x, hx⟩ : ∃ x, l[i]? = some x := ⟨l[i]'(by omega), List.getElem?_eq_getElem _⟩
  have hin2 : i < n := by omega
  have hfit : fitsB l f 99 (i : Nat) = (fun (l : List Nd) (f : Nat) (t k : Int) => (t == 50) || (t == 51)) l f (kindAt l (i : Nat)) (i : Nat) := rfl
  dsimp only at hfit
  rw [kindAt_of hx] at hfit
  obtain ⟨b, off, rfl, hbl, d0, d1, d2, d3, d4, d5⟩ := hN.rows.nd hx
  have hl := hC.l
  obtain ⟨v0, e0⟩ : ∃ v, (x.kind == 50) = v := ⟨_, rfl⟩
  obtain ⟨v1, e1⟩ : ∃ v, (x.kind == 51) = v := ⟨_, rfl⟩
  rw [e0, e1] at hfit
  rw [hfit]
  clear hn hx hK hL hU hfit d1 d2 d3 d4 d5
  go_enter Tryd.func54, Tryd.ntmps54
  cases v0 <;> cases v1
  all_goals
    go_wp2_with fail
    go_ret
    exact ⟨rfl, Below.refl _ _⟩
theorem fits_any (hC : Ck w cb A n c) (hN : Nds w w.heap.size A l) (hn : l.length = n) (hK : KidsOk l N) (hL : LabOk l N) (hU : FuncOk l N) (hNn : N ≤ n) {i : Nat} (hi : i < N) (hif : i < f) {a : Nat} (ha : a ∈ letters) :
    Calls Tryd.prog 54 #[.pointer (some ⟨cb, 0, none⟩), .int .u8 (a : Nat), .int .i64 (i : Nat)] w fun e w' => e = .returned (.bool (fitsB l f a (i : Nat))) ∧ Below w.heap.size w w' := by
  simp only [letters, List.mem_cons, List.not_mem_nil, or_false] at ha
  rcases ha with rfl | rfl | rfl | rfl | rfl | rfl | rfl | rfl | rfl | rfl | rfl | rfl | rfl | rfl | rfl | rfl | rfl | rfl | rfl | rfl
  · exact fits_101 hC hN hn hK hL hU hNn hi hif
  · exact fits_97 hC hN hn hK hL hU hNn hi hif
  · exact fits_115 hC hN hn hK hL hU hNn hi hif
  · exact fits_98 hC hN hn hK hL hU hNn hi hif
  · exact fits_116 hC hN hn hK hL hU hNn hi hif
  · exact fits_107 hC hN hn hK hL hU hNn hi hif
  · exact fits_112 hC hN hn hK hL hU hNn hi hif
  · exact fits_71 hC hN hn hK hL hU hNn hi hif
  · exact fits_83 hC hN hn hK hL hU hNn hi hif
  · exact fits_80 hC hN hn hK hL hU hNn hi hif
  · exact fits_66 hC hN hn hK hL hU hNn hi hif
  · exact fits_65 hC hN hn hK hL hU hNn hi hif
  · exact fits_78 hC hN hn hK hL hU hNn hi hif
  · exact fits_110 hC hN hn hK hL hU hNn hi hif
  · exact fits_114 hC hN hn hK hL hU hNn hi hif
  · exact fits_105 hC hN hn hK hL hU hNn hi hif
  · exact fits_102 hC hN hn hK hL hU hNn hi hif
  · exact fits_109 hC hN hn hK hL hU hNn hi hif
  · exact fits_104 hC hN hn hK hL hU hNn hi hif
  · exact fits_99 hC hN hn hK hL hU hNn hi hif
end
end Go.Proofs.YtgnpgdjjdhlhaaaDoor
