/- Bodies, heads: the document's and the checker's. -/
import Derived.Test.YtgnpgdjjdhlhaaaDoorTRows
import Derived.Test.YtgnpgdjjdhlhaaaDoorTNode
namespace Go.Proofs.YtgnpgdjjdhlhaaaDoor
open Go.RowKit
set_option maxHeartbeats 4000000
set_option maxRecDepth 100000
attribute [local go_sem] Oper.semAt_some store_floatK

def kidsAt (l : List Nd) (k : Int) : List Int := ((l[k.toNat]?).map Nd.kids).getD []
theorem kidsAt_of {l : List Nd} {k : Nat} {x : Nd} (h : l[k]? = some x) : kidsAt l k = x.kids := by
  unfold kidsAt
  rw [Int.toNat_natCast, h]
  rfl
def bodyK (k : Int) : Bool := stmtB k && !(k == 33) && !(k == 34) && !(k == 53)
def bodyB (l : List Nd) : Nat → Int → Bool
  | 0, _ => false
  | f + 1, k => if kindAt l k == 52 then (match kidsAt l k with | [y] => bodyB l f y | _ => true) else bodyK (kindAt l k)
def oneB (l : List Nd) (k : Int) : Bool := match kidsAt l k with
  | [y] => (kidsAt l y).isEmpty
  | _ => false
def headB (l : List Nd) (k : Int) : Bool := (kindAt l k == 6) || (((kindAt l k == 33) || (kindAt l k == 34)) && oneB l k)
/-- all kids stand ahead, up to a node -/
def KidsOk (l : List Nd) (N : Nat) : Prop := ∀ (i : Nat) (x : Nd), i < N → l[i]? = some x → ∀ y ∈ x.kids, 0 ≤ y ∧ y < (i : Int)
theorem body_one {l : List Nd} {f i : Nat} {x : Nd} {y : Int} (h : l[i]? = some x) (hk : x.kind = 52) (hy : x.kids = [y]) : bodyB l (f + 1) i = bodyB l f y := by
  conv => lhs; unfold bodyB
  rw [kindAt_of h, kidsAt_of h, hk, hy]
  rfl
theorem body_many {l : List Nd} {f i : Nat} {x : Nd} (h : l[i]? = some x) (hk : x.kind = 52) (hy : x.kids.length ≠ 1) : bodyB l (f + 1) i = true := by
  conv => lhs; unfold bodyB
  rw [kindAt_of h, kidsAt_of h, hk]
  match hx : x.kids with
  | [] => rfl
  | [y] => rw [hx] at hy; exact absurd rfl hy
  | _ :: _ :: _ => rfl
theorem body_not {l : List Nd} {f i : Nat} {x : Nd} (h : l[i]? = some x) (hk : (x.kind == 52) = false) : bodyB l (f + 1) i = bodyK x.kind := by
  conv => lhs; unfold bodyB
  rw [kindAt_of h, hk]
  rfl
section
variable {w : World} {A : Option Addr} {n c : Nat} {l : List Nd}
theorem refbody_any {N : Nat} (hN : Nds w w.heap.size A l) (hn : l.length = n) (hK : KidsOk l N) (hNn : N ≤ n) : ∀ (f i : Nat), i < f → i < N →
    Calls Tryd.prog 45 #[.slice A n c, .int .i64 (i : Nat)] w fun e w' => e = .returned (.bool (bodyB l f i)) ∧ w' = w := by
  have hs := hN.small.1
  rw [hn] at hs
  intro f
  induction f with
  | zero => intro i hi; omega
  | succ f ih =>
    intro i hif hiN
    obtain ⟨x, hx⟩ : ∃ x, l[i]? = some x := ⟨l[i]'(by omega), List.getElem?_eq_getElem _⟩
    have hxm := List.mem_of_getElem? hx
    have hin := hK i x hiN hx
    obtain ⟨b, off, rfl, hbl, d0, d1, d2, d3, d4, d5⟩ := hN.rows.nd hx
    have hks := hN.small.2 x hxm
    have HN := Lib.hid hn
    have HIH := Lib.hid ih
    have HX := Lib.hid hx
    have hin2 : i < n := by omega
    clear ih hn hx
    by_cases h52 : x.kind = 52
    · rw [h52] at d0
      by_cases h1 : x.kids.length = 1
      · obtain ⟨y, hy⟩ : ∃ y, x.kids = [y] := by
          match hx : x.kids, h1 with
          | [y], _ => exact ⟨y, rfl⟩
        obtain ⟨hy0, hyi⟩ := hin y (by rw [hy]; simp)
        obtain ⟨q, rfl⟩ : ∃ q : Nat, y = q := ⟨y.toNat, by omega⟩
        rw [body_one HX.out h52 hy]
        have hrec := HIH.out q (by omega) (by omega)
        obtain ⟨kb, ko, hkA, _, hc⟩ := (hN.each x hxm).kid (k := 0) (x := (q : Int)) (by rw [hy]; rfl)
        rw [h1, hkA] at d4
        rw [Nat.add_zero] at hc
        generalize bodyB l f (q : Int) = v at hrec ⊢
        clear hy hkA h1
        have hqi : ¬ ((q : Int) ≥ i) := by omega
        go_enter Tryd.func45, Tryd.ntmps45
        go_wp2_with fail
        refine hrec.mono ?_
        rintro e w1 ⟨rfl, rfl⟩
        simp only
        go_wp2_with fail
        go_ret
        exact ⟨rfl, rfl⟩
      · rw [body_many HX.out h52 h1]
        obtain ⟨kn, hkn⟩ : ∃ m, x.kids.length = m := ⟨_, rfl⟩
        rw [hkn] at d4 h1
        have h1' : ((kn : Int) == 1) = false := by rw [beq_eq_false_iff_ne]; omega
        have hst := refstmt_any 52 w
        rw [show stmtB 52 = true from rfl] at hst
        clear hkn
        go_enter Tryd.func45, Tryd.ntmps45
        go_wp2_with fail
        refine hst.mono ?_
        rintro e w1 ⟨rfl, rfl⟩
        simp only
        go_wp2_with fail
        go_ret
        exact ⟨rfl, rfl⟩
    · have h52' : (x.kind == 52) = false := by rw [beq_eq_false_iff_ne]; exact h52
      rw [body_not HX.out h52']
      have hst := refstmt_any x.kind w
      obtain ⟨v0, e0⟩ : ∃ v, stmtB x.kind = v := ⟨_, rfl⟩
      obtain ⟨v1, e1⟩ : ∃ v, (x.kind == 33) = v := ⟨_, rfl⟩
      obtain ⟨v2, e2⟩ : ∃ v, (x.kind == 34) = v := ⟨_, rfl⟩
      obtain ⟨v3, e3⟩ : ∃ v, (x.kind == 53) = v := ⟨_, rfl⟩
      have e1' : (x.kind != 33) = !v1 := by rw [bne, e1]
      have e2' : (x.kind != 34) = !v2 := by rw [bne, e2]
      have e3' : (x.kind != 53) = !v3 := by rw [bne, e3]
      unfold bodyK
      rw [e0, e1, e2, e3]
      rw [e0] at hst
      clear d4 hxm hks hin h52
      go_enter Tryd.func45, Tryd.ntmps45
      go_wp2_with fail
      refine hst.mono ?_
      rintro e w1 ⟨rfl, rfl⟩
      cases v0 <;> cases v1 <;> cases v2 <;> cases v3
      all_goals
        simp only
        go_wp2_with fail
        go_ret
        exact ⟨rfl, rfl⟩

theorem one_len {l : List Nd} {i : Nat} {x : Nd} (h : l[i]? = some x) (hy : x.kids.length ≠ 1) : oneB l i = false := by
  unfold oneB
  rw [kidsAt_of h]
  match hx : x.kids with
  | [] => rfl
  | [y] => rw [hx] at hy; exact absurd rfl hy
  | _ :: _ :: _ => rfl
theorem one_one {l : List Nd} {i q : Nat} {x z : Nd} (h : l[i]? = some x) (hy : x.kids = [(q : Int)]) (hz : l[q]? = some z) : oneB l i = decide (z.kids.length = 0) := by
  unfold oneB
  rw [kidsAt_of h, hy]
  show (kidsAt l q).isEmpty = _
  rw [kidsAt_of hz]
  cases z.kids <;> rfl
theorem refone_any {N : Nat} (hN : Nds w w.heap.size A l) (hn : l.length = n) (hK : KidsOk l N) (hNn : N ≤ n) (i : Nat) (hi : i < N) :
    Calls Tryd.prog 47 #[.slice A n c, .int .i64 (i : Nat)] w fun e w' => e = .returned (.bool (oneB l i)) ∧ Below w.heap.size w w' := by
  have hs := hN.small.1
  rw [hn] at hs
  obtain ⟨x, hx⟩ : ∃ x, l[i]? = some x := ⟨l[i]'(by omega), List.getElem?_eq_getElem _⟩
  have hxm := List.mem_of_getElem? hx
  have hin := hK i x hi hx
  have hks := hN.small.2 x hxm
  have hin2 : i < n := by omega
  obtain ⟨kn, hkn⟩ : ∃ m, x.kids.length = m := ⟨_, rfl⟩
  have y1 := heap_alloc_new w (.cells #[.int .i64 x.kind, .string x.text, .string x.str, .float .f64 x.num, .slice x.kA kn x.kC, .int .i64 x.at_] 39)
  have b1 : Below w.heap.size w (w.alloc (.cells #[.int .i64 x.kind, .string x.text, .string x.str, .float .f64 x.num, .slice x.kA kn x.kC, .int .i64 x.at_] 39)) := (Below.refl _ _).alloc (Nat.le_refl _) _
  obtain ⟨w1, hw1⟩ : ∃ w1, w.alloc (.cells #[.int .i64 x.kind, .string x.text, .string x.str, .float .f64 x.num, .slice x.kA kn x.kC, .int .i64 x.at_] 39) = w1 := ⟨_, rfl⟩
  rw [hw1] at y1 b1
  have g4 := cell_blockK y1 4
  simp at g4
  by_cases h1 : x.kids.length = 1
  · obtain ⟨y, hy⟩ : ∃ y, x.kids = [y] := by
      match hx : x.kids, h1 with
      | [y], _ => exact ⟨y, rfl⟩
    obtain ⟨hy0, hyi⟩ := hin y (by rw [hy]; simp)
    obtain ⟨q, rfl⟩ : ∃ q : Nat, y = q := ⟨y.toNat, by omega⟩
    obtain ⟨z, hz⟩ : ∃ z, l[q]? = some z := ⟨l[q]'(by omega), List.getElem?_eq_getElem _⟩
    rw [one_one hx hy hz]
    obtain ⟨kb, ko, hkA, _, hc⟩ := ((hN.each x hxm).below b1 b1.size).kid (k := 0) (x := (q : Int)) (by rw [hy]; rfl)
    obtain ⟨b, off, rfl, hbl, d0, d1, d2, d3, d4, d5⟩ := hN.rows.nd hx
    obtain ⟨b', off', hA', _, z0, z1, z2, z3, z4, z5⟩ := (hN.below b1 b1.size).rows.nd hz
    cases hA'
    obtain rfl : kn = 1 := by omega
    rw [Nat.add_zero] at hc
    rw [hkn] at d4
    rw [hkA] at d4 g4
    obtain ⟨zn, hzn⟩ : ∃ m, z.kids.length = m := ⟨_, rfl⟩
    rw [hzn] at z4 ⊢
    have hqn : q < n := by omega
    have hzs := hN.small.2 z (List.mem_of_getElem? hz)
    rw [hzn] at hzs
    rw [hkA] at hw1
    clear hn hx hz hy hkn hin hK hzn h1
    obtain ⟨v, hv⟩ : ∃ v, decide (zn = 0) = v := ⟨_, rfl⟩
    have hv2 : ((zn : Int) == 0) = v := by rw [← hv]; show decide ((zn : Int) = 0) = _; congr 1; simp
    rw [hv]
    clear hv
    go_enter Tryd.func47, Tryd.ntmps47
    go_wp2_with fail
    go_ret
    exact ⟨rfl, b1⟩
  · rw [one_len hx h1]
    obtain ⟨b, off, rfl, hbl, d0, d1, d2, d3, d4, d5⟩ := hN.rows.nd hx
    rw [hkn] at d4 h1
    have h1' : ((kn : Int) == 1) = false := by rw [beq_eq_false_iff_ne]; omega
    clear hn hx hkn hin hK
    go_enter Tryd.func47, Tryd.ntmps47
    go_wp2_with fail
    go_ret
    exact ⟨rfl, b1⟩
/-- a label has one kid, up to a node -/
def LabOk (l : List Nd) (N : Nat) : Prop := ∀ (i : Nat) (x : Nd), i < N → l[i]? = some x → x.kind = 52 → x.kids.length = 1
theorem body_any {N cb f i : Nat} (hN : Nds w w.heap.size A l) (hn : l.length = n) (hK : KidsOk l N) (hL : LabOk l N) (hNn : N ≤ n) (hC : Ck w cb A n c) (hif : i < f) (hiN : i < N) :
    Calls Tryd.prog 67 #[.pointer (some ⟨cb, 0, none⟩), .int .i64 (i : Nat)] w fun e w' => e = .returned (.bool (bodyB l f i)) ∧ w' = w := by
  have hs := hN.small.1
  rw [hn] at hs
  have HN := Lib.hid hn
  have HL := Lib.hid hL
  have HK := Lib.hid hK
  clear hn hL hK
  have hl := hC.l
  go_enter Tryd.func67, Tryd.ntmps67
  go_wp2_with fail
  go_loopw [1] (fun v wr => ∃ j f' : Nat, j < f' ∧ j ≤ i ∧ v = .int .i64 j ∧ wr = w ∧ bodyB l f i = bodyB l f' j) (fun v _ => (intOf v).toNat)
  case atStart => exact ⟨i, f, hif, Nat.le_refl _, rfl, rfl, rfl⟩
  case round =>
    obtain ⟨j, f', hjf, hji, rfl, rfl, hf⟩ := hrel
    have HF := Lib.hid hf
    clear hf
    obtain ⟨F, rfl⟩ : ∃ F, f' = F + 1 := ⟨f' - 1, by omega⟩
    obtain ⟨x, hx⟩ : ∃ x, l[j]? = some x := ⟨l[j]'(by have := HN.out; omega), List.getElem?_eq_getElem _⟩
    have hxm := List.mem_of_getElem? hx
    obtain ⟨b, off, rfl, hbl, d0, d1, d2, d3, d4, d5⟩ := hN.rows.nd hx
    have hjn : j < n := by omega
    have HX := Lib.hid hx
    clear hx
    by_cases h52 : x.kind = 52
    · rw [h52] at d0
      have h1 := HL.out j x (by omega) HX.out h52
      obtain ⟨y, hy⟩ : ∃ y, x.kids = [y] := by
        match hx : x.kids, h1 with
        | [y], _ => exact ⟨y, rfl⟩
      obtain ⟨hy0, hyi⟩ := HK.out j x (by omega) HX.out y (by rw [hy]; simp)
      obtain ⟨q, rfl⟩ : ∃ q : Nat, y = q := ⟨y.toNat, by omega⟩
      obtain ⟨kb, ko, hkA, _, hc⟩ := (hN.each x hxm).kid (k := 0) (x := (q : Int)) (by rw [hy]; rfl)
      rw [h1, hkA] at d4
      rw [Nat.add_zero] at hc
      have hfin : bodyB l f i = bodyB l F q := by rw [HF.out, body_one HX.out h52 hy]
      have HFIN := Lib.hid hfin
      clear hfin hy hkA h1
      go_wp2_with fail
      go_roundw
      case rel => exact ⟨q, F, by omega, by omega, by go_num, trivial, HFIN.out⟩
      case measure => simp [intOf]; omega
    · have h52' : (x.kind == 52) = false := by rw [beq_eq_false_iff_ne]; exact h52
      have hfin : bodyB l f i = bodyK x.kind := by rw [HF.out, body_not HX.out h52']
      have hst := stmt_any x.kind wr
      obtain ⟨v0, e0⟩ : ∃ v, stmtB x.kind = v := ⟨_, rfl⟩
      obtain ⟨v1, e1⟩ : ∃ v, (x.kind == 33) = v := ⟨_, rfl⟩
      obtain ⟨v2, e2⟩ : ∃ v, (x.kind == 34) = v := ⟨_, rfl⟩
      obtain ⟨v3, e3⟩ : ∃ v, (x.kind == 53) = v := ⟨_, rfl⟩
      have e1' : (x.kind != 33) = !v1 := by rw [bne, e1]
      have e2' : (x.kind != 34) = !v2 := by rw [bne, e2]
      have e3' : (x.kind != 53) = !v3 := by rw [bne, e3]
      unfold bodyK at hfin
      rw [e0, e1, e2, e3] at hfin
      rw [e0] at hst
      have HFIN := Lib.hid hfin
      clear d4 hxm h52 hfin
      go_wp2_with fail
      refine hst.mono ?_
      rintro e w1 ⟨rfl, rfl⟩
      cases v0 <;> cases v1 <;> cases v2 <;> cases v3
      all_goals
        simp only
        go_wp2_with fail
        go_ret
        exact ⟨by rw [HFIN.out]; rfl, rfl⟩
theorem head_any {N cb : Nat} (hC : Ck w cb A n c) (hN : Nds w w.heap.size A l) (hn : l.length = n) (hK : KidsOk l N) (hNn : N ≤ n) (i : Nat) (hi : i < N) :
    Calls Tryd.prog 70 #[.pointer (some ⟨cb, 0, none⟩), .int .i64 (i : Nat)] w fun e w' => e = .returned (.bool (headB l i)) ∧ Below w.heap.size w w' := by
  have hs := hN.small.1
  rw [hn] at hs
  obtain ⟨x, hx⟩ : ∃ x, l[i]? = some x := ⟨l[i]'(by omega), List.getElem?_eq_getElem _⟩
  have hxm := List.mem_of_getElem? hx
  have hin := hK i x hi hx
  have hks := hN.small.2 x hxm
  have hin2 : i < n := by omega
  obtain ⟨kn, hkn⟩ : ∃ m, x.kids.length = m := ⟨_, rfl⟩
  have y1 := heap_alloc_new w (.cells #[.int .i64 x.kind, .string x.text, .string x.str, .float .f64 x.num, .slice x.kA kn x.kC, .int .i64 x.at_] 39)
  have b1 : Below w.heap.size w (w.alloc (.cells #[.int .i64 x.kind, .string x.text, .string x.str, .float .f64 x.num, .slice x.kA kn x.kC, .int .i64 x.at_] 39)) := (Below.refl _ _).alloc (Nat.le_refl _) _
  obtain ⟨w1, hw1⟩ : ∃ w1, w.alloc (.cells #[.int .i64 x.kind, .string x.text, .string x.str, .float .f64 x.num, .slice x.kA kn x.kC, .int .i64 x.at_] 39) = w1 := ⟨_, rfl⟩
  rw [hw1] at y1 b1
  have g4 := cell_blockK y1 4
  have g0 := cell_blockK y1 0
  simp at g4 g0
  have hl0 := hC.l
  have hl := (hC.below b1).l
  have hh : headB l i = ((x.kind == 6) || (((x.kind == 33) || (x.kind == 34)) && oneB l i)) := by unfold headB; rw [kindAt_of hx]
  rw [hh]
  clear hh
  by_cases h6 : x.kind = 6
  · rw [h6, show ((6 : Int) == 6) = true from rfl, Bool.true_or]
    obtain ⟨b, off, rfl, hbl, d0, d1, d2, d3, d4, d5⟩ := hN.rows.nd hx
    rw [hkn] at d4
    rw [h6] at d0 g0 hw1
    clear hn hx hkn hin hK
    go_enter Tryd.func70, Tryd.ntmps70
    go_wp2_with fail
    go_ret
    exact ⟨rfl, b1⟩
  have h6' : (x.kind == 6) = false := by rw [beq_eq_false_iff_ne]; exact h6
  rw [h6', Bool.false_or]
  by_cases hlc : x.kind = 33 ∨ x.kind = 34
  case neg =>
    have h33' : (x.kind == 33) = false := by rw [beq_eq_false_iff_ne]; exact fun e => hlc (.inl e)
    have h34' : (x.kind == 34) = false := by rw [beq_eq_false_iff_ne]; exact fun e => hlc (.inr e)
    rw [h33', h34', Bool.or_false, Bool.false_and]
    obtain ⟨b, off, rfl, hbl, d0, d1, d2, d3, d4, d5⟩ := hN.rows.nd hx
    rw [hkn] at d4
    clear hn hx hkn hin hK h6 hlc
    go_enter Tryd.func70, Tryd.ntmps70
    go_wp2_with fail
    go_ret
    exact ⟨rfl, b1⟩
  have hkk : ((x.kind == 33) || (x.kind == 34)) = true := by rcases hlc with h | h <;> rw [h] <;> rfl
  rw [hkk, Bool.true_and]
  obtain ⟨xk, hxk⟩ : ∃ v, x.kind = v := ⟨_, rfl⟩
  rw [hxk] at g0 hw1 hlc
  by_cases h1 : x.kids.length = 1
  · obtain ⟨y, hy⟩ : ∃ y, x.kids = [y] := by
      match hx : x.kids, h1 with
      | [y], _ => exact ⟨y, rfl⟩
    obtain ⟨hy0, hyi⟩ := hin y (by rw [hy]; simp)
    obtain ⟨q, rfl⟩ : ∃ q : Nat, y = q := ⟨y.toNat, by omega⟩
    obtain ⟨z, hz⟩ : ∃ z, l[q]? = some z := ⟨l[q]'(by omega), List.getElem?_eq_getElem _⟩
    rw [one_one hx hy hz]
    obtain ⟨kb, ko, hkA, _, hc⟩ := ((hN.each x hxm).below b1 b1.size).kid (k := 0) (x := (q : Int)) (by rw [hy]; rfl)
    obtain ⟨b, off, rfl, hbl, d0, d1, d2, d3, d4, d5⟩ := hN.rows.nd hx
    obtain ⟨b', off', hA', _, z0, z1, z2, z3, z4, z5⟩ := (hN.below b1 b1.size).rows.nd hz
    cases hA'
    obtain rfl : kn = 1 := by omega
    rw [Nat.add_zero] at hc
    rw [hkn] at d4
    rw [hkA] at d4 g4
    obtain ⟨zn, hzn⟩ : ∃ m, z.kids.length = m := ⟨_, rfl⟩
    rw [hzn] at z4 ⊢
    have hqn : q < n := by omega
    have hzs := hN.small.2 z (List.mem_of_getElem? hz)
    rw [hzn] at hzs
    rw [hkA] at hw1
    rw [hxk] at d0
    clear hn hx hz hy hkn hin hK hzn h1
    obtain ⟨v, hv⟩ : ∃ v, decide (zn = 0) = v := ⟨_, rfl⟩
    have hv2 : ((zn : Int) == 0) = v := by rw [← hv]; show decide ((zn : Int) = 0) = _; congr 1; simp
    rw [hv]
    clear hv
    clear h6' h6 hkk
    go_enter Tryd.func70, Tryd.ntmps70
    rcases hlc with rfl | rfl
    all_goals
      go_wp2_with fail
      refine wp_region_lin (fun w' => w'.cell? ⟨w.heap.size, 4, none⟩ = some (.slice (some ⟨kb, ko, none⟩) 1 x.kC) ∧ w'.cell? ⟨cb, 0, none⟩ = some (.slice (some ⟨b, off, none⟩) n c) ∧ w'.cell? ⟨kb, ko, none⟩ = some (.int .i64 (q : Nat)) ∧ w'.cell? ⟨b, off + q * 6 + 4, none⟩ = some (.slice z.kA zn z.kC)) [19] (.block 0 (.block 1 (.block 2 (.block 3 (.block 4 (.block 5 (.block 6 (.block 7 (.block 8 (.block 9 (.block 10 (.block 11 (.block 12 (.block 13 (.block 14 (.block 15 (.block 16 (.block 17 (.block 18 (.loop (.block 19 (.skip)))))))))))))))))))))) (by kernel_rfl) (by kernel_rfl) (by kernel_rfl) (by kernel_rfl) (by kernel_rfl) ⟨g4, hl, hc, z4⟩ ?_
      repeat
        (refine lin_light (A1 := ?_) rfl rfl rfl rfl rfl (fun w' hS K hK => ?_) ?_ ?_
         rotate_left
         · obtain ⟨s0, s1, s2, s3⟩ := hS; go_step; exact hK
         · rfl)
      refine lin_end ?_
      go_wp2_with fail
      go_ret
      exact ⟨rfl, b1.drew⟩
  · rw [one_len hx h1]
    obtain ⟨b, off, rfl, hbl, d0, d1, d2, d3, d4, d5⟩ := hN.rows.nd hx
    rw [hkn] at d4 h1
    rw [hxk] at d0
    have h1' : ((kn : Int) == 1) = false := by rw [beq_eq_false_iff_ne]; omega
    clear hn hx hkn hin hK
    clear h6' h6 hkk
    obtain ⟨b1d⟩ : Nonempty (Below w.heap.size w w1.drew) := ⟨b1.drew⟩
    go_enter Tryd.func70, Tryd.ntmps70
    rcases hlc with rfl | rfl
    all_goals
      go_wp2_with fail
      refine wp_region_lin (fun w' => w'.cell? ⟨w.heap.size, 4, none⟩ = some (.slice x.kA kn x.kC) ∧ w'.cell? ⟨cb, 0, none⟩ = some (.slice (some ⟨b, off, none⟩) n c)) [19] (.block 0 (.block 1 (.block 2 (.block 3 (.block 4 (.block 5 (.block 6 (.block 7 (.block 8 (.block 9 (.block 10 (.block 11 (.block 12 (.block 13 (.block 14 (.block 15 (.block 16 (.block 17 (.block 18 (.loop (.block 19 (.skip)))))))))))))))))))))) (by kernel_rfl) (by kernel_rfl) (by kernel_rfl) (by kernel_rfl) (by kernel_rfl) ⟨g4, hl⟩ ?_
      repeat first
        | (refine lin_light (A1 := ?_) rfl rfl rfl rfl rfl (fun w' hS K hK => ?_) ?_ ?_
           rotate_left
           · obtain ⟨s0, s1⟩ := hS; go_step; exact hK
           · rfl)
        | (refine lin_skip rfl rfl ?_; simp only [Act.put, List.setIfInBounds_toArray, List.set_cons_zero, List.set_cons_succ])
      refine lin_end ?_
      go_wp2_with fail
      go_ret
      exact ⟨rfl, b1.drew⟩
end
end Go.Proofs.YtgnpgdjjdhlhaaaDoor
