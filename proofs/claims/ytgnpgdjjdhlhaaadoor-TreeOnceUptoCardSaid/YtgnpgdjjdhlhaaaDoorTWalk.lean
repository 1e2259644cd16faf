/- tree.Walk: the iterator. -/
import Derived.Test.YtgnpgdjjdhlhaaaDoorTCheck
import Derived.OwnWalkIn
import Derived.TacticsInMore
import Derived.LoopNIn
import Derived.LoopIn
import Derived.RangeFuncKeeps
import Derived.WalkMore
namespace Go.Proofs.YtgnpgdjjdhlhaaaDoor
open Go.RowKit
set_option maxHeartbeats 4000000
set_option maxRecDepth 100000

theorem store_funcK {P : Program} {w : World} {a : Addr} {m : Mode} (fn : Fn) (x y : Array Value) : (store a (.func fn x y) m).run P w = stored P w a (.func fn x y) m := run_store P w a _ m rfl
attribute [local go_sem] store_funcK
abbrev TgP (p : Nat × Nat → Prop) := { x : Nat × Nat // p x }
def encTg {p : Nat × Nat → Prop} (x : TgP p) : Array Value := #[.int .i64 (x.1.1 : Nat), .int .i64 (x.1.2 : Nat)]
theorem grown_of_below {w w' : World} (h : Below w.heap.size w w') : w.grownBy w' none := ⟨h.os, h.tape, h.output, h.size, fun k hk _ => h.block k hk⟩
theorem take_snocK {α : Type} (xs : List α) (k : Nat) (x : α) (h : xs[k]? = some x) : xs.take (k + 1) = xs.take k ++ [x] := by
  rw [List.take_add_one, h]; rfl

/-- nodes from one on, each ahead of its kids, with how deep it stands -/
def pre (l : List Nd) : Nat → Nat → Nat → List (Nat × Nat)
  | 0, _, _ => []
  | f + 1, n, d => (n, d) :: match l[n]? with
    | none => []
    | some x => x.kids.flatMap fun k => pre l f k.toNat (d + 1)
theorem pre_at {l : List Nd} {f n d : Nat} {x : Nd} (h : l[n]? = some x) : pre l (f + 1) n d = (n, d) :: x.kids.flatMap fun k => pre l f k.toNat (d + 1) := by
  conv => lhs; unfold pre
  rw [h]
theorem flat_at {α : Type} {g : Int → List α} {l : List Int} {k : Nat} {x : Int} (h : l[k]? = some x) : (l.drop k).flatMap g = g x ++ (l.drop (k + 1)).flatMap g := by
  rw [List.drop_eq_getElem_cons (List.getElem?_eq_some_iff.1 h).1, (List.getElem?_eq_some_iff.1 h).2]
  rfl

/-- what a round keeps: all that lay below, and every block of cells but those of C -/
structure KeepC (n0 : Nat) (C : Nat → Prop) (w w' : World) : Prop where
  below : Below n0 w w'
  cells : ∀ k o, w.heap[k]? = some o → o.isCells = true → ¬ C k → w'.heap[k]? = some o
theorem KeepC.trans {n0 : Nat} {C : Nat → Prop} {a b c : World} (h : KeepC n0 C a b) (k : KeepC n0 C b c) : KeepC n0 C a c :=
  ⟨h.below.trans k.below, fun i o hi ho hc => k.cells i o (h.cells i o hi ho hc) ho hc⟩
/-- what stands in memory while it walks -/
structure WkM (w0 : World) (C : Nat → Prop) (yb lb wb lp : Nat) (A : Option Addr) (n c : Nat) (w : World) : Prop where
  below : Below w0.heap.size w0 w
  y : w.heap[yb]? = some (.cells #[.func (.yield lp) #[] #[]] 46 (0, 0))
  l : w.heap[lb]? = some (.cells #[.slice A n c] 22 (0, 0))
  k : w.heap[wb]? = some (.cells #[.func (.func 18) #[] #[.pointer (some ⟨yb, 0, none⟩), .pointer (some ⟨lb, 0, none⟩), .pointer (some ⟨wb, 0, none⟩)]] 46 (0, 0))
  ny : ¬ C yb
  nl : ¬ C lb
  nw : ¬ C wb
theorem WkM.keep {w0 w w' : World} {C : Nat → Prop} {yb lb wb lp n c : Nat} {A : Option Addr} (h : WkM w0 C yb lb wb lp A n c w) (k : KeepC w0.heap.size C w w') : WkM w0 C yb lb wb lp A n c w' :=
  ⟨h.below.trans k.below, k.cells _ _ h.y rfl h.ny, k.cells _ _ h.l rfl h.nl, k.cells _ _ h.k rfl h.nw, h.ny, h.nl, h.nw⟩

theorem walk18_in {p : Nat × Nat → Prop} {C : Nat → Prop} (m : Nat) {lp yb lb wb n c : Nat} {A : Option Addr} {w0 : World} {l : List Nd} (hN : Nds w0 w0.heap.size A l) (hn : l.length = n) (hk : ∀ (i : Nat) (x : Nd), l[i]? = some x → x.kids.any (badKid i) = false)
    (xs : List (TgP p)) (J Jx : List (TgP p) → World → Prop)
    (hY : ∀ pr x W, J pr W → pr.length < xs.length → YieldAt Fence.wide m Tryd.prog lp (encTg x) W fun e W' =>
      (e = .returned (.bool true) ∧ J (pr ++ [x]) W' ∧ KeepC w0.heap.size C W W') ∨ (e = .returned (.bool false) ∧ Jx (pr ++ [x]) W')) :
    ∀ (f i d q : Nat) (R : List (Nat × Nat)) (W : World), i < f → i < n → f ≤ n → d + f ≤ 10000 → (xs.map (·.1)).drop q = pre l f i d ++ R → WkM w0 C yb lb wb lp A n c W → J (xs.take q) W →
    Calls Tryd.prog 18 #[.int .i64 i, .int .i64 d, .pointer (some ⟨yb, 0, none⟩), .pointer (some ⟨lb, 0, none⟩), .pointer (some ⟨wb, 0, none⟩)] W fun e W' =>
      (e = .returned (.bool true) ∧ ∃ q', (xs.map (·.1)).drop q' = R ∧ J (xs.take q') W' ∧ WkM w0 C yb lb wb lp A n c W') ∨ (e = .returned (.bool false) ∧ ∃ pr, pr <+: xs ∧ Jx pr W') := by
  intro f
  induction f with
  | zero => intro i d q R W hi; omega
  | succ f ih =>
    intro i d q R W hif hin hfn hdf hxs hM hJ
    have HN := Lib.hid hn
    have IH := Lib.hid ih
    clear ih hn
    obtain ⟨x, hx⟩ : ∃ x, l[i]? = some x := ⟨l[i]'(by have := HN.out; omega), List.getElem?_eq_getElem _⟩
    have hxm := List.mem_of_getElem? hx
    rw [pre_at hx] at hxs
    have hq : q < xs.length := by
      have h2 := congrArg List.length hxs
      simp only [List.length_drop, List.length_map, List.length_append, List.length_cons] at h2
      omega
    obtain ⟨z, hz⟩ : ∃ z, xs[q]? = some z := ⟨xs[q]'hq, List.getElem?_eq_getElem _⟩
    have hz1 : z.1 = (i, d) := by
      have h0 := congrArg List.head? hxs
      simp only [List.cons_append, List.head?_cons, List.head?_drop, List.getElem?_map, hz, Option.map_some] at h0
      exact Option.some.inj h0
    have hxs2 : (xs.map (·.1)).drop (q + 1) = (x.kids.flatMap fun k => pre l f k.toNat (d + 1)) ++ R := by
      have h := congrArg (List.drop 1) hxs
      rw [List.drop_drop] at h
      simpa using h
    obtain ⟨⟨z1, z2⟩, hzp⟩ := z
    simp only [Prod.mk.injEq] at hz1
    obtain ⟨rfl, rfl⟩ := hz1
    have HXS := Lib.hid hxs2
    have HTK := Lib.hid (take_snocK xs q _ hz)
    have HBAD := Lib.hid (hk _ _ hx)
    have HY := Lib.hid (hY (xs.take q) ⟨(z1, z2), hzp⟩ W hJ (by rw [List.length_take]; omega))
    have cy := cell_blockK hM.y 0
    simp at cy
    obtain ⟨fn, tmps, assign, body, hy, hR⟩ := HY.out
    simp only [encTg] at hy
    clear hxs hxs2 hz
    have hs2 := hN.small.2 x hxm
    obtain ⟨kn, hkn⟩ : ∃ m, x.kids.length = m := ⟨_, rfl⟩
    have HKN := Lib.hid hkn
    rw [hkn] at hs2
    rw [← callsIn_wide (n := m + 1)]
    refine callsIn_of_wp Tryd.func18 rfl trivial ?_ rfl
    simp only [Tryd.ntmps18, List.size_toArray, List.length_cons, List.length_nil, Nat.reduceAdd, Nat.reduceSub, Array.replicate_succ, Array.replicate_zero, List.push_toArray, List.append_toArray, List.nil_append, List.cons_append]
    gi_wp2
    refine hR.mono ?_
    rintro e W3 (⟨rfl, hJ3, hk3⟩ | ⟨rfl, hJx3⟩)
    · have hM3 := hM.keep hk3
      have cl := cell_blockK hM3.l 0
      simp at cl
      obtain ⟨b, off, rfl, hbl, d0, d1, d2, d3, d4, d5⟩ := (hN.below hM3.below hM3.below.size).rows.nd hx
      rw [hkn] at d4
      have HX := Lib.hid hx
      have HKR := Lib.hid (hN.each x hxm)
      rw [← HTK.out] at hJ3
      clear hx hkn hy hR
      gi_wp2
      gi_loopw [21] (fun i wr => ∃ j q' : Nat, j ≤ kn ∧ i = .int .i64 j ∧ (xs.map (·.1)).drop q' = ((x.kids.drop j).flatMap fun k => pre l f k.toNat (z2 + 1)) ++ R ∧ J (xs.take q') wr ∧ WkM w0 C yb lb wb lp (some ⟨b, off, none⟩) n c wr) (fun i _ => kn - (intOf i).toNat)
      case atStart => exact ⟨0, q + 1, Nat.zero_le _, rfl, HXS.out, hJ3, hM3⟩
      case round =>
        obtain ⟨j, q', hj, rfl, hxq, hJq, hMq⟩ := hrel
        have HXQ := Lib.hid hxq
        clear hxq
        by_cases hlt : j < kn
        · obtain ⟨y, hyk⟩ : ∃ y, x.kids[j]? = some y := ⟨x.kids[j]'(by have := HKN.out; omega), List.getElem?_eq_getElem _⟩
          obtain ⟨b2, off2, hkA, _, hc⟩ := (HKR.out.below hMq.below hMq.below.size).kid hyk
          have hfl := flat_at (g := fun k => pre l f k.toNat (z2 + 1)) hyk
          obtain ⟨hy0, hy1⟩ := badKid_not HBAD.out hyk
          obtain ⟨v, rfl⟩ : ∃ v : Nat, y = v := ⟨y.toNat, by omega⟩
          simp only [Int.toNat_natCast] at hfl
          have hxq2 : (xs.map (·.1)).drop q' = pre l f v (z2 + 1) ++ (((x.kids.drop (j + 1)).flatMap fun k => pre l f k.toNat (z2 + 1)) ++ R) := by rw [HXQ.out, hfl, List.append_assoc]
          have hcall := IH.out v (z2 + 1) q' _ wr (by omega) (by omega) (by omega) (by omega) hxq2 hMq hJq
          rw [show ((z2 + 1 : Nat) : Int) = (z2 : Int) + 1 from by omega] at hcall
          have HC := Lib.hid hcall
          have ck := cell_blockK hMq.k 0
          simp at ck
          rw [hkA]
          clear hyk hfl hxq2 hcall
          gi_wp2
          refine ⟨trivial, ?_⟩
          refine (callsIn_wide.2 HC.out).mono ?_
          rintro e W4 (⟨rfl, q2, hx2, hJ4, hM4⟩ | ⟨rfl, pr, hpr, hJx4⟩)
          · have HX2 := Lib.hid hx2
            clear hx2
            simp only
            gi_wp2
            go_roundw
            case rel => exact ⟨j + 1, q2, by omega, by go_num, HX2.out, hJ4, hM4⟩
            case measure => simp [intOf]; omega
          · have HPR := Lib.hid hpr
            clear hpr
            simp only
            gi_wp2
            go_ret
            exact .inr ⟨rfl, pr, HPR.out, hJx4⟩
        · obtain rfl : j = kn := by omega
          have hxe : (xs.map (·.1)).drop q' = R := by rw [HXQ.out, List.drop_of_length_le (by have := HKN.out; omega)]; rfl
          have HXE := Lib.hid hxe
          clear hxe
          gi_wp2
          go_ret
          exact .inl ⟨rfl, q', HXE.out, hJq, hMq⟩
    · gi_wp2
      go_ret
      exact .inr ⟨rfl, _, by rw [← HTK.out]; exact List.take_prefix _ _, hJx3⟩

theorem chk1_kids {ok : Nat → Bool} : ∀ (l : List Nd) (n : Nat) (u u' : List Bool), chk1 ok l n u = .inr u' → ∀ (i : Nat) (x : Nd), l[i]? = some x → x.kids.any (badKid (n + i)) = false ∧ ok (n + i) = true
  | [], _, _, _, _, i, x, h => by cases h
  | y :: r, n, u, u', hc, i, x, h => by
    unfold chk1 at hc
    split at hc
    · cases hc
    · rename_i hb
      simp only [Bool.or_eq_true, Bool.not_eq_true', not_or, Bool.not_eq_true, Bool.not_eq_false] at hb
      cases i with
      | zero => cases h; exact hb
      | succ i =>
        split at hc
        · cases hc
        · have := chk1_kids r (n + 1) _ u' hc i x h
          rw [show n + (i + 1) = n + 1 + i from by omega]
          exact this
theorem checkT_kids {ok : Nat → Bool} {l : List Nd} (h : checkT ok l = (0, 0)) : 0 < l.length ∧ ∀ (i : Nat) (x : Nd), l[i]? = some x → x.kids.any (badKid i) = false := by
  cases hc : chk1 ok l 0 (List.replicate l.length false) with
  | inl k => rw [checkT_inl rfl hc] at h; cases h
  | inr u =>
    refine ⟨?_, fun i x hx => ?_⟩
    · rw [checkT_inr rfl hc] at h
      by_cases h0 : l.length = 0
      · rw [if_pos h0] at h; cases h
      · omega
    · have := chk1_kids l 0 _ u hc i x hx
      rw [Nat.zero_add] at this
      exact this.1

theorem walk_any {w : World} {A : Option Addr} {n c : Nat} : Calls Tryd.prog 8 #[.slice A n c] w fun e w' => e = .returned (.func (.func 17) #[] #[.pointer (some ⟨w.heap.size, 0, none⟩)]) ∧
      w' = w.alloc (.cells #[.slice A n c] 22) := by
  go_enter Tryd.func8, Tryd.ntmps8
  go_wp2_with fail
  go_ret
  exact ⟨rfl, rfl⟩

theorem walkI_any {p : Nat × Nat → Prop} {C : Nat → Prop} {ok : Nat → Bool} (m : Nat) {lp lb n c : Nat} {A : Option Addr} {w0 : World} {l : List Nd} (hN : Nds w0 w0.heap.size A l) (hn : l.length = n) (hok : checkT ok l = (0, 0))
    (hck : ∀ W, Below w0.heap.size w0 W → Calls Tryd.prog 13 #[.slice A n c] W fun e W' => e = .returned (.tuple #[.int .i64 (checkT ok l).1, .int .i64 (checkT ok l).2]) ∧ Below W.heap.size W W')
    (xs : List (TgP p)) (hxs : xs.map (·.1) = pre l n (n - 1) 0) (J Jx : List (TgP p) → World → Prop) (W : World) (hW : Below w0.heap.size w0 W) (hl : W.heap[lb]? = some (.cells #[.slice A n c] 22 (0, 0))) (hC : ∀ k, C k → k < W.heap.size) (hlb : ¬ C lb)
    (hJ : ∀ pr W W', J pr W → W.grownBy W' none → J pr W')
    (hY : ∀ pr x W, J pr W → pr.length < xs.length → YieldAt Fence.wide m Tryd.prog lp (encTg x) W fun e W' =>
      (e = .returned (.bool true) ∧ J (pr ++ [x]) W' ∧ KeepC w0.heap.size C W W') ∨ (e = .returned (.bool false) ∧ Jx (pr ++ [x]) W')) (h0 : J [] W) :
    CallsIn Fence.wide (m + 1) Tryd.prog 17 #[.func (.yield lp) #[] #[], .pointer (some ⟨lb, 0, none⟩)] W fun e W' => (∃ v, e = .returned v) ∧
      ((∃ ys, ys = xs ∧ J ys W') ∨ (∃ pr, pr <+: xs ∧ Jx pr W')) := by
  obtain ⟨hn0, hk⟩ := checkT_kids hok
  rw [hn] at hn0
  have hs := hN.small.1
  rw [hn] at hs
  have hlt := (Array.getElem?_eq_some_iff.1 hl).1
  have z1 := heap_alloc_new W (.cells #[.func (.yield lp) #[] #[]] 46)
  have b1 : Below W.heap.size W (W.alloc (.cells #[.func (.yield lp) #[] #[]] 46)) := (Below.refl _ _).alloc (Nat.le_refl _) _
  obtain ⟨w1, hw1⟩ : ∃ w1, W.alloc (.cells #[.func (.yield lp) #[] #[]] 46) = w1 := ⟨_, rfl⟩
  rw [hw1] at z1 b1
  have l1 : W.heap.size < w1.heap.size := (Array.getElem?_eq_some_iff.1 z1).1
  have hl1 := (b1.block _ hlt).trans hl
  have cl := cell_blockK hl1 0
  simp at cl
  refine callsIn_of_wp Tryd.func17 rfl trivial ?_ rfl
  simp only [Tryd.ntmps17, List.size_toArray, List.length_cons, List.length_nil, Nat.reduceAdd, Nat.reduceSub, Array.replicate_succ, Array.replicate_zero, List.push_toArray, List.append_toArray, List.nil_append, List.cons_append]
  gi_wp2
  refine ⟨trivial, ?_⟩
  refine (callsIn_wide.2 (hck w1 (hW.trans (b1.mono hW.size)))).mono ?_
  rintro e w2 ⟨rfl, b2⟩
  rw [hok]
  have z2 := (b2.block _ l1).trans z1
  have hl2 := (b2.block _ (by omega)).trans hl1
  have s2 := b2.size
  have b02 : Below W.heap.size W w2 := b1.trans (b2.mono b1.size)
  have cl2 := cell_blockK hl2 0
  simp at cl2
  have z3 := heap_alloc_new w2 (.cells #[.nilFunc] 46)
  have b3 : Below w2.heap.size w2 (w2.alloc (.cells #[.nilFunc] 46)) := (Below.refl _ _).alloc (Nat.le_refl _) _
  obtain ⟨w3, hw3⟩ : ∃ w3, w2.alloc (.cells #[.nilFunc] 46) = w3 := ⟨_, rfl⟩
  rw [hw3] at z3 b3
  have c3 := cell_blockK z3 0
  have f3 := frozen_blockK z3 0
  simp at c3
  simp only
  have z4 : (w3.setCell ⟨w2.heap.size, 0, none⟩ (.func (.func 18) #[] #[.pointer (some ⟨W.heap.size, 0, none⟩), .pointer (some ⟨lb, 0, none⟩), .pointer (some ⟨w2.heap.size, 0, none⟩)])).heap[w2.heap.size]? = some (.cells #[.func (.func 18) #[] #[.pointer (some ⟨W.heap.size, 0, none⟩), .pointer (some ⟨lb, 0, none⟩), .pointer (some ⟨w2.heap.size, 0, none⟩)]] 46 (0, 0)) := setCell_blockK z3 _
  have b4 : Below W.heap.size W (w3.setCell ⟨w2.heap.size, 0, none⟩ (.func (.func 18) #[] #[.pointer (some ⟨W.heap.size, 0, none⟩), .pointer (some ⟨lb, 0, none⟩), .pointer (some ⟨w2.heap.size, 0, none⟩)])) := (b02.trans (b3.mono b02.size)).setCell (p := ⟨w2.heap.size, 0, none⟩) b02.size _
  have k4 : ∀ j, j < w2.heap.size → (w3.setCell ⟨w2.heap.size, 0, none⟩ (.func (.func 18) #[] #[.pointer (some ⟨W.heap.size, 0, none⟩), .pointer (some ⟨lb, 0, none⟩), .pointer (some ⟨w2.heap.size, 0, none⟩)])).heap[j]? = w2.heap[j]? := fun j hj => (Below.heap_setCell _ _ _ _ (by simp; omega)).trans (b3.block j hj)
  obtain ⟨w4, hw4⟩ : ∃ w4, w3.setCell ⟨w2.heap.size, 0, none⟩ (.func (.func 18) #[] #[.pointer (some ⟨W.heap.size, 0, none⟩), .pointer (some ⟨lb, 0, none⟩), .pointer (some ⟨w2.heap.size, 0, none⟩)]) = w4 := ⟨_, rfl⟩
  rw [hw4] at z4 b4 k4
  have hM : WkM w0 C W.heap.size lb w2.heap.size lp A n c w4 := ⟨hW.trans (b4.mono hW.size), (k4 _ (by omega)).trans z2, (k4 _ (by omega)).trans hl2, z4, fun h => absurd (hC _ h) (by omega), hlb, fun h => absurd (hC _ h) (by have := b1.size; omega)⟩
  have cl4 := cell_blockK hM.l 0
  have ck4 := cell_blockK hM.k 0
  simp at cl4 ck4
  have hJ4 := hJ _ _ _ h0 (grown_of_below b4)
  have hcall := walk18_in m hN hn hk xs J Jx hY n (n - 1) 0 0 [] w4 (by omega) (by omega) (Nat.le_refl _) (by omega) (by rw [hxs]; simp) hM (by simpa using hJ4)
  rw [show ((n - 1 : Nat) : Int) = (n : Int) - 1 from by omega] at hcall
  have HC := Lib.hid hcall
  clear hcall
  gi_wp2
  refine ⟨trivial, ?_⟩
  refine (callsIn_wide.2 HC.out).mono ?_
  rintro e w5 (⟨rfl, q, hq, hJ5, _⟩ | ⟨rfl, pr, hpr, hJx⟩)
  · have hxe : xs.take q = xs := List.take_of_length_le (by
      have h2 := congrArg List.length hq
      simp only [List.length_drop, List.length_map, List.length_nil] at h2
      omega)
    rw [hxe] at hJ5
    simp only
    gi_wp2
    go_end0
    exact ⟨⟨_, rfl⟩, .inl ⟨_, rfl, hJ5⟩⟩
  · simp only
    gi_wp2
    go_end0
    exact ⟨⟨_, rfl⟩, .inr ⟨_, hpr, hJx⟩⟩

theorem walk_stops {p : Nat × Nat → Prop} {C : Nat → Prop} {ok : Nat → Bool} (m : Nat) {lb n c : Nat} {A : Option Addr} {w0 w : World} {l : List Nd} (hN : Nds w0 w0.heap.size A l) (hn : l.length = n) (hok : checkT ok l = (0, 0))
    (hck : ∀ W, Below w0.heap.size w0 W → Calls Tryd.prog 13 #[.slice A n c] W fun e W' => e = .returned (.tuple #[.int .i64 (checkT ok l).1, .int .i64 (checkT ok l).2]) ∧ Below W.heap.size W W')
    (xs : List (TgP p)) (hxs : xs.map (·.1) = pre l n (n - 1) 0) (hw : Below w0.heap.size w0 w) (hl : w.heap[lb]? = some (.cells #[.slice A n c] 22 (0, 0))) (hC : ∀ k, C k → k < w.heap.size) (hlb : ¬ C lb) :
    SeqStopsK Fence.wide (m + 1) Tryd.prog 17 #[.pointer (some ⟨lb, 0, none⟩)] encTg (KeepC w0.heap.size C) (fun ys => ys = xs) (fun pr => pr <+: xs) xs.length w := fun lp J Jx W hW hJ _ hY h0 =>
  walkI_any m hN hn hok hck xs hxs J Jx W (hw.trans (hW.mono hw.size)) ((hW.block _ (Array.getElem?_eq_some_iff.1 hl).1).trans hl) (fun k hk => Nat.lt_of_lt_of_le (hC k hk) hW.size) hlb (fun pr W W' hj hg => hJ pr W W' none hj hg (fun r e => by cases e)) hY h0
end Go.Proofs.YtgnpgdjjdhlhaaaDoor
