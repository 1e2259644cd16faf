/- lintelref06.shape at an object, a getter, a setter. -/
import Derived.Test.YtgnpgdjjdhlhaaaDoorTShapeD
namespace Go.Proofs.YtgnpgdjjdhlhaaaDoor
open Go.RowKit
set_option maxHeartbeats 40000000
set_option maxRecDepth 100000
attribute [local go_sem] Oper.semAt_some store_floatK

theorem allp_at {f : Int → Bool} {l : List Int} {k : Nat} {x : Int} (h : l[k]? = some x) : (l.drop k).all f = (f x && (l.drop (k + 1)).all f) := all_at h
section
variable {w : World} {A : Option Addr} {n c f : Nat} {l : List Nd}
theorem shape_obj (hN : Nds w w.heap.size A l) (hn : l.length = n) {i : Nat} {x : Nd} (hx : l[i]? = some x) (hK : KidsOk l (i + 1)) (h9 : x.kind = 9) :
    Calls Tryd.prog 15 #[.slice A n c, .int .i64 (i : Nat)] w fun e w' => e = .returned (.bool (sh1 l 9 x.kids)) ∧ Below w.heap.size w w' := by
  have hs := hN.small.1
  rw [hn] at hs
  have hi2 : i < n := by rw [← hn]; exact (List.getElem?_eq_some_iff.1 hx).1
  have hxm := List.mem_of_getElem? hx
  have hkx := hN.small.2 x hxm
  have hin := hK i x (by omega) hx
  have y1 := heap_alloc_new w (.cells #[.int .i64 x.kind, .string x.text, .string x.str, .float .f64 x.num, .slice x.kA x.kids.length x.kC, .int .i64 x.at_] 39)
  have b1 : Below w.heap.size w (w.alloc (.cells #[.int .i64 x.kind, .string x.text, .string x.str, .float .f64 x.num, .slice x.kA x.kids.length x.kC, .int .i64 x.at_] 39)) := (Below.refl _ _).alloc (Nat.le_refl _) _
  have hkinds := fun w' (hb : Below w.heap.size w w') => kinds_any (w := w') (c := c) x (hN.below hb hb.size) hn ((hN.each x hxm).below hb hb.size) hkx (fun y hy => by have := hin y hy; omega)
  have hkl : (ksOf l x).length = x.kids.length := by unfold ksOf; rw [List.length_map]
  unfold nV at hkinds
  have hsh : sh1 l 9 x.kids = (ksOf l x).all propB := rfl
  rw [hsh]
  obtain ⟨ks, hks⟩ : ∃ ks, ksOf l x = ks := ⟨_, rfl⟩
  obtain ⟨kn, hkn⟩ : ∃ m, x.kids.length = m := ⟨_, rfl⟩
  obtain ⟨b, off, rfl, hbl, d0, d1, d2, d3, d4, d5⟩ := hN.rows.nd hx
  rw [hkn] at hkinds hkl d4 y1 b1 hkx
  rw [h9] at hkinds d0 y1 b1
  rw [hks] at hkinds hkl ⊢
  have HKINDS := Lib.hid hkinds
  have HKL := Lib.hid hkl
  obtain ⟨T, hT⟩ : ∃ T, ks.all propB = T := ⟨_, rfl⟩
  rw [hT]
  have HT := Lib.hid hT
  clear hx hn hin hK hkn hxm hN hks hkl hkinds hsh hT
  obtain ⟨w1, hw1⟩ : ∃ w1, w.alloc (.cells #[.int .i64 9, .string x.text, .string x.str, .float .f64 x.num, .slice x.kA kn x.kC, .int .i64 x.at_] 39) = w1 := ⟨_, rfl⟩
  rw [hw1] at y1 b1
  have l1 := (Array.getElem?_eq_some_iff.1 y1).1
  have g0 := cell_blockK y1 0
  have g1 := cell_blockK y1 1
  have g2 := cell_blockK y1 2
  have g3 := cell_blockK y1 3
  have g4 := cell_blockK y1 4
  have g5 := cell_blockK y1 5
  simp at g0 g1 g2 g3 g4 g5
  go_enter Tryd.func15, Tryd.ntmps15
  go_wp2_with fail
  refine (HKINDS.out w1 b1).mono ?_
  rintro e w2 ⟨A', c', rfl, hr, hca, hb2⟩
  have f0 := (hb2.cell (World.block_lt_of_cell? _ _ g0)).trans g0
  have hbw : Below w.heap.size w w2 := b1.trans (hb2.mono b1.size)
  clear g0 g1 g2 g3 g4 g5 d0 d1 d2 d3 d4 d5 hw1 hca y1 b1 hb2
  simp only
  go_wp2_with fail
  go_loopw [45] (fun i wr => ∃ k : Nat, k ≤ kn ∧ i = .int .i64 k ∧ wr = w2 ∧ T = (ks.drop k).all propB) (fun i _ => kn - (intOf i).toNat)
  case atStart => exact ⟨0, Nat.zero_le _, rfl, rfl, HT.out.symm⟩
  case round =>
    obtain ⟨k, hk, rfl, rfl, hf⟩ := hrel
    have HF := Lib.hid hf
    clear hf
    by_cases hlt : k < kn
    · obtain ⟨t, ht⟩ : ∃ t, ks[k]? = some t := ⟨ks[k]'(by have := HKL.out; omega), List.getElem?_eq_getElem _⟩
      obtain ⟨ad, rfl, hc⟩ := rd_int hr ht
      have HA := Lib.hid (allp_at (f := propB) ht)
      clear ht
      by_cases h1 : t < 10
      · have hfin : T = false := by rw [HF.out, HA.out]; unfold propB; rw [decide_eq_false (by omega : ¬ t ≥ 10)]; rfl
        have HFIN := Lib.hid hfin
        clear hfin
        go_wp2_with fail
        go_ret
        exact ⟨by rw [HFIN.out]; rfl, hbw⟩
      · by_cases h2 : t > 12
        · have hfin : T = false := by rw [HF.out, HA.out]; unfold propB; rw [decide_eq_false (by omega : ¬ t ≤ 12), Bool.and_false]; rfl
          have HFIN := Lib.hid hfin
          clear hfin
          go_wp2_with fail
          go_ret
          exact ⟨by rw [HFIN.out]; rfl, hbw⟩
        · have hfin : T = (ks.drop (k + 1)).all propB := by rw [HF.out, HA.out]; unfold propB; rw [decide_eq_true (by omega : t ≤ 12), decide_eq_true (by omega : t ≥ 10)]; rfl
          have HFIN := Lib.hid hfin
          clear hfin
          go_wp2_with fail
          go_roundw
          case rel => exact ⟨k + 1, by omega, by go_num, trivial, HFIN.out⟩
          case measure => simp [intOf] <;> omega
    · obtain rfl : k = kn := by omega
      have hfin : T = true := by rw [HF.out, List.drop_of_length_le (by have := HKL.out; omega)]; rfl
      have HFIN := Lib.hid hfin
      clear hfin
      go_wp2_with fail
      go_ret
      exact ⟨by rw [HFIN.out]; rfl, hbw⟩
def PostS (w : World) (l : List Nd) (k : Int) (qs : List Int) (e : Ending) (w' : World) : Prop := ∃ v, e = .returned (.bool v) ∧ Below w.heap.size w w' ∧ (v = true → sh1 l k qs = true)
theorem PostS.of {w : World} {l : List Nd} {k : Int} {qs : List Int} {e : Ending} {w' : World} (v : Bool) (h1 : e = .returned (.bool v)) (h2 : Below w.heap.size w w') (h3 : v = true → sh1 l k qs = true) : PostS w l k qs e w' := ⟨v, h1, h2, h3⟩
theorem shape_get_no (hN : Nds w w.heap.size A l) (hn : l.length = n) {i : Nat} {x : Nd} (hx : l[i]? = some x) (hK : KidsOk l (i + 1)) (hk : x.kind = 11 ∨ x.kind = 12) (h2 : x.kids.length ≠ 2) :
    Calls Tryd.prog 15 #[.slice A n c, .int .i64 (i : Nat)] w fun e w' => PostS w l x.kind x.kids e w' := by
  have hs := hN.small.1
  rw [hn] at hs
  have hi2 : i < n := by rw [← hn]; exact (List.getElem?_eq_some_iff.1 hx).1
  have hxm := List.mem_of_getElem? hx
  have hkx := hN.small.2 x hxm
  have hin := hK i x (by omega) hx
  have y1 := heap_alloc_new w (.cells #[.int .i64 x.kind, .string x.text, .string x.str, .float .f64 x.num, .slice x.kA x.kids.length x.kC, .int .i64 x.at_] 39)
  have b1 : Below w.heap.size w (w.alloc (.cells #[.int .i64 x.kind, .string x.text, .string x.str, .float .f64 x.num, .slice x.kA x.kids.length x.kC, .int .i64 x.at_] 39)) := (Below.refl _ _).alloc (Nat.le_refl _) _
  have hkinds := fun w' (hb : Below w.heap.size w w') => kinds_any (w := w') (c := c) x (hN.below hb hb.size) hn ((hN.each x hxm).below hb hb.size) hkx (fun y hy => by have := hin y hy; omega)
  have hkl : (ksOf l x).length = x.kids.length := by unfold ksOf; rw [List.length_map]
  unfold nV at hkinds
  clear hkl
  obtain ⟨kn, hkn⟩ : ∃ m, x.kids.length = m := ⟨_, rfl⟩
  obtain ⟨b, off, rfl, hbl, d0, d1, d2, d3, d4, d5⟩ := hN.rows.nd hx
  rw [hkn] at hkinds d4 y1 b1 hkx h2
  have g2 : ((kn : Int) == 2) = false := by rw [beq_eq_false_iff_ne]; omega
  have g2' : ((kn : Int) != 2) = true := by rw [bne, g2]; rfl
  have HKINDS := Lib.hid hkinds
  obtain ⟨k, hkk⟩ : ∃ k, x.kind = k := ⟨_, rfl⟩
  rw [hkk] at HKINDS d0 y1 b1 hk ⊢
  clear hx hn hin hK hkn hxm hN hkinds hkk
  obtain ⟨w1, hw1⟩ : ∃ w1, w.alloc (.cells #[.int .i64 k, .string x.text, .string x.str, .float .f64 x.num, .slice x.kA kn x.kC, .int .i64 x.at_] 39) = w1 := ⟨_, rfl⟩
  rw [hw1] at y1 b1
  have l1 := (Array.getElem?_eq_some_iff.1 y1).1
  have c0 := cell_blockK y1 0
  have c1 := cell_blockK y1 1
  have c2 := cell_blockK y1 2
  have c3 := cell_blockK y1 3
  have c4 := cell_blockK y1 4
  have c5 := cell_blockK y1 5
  simp at c0 c1 c2 c3 c4 c5
  go_enter Tryd.func15, Tryd.ntmps15
  go_wp2_with fail
  refine (HKINDS.out w1 b1).mono ?_
  rintro e w2 ⟨A', c', rfl, hr, hca, hb2⟩
  have f0 := (hb2.cell (World.block_lt_of_cell? _ _ c0)).trans c0
  have hbw : Below w.heap.size w w2 := b1.trans (hb2.mono b1.size)
  clear c0 c1 c2 c3 c4 c5 d0 d1 d2 d3 d4 d5 hw1 hca y1 b1 hb2 hr
  simp only
  rcases hk with rfl | rfl
  all_goals
    go_wp2_with fail
    go_ret
    exact PostS.of false rfl hbw (fun h => by cases h)
theorem shape_get (hN : Nds w w.heap.size A l) (hn : l.length = n) {i : Nat} {x : Nd} (hx : l[i]? = some x) (hK : KidsOk l (i + 1)) (hU : FuncOk l i) (hk : x.kind = 11 ∨ x.kind = 12) {q0 q1 : Nat} (hqs : x.kids = [(q0 : Int), (q1 : Int)]) :
    Calls Tryd.prog 15 #[.slice A n c, .int .i64 (i : Nat)] w fun e w' => PostS w l x.kind x.kids e w' := by
  have hs := hN.small.1
  rw [hn] at hs
  have hi2 : i < n := by rw [← hn]; exact (List.getElem?_eq_some_iff.1 hx).1
  have hxm := List.mem_of_getElem? hx
  have hkx := hN.small.2 x hxm
  have hin := hK i x (by omega) hx
  have y1 := heap_alloc_new w (.cells #[.int .i64 x.kind, .string x.text, .string x.str, .float .f64 x.num, .slice x.kA x.kids.length x.kC, .int .i64 x.at_] 39)
  have b1 : Below w.heap.size w (w.alloc (.cells #[.int .i64 x.kind, .string x.text, .string x.str, .float .f64 x.num, .slice x.kA x.kids.length x.kC, .int .i64 x.at_] 39)) := (Below.refl _ _).alloc (Nat.le_refl _) _
  have hkinds := fun w' (hb : Below w.heap.size w w') => kinds_any (w := w') (c := c) x (hN.below hb hb.size) hn ((hN.each x hxm).below hb hb.size) hkx (fun y hy => by have := hin y hy; omega)
  have hkl : (ksOf l x).length = x.kids.length := by unfold ksOf; rw [List.length_map]
  unfold nV at hkinds
  have hq1 : q1 < i := by have := hin (q1 : Int) (by rw [hqs]; simp); omega
  obtain ⟨kb, ko, hkA, hkb, u1⟩ := (hN.each x hxm).kid (k := 1) (x := (q1 : Int)) (by rw [hqs]; rfl)
  have hks : ksOf l x = [kindAt l (q0 : Nat), kindAt l (q1 : Nat)] := by unfold ksOf; rw [hqs]; rfl
  have hkn : x.kids.length = 2 := by rw [hqs]; rfl
  obtain ⟨y, hy⟩ : ∃ y, l[q1]? = some y := ⟨l[q1]'(by omega), List.getElem?_eq_getElem _⟩
  have hny := hN
  obtain ⟨b, off, rfl, hbl, d0, d1, d2, d3, d4, d5⟩ := hN.rows.nd hx
  obtain ⟨b', off', hA', _, z0, _, _, _, z4, _⟩ := hN.rows.nd hy
  cases hA'
  rw [hks] at hkinds
  rw [hkn, hkA] at hkinds d4 y1 b1
  obtain ⟨t0, e0⟩ : ∃ t, kindAt l (q0 : Nat) = t := ⟨_, rfl⟩
  have e1 := kindAt_of hy
  rw [e0, e1] at hkinds
  have HKINDS := Lib.hid hkinds
  obtain ⟨k, hkk⟩ : ∃ k, x.kind = k := ⟨_, rfl⟩
  rw [hkk] at HKINDS d0 y1 b1 hk ⊢
  rw [hqs]
  -- what a function's first kid holds
  have hfn : y.kind = 13 → ∃ (p : Nat) (yb yo yn : Nat) (z : Nd), y.kids.length = yn ∧ 0 < yn ∧ y.kA = some ⟨yb, yo, none⟩ ∧ w.cell? ⟨yb, yo, none⟩ = some (.int .i64 (p : Nat)) ∧ p < n ∧ l[p]? = some z ∧ w.cell? ⟨b, off + p * 6 + 4, none⟩ = some (.slice z.kA z.kids.length z.kC) ∧ parK l (q1 : Nat) = ksOf l z ∧ (∀ v ∈ z.kids, 0 ≤ v ∧ v < n) ∧ z.kids.length ≤ 3000 ∧ Row w w.heap.size z.kA 1 (z.kids.map kidC) := fun h13 => by
    obtain ⟨p', hp⟩ := hU q1 y hq1 hy h13
    obtain ⟨hp0, hpi⟩ := hK q1 y (by omega) hy p' (List.mem_of_getElem? hp)
    obtain ⟨p, rfl⟩ : ∃ p : Nat, p' = p := ⟨p'.toNat, by omega⟩
    obtain ⟨z, hz⟩ : ∃ z, l[p]? = some z := ⟨l[p]'(by omega), List.getElem?_eq_getElem _⟩
    obtain ⟨yb, yo, hyA, _, hc⟩ := (hN.each y (List.mem_of_getElem? hy)).kid hp
    rw [Nat.add_zero] at hc
    obtain ⟨b2, off2, hA2, _, _, _, _, _, s4, _⟩ := hN.rows.nd hz
    cases hA2
    exact ⟨p, yb, yo, _, z, rfl, (List.getElem?_eq_some_iff.1 hp).1, hyA, hc, by omega, hz, s4, parK_of hy hp hz, fun v hv => by have := hK p z (by omega) hz v hv; omega, hN.small.2 z (List.mem_of_getElem? hz), hN.each z (List.mem_of_getElem? hz)⟩
  have HFN := Lib.hid hfn
  have HN := Lib.hid hN
  have HLN := Lib.hid hn
  have E0 := Lib.hid e0
  have E1 := Lib.hid e1
  have hn2 : q1 < n := by omega
  clear hx hn hin hK hkn hxm hN hkinds hkk hfn hU hqs e0 e1 hks hkl hny hkA hy hkx
  obtain ⟨w1, hw1⟩ : ∃ w1, w.alloc (.cells #[.int .i64 k, .string x.text, .string x.str, .float .f64 x.num, .slice (some ⟨kb, ko, none⟩) 2 x.kC, .int .i64 x.at_] 39) = w1 := ⟨_, rfl⟩
  rw [hw1] at y1 b1
  have l1 := (Array.getElem?_eq_some_iff.1 y1).1
  have c0 := cell_blockK y1 0
  have c1 := cell_blockK y1 1
  have c2 := cell_blockK y1 2
  have c3 := cell_blockK y1 3
  have c4 := cell_blockK y1 4
  have c5 := cell_blockK y1 5
  simp at c0 c1 c2 c3 c4 c5
  go_enter Tryd.func15, Tryd.ntmps15
  go_wp2_with fail
  refine (HKINDS.out w1 b1).mono ?_
  rintro e w2 ⟨A', c', rfl, hr, ⟨hmc, hA'⟩, hb2⟩
  obtain ⟨g, rfl⟩ := hA' (by omega)
  have k0 : w2.cell? ⟨g, 0, none⟩ = some (.int .i64 t0) := by
    obtain ⟨ad, h1, h2⟩ := rd_int hr (k := 0) (x := t0) rfl
    obtain rfl := Option.some.inj h1
    rw [Addr.add_lit, Nat.zero_add] at h2
    exact h2
  have k1 : w2.cell? ⟨g, 1, none⟩ = some (.int .i64 y.kind) := by
    obtain ⟨ad, h1, h2⟩ := rd_int hr (k := 1) (x := y.kind) rfl
    obtain rfl := Option.some.inj h1
    rw [Addr.add_lit, Nat.zero_add] at h2
    exact h2
  have f0 := (hb2.cell (World.block_lt_of_cell? _ _ c0)).trans c0
  have f4 := (hb2.cell (World.block_lt_of_cell? _ _ c4)).trans c4
  have hbw : Below w.heap.size w w2 := b1.trans (hb2.mono b1.size)
  have v1 := (hbw.cell (World.block_lt_of_cell? _ _ u1)).trans u1
  have v4 := (hbw.cell (World.block_lt_of_cell? _ _ z4)).trans z4
  clear c0 c1 c2 c3 c4 c5 d0 d1 d2 d3 d4 d5 hw1 y1 b1 hb2 hr hA' u1 z0 z4
  have hcase : (keyB t0 = true ∧ y.kind = 13) ∨ ¬ (keyB t0 = true ∧ y.kind = 13) := Classical.em _
  simp only
  rcases hcase with ⟨hkey, h13⟩ | hno
  · obtain ⟨p, yb, yo, yn, z, hyn, hy0, hyA, hc, hpn, hz, hs4, hpar, hzin, hz3, hzr⟩ := HFN.out h13
    rw [hyn, hyA] at v4
    rw [h13] at k1
    have v5 := (hbw.cell (World.block_lt_of_cell? _ _ hc)).trans hc
    have v6 := (hbw.cell (World.block_lt_of_cell? _ _ hs4)).trans hs4
    obtain ⟨zn, hzn⟩ : ∃ m, z.kids.length = m := ⟨_, rfl⟩
    rw [hzn] at v6 hz3
    have hkc := refkey_any t0
    rw [hkey] at hkc
    have HPAR := Lib.hid hpar
    have HKEY := Lib.hid hkey
    have H13 := Lib.hid h13
    have HZN := Lib.hid hzn
    have HZIN := Lib.hid hzin
    have HKC := Lib.hid hkc
    have HZ := Lib.hid hz
    clear hkey hpar h13 hyn hyA hc hs4 hzn hzin hkc hz
    rcases hk with rfl | rfl
    · go_wp2_with fail
      refine (HKC.out _).mono ?_
      rintro e w3 ⟨rfl, rfl⟩
      simp only
      go_wp2_with fail
      go_ret
      refine PostS.of _ rfl hbw (fun h => ?_)
      show (keyB (kindAt l (q0 : Nat)) && (kindAt l (q1 : Nat) == 13) && (parK l (q1 : Nat)).isEmpty) = true
      have hz0 : zn = 0 := by simpa using h
      rw [E0.out, E1.out, HKEY.out, H13.out, HPAR.out]
      have : ksOf l z = [] := List.length_eq_zero_iff.1 (by unfold ksOf; rw [List.length_map, HZN.out, hz0])
      rw [this]
      rfl
    · by_cases hz1 : zn = 1
      · subst hz1
        obtain ⟨t, ht⟩ : ∃ t, z.kids[0]? = some t := ⟨z.kids[0]'(by have := HZN.out; omega), List.getElem?_eq_getElem _⟩
        obtain ⟨ht0, ht1⟩ := HZIN.out t (List.mem_of_getElem? ht)
        obtain ⟨q, rfl⟩ : ∃ q : Nat, t = q := ⟨t.toNat, by omega⟩
        obtain ⟨zb, zo, hzA, _, hzc⟩ := hzr.kid ht
        rw [Nat.add_zero] at hzc
        obtain ⟨r, hr⟩ : ∃ r, l[q]? = some r := ⟨l[q]'(by have := HLN.out; omega), List.getElem?_eq_getElem _⟩
        obtain ⟨b2, off2, hA2, _, r0, _⟩ := HN.out.rows.nd hr
        cases hA2
        rw [hzA] at v6
        have v7 := (hbw.cell (World.block_lt_of_cell? _ _ hzc)).trans hzc
        have v8 := (hbw.cell (World.block_lt_of_cell? _ _ r0)).trans r0
        have hq : q < n := by omega
        have HT := Lib.hid ht
        have HRR := Lib.hid hr
        clear ht hr hzr hzc hzA r0
        go_wp2_with fail
        refine (HKC.out _).mono ?_
        rintro e w3 ⟨rfl, rfl⟩
        simp only
        go_wp2_with fail
        go_ret
        refine PostS.of _ rfl hbw (fun h => ?_)
        show (keyB (kindAt l (q0 : Nat)) && (kindAt l (q1 : Nat) == 13) && (parK l (q1 : Nat) == [6])) = true
        have hr6 : r.kind = 6 := by simpa using h
        rw [E0.out, E1.out, HKEY.out, H13.out, HPAR.out]
        have hzk : z.kids = [(q : Int)] := by
          match hzk : z.kids, HZN.out, HT.out with
          | [a], _, h2 => cases h2; rfl
        have : ksOf l z = [6] := by unfold ksOf; rw [hzk]; show [kindAt l (q : Nat)] = [6]; rw [kindAt_of HRR.out, hr6]
        rw [this]
        rfl
      · have hz1' : ((zn : Int) == 1) = false := by rw [beq_eq_false_iff_ne]; omega
        go_wp2_with fail
        refine (HKC.out _).mono ?_
        rintro e w3 ⟨rfl, rfl⟩
        simp only
        go_wp2_with fail
        go_ret
        exact PostS.of false rfl hbw (fun h => by cases h)
  · have hkc := refkey_any t0
    obtain ⟨vk, ek⟩ : ∃ v, keyB t0 = v := ⟨_, rfl⟩
    rw [ek] at hkc hno
    have HKC := Lib.hid hkc
    clear hkc ek
    cases vk with
    | false =>
      clear hno
      rcases hk with rfl | rfl
      all_goals
        go_wp2_with fail
        refine (HKC.out _).mono ?_
        rintro e w3 ⟨rfl, rfl⟩
        simp only
        go_wp2_with fail
        go_ret
        exact PostS.of false rfl hbw (fun h => by cases h)
    | true =>
      have h13 : (y.kind == 13) = false := by rw [beq_eq_false_iff_ne]; exact fun e => hno ⟨rfl, e⟩
      have h13' : (y.kind != 13) = true := by rw [bne, h13]; rfl
      clear hno
      rcases hk with rfl | rfl
      all_goals
        go_wp2_with fail
        refine (HKC.out _).mono ?_
        rintro e w3 ⟨rfl, rfl⟩
        simp only
        go_wp2_with fail
        go_ret
        exact PostS.of false rfl hbw (fun h => by cases h)
end
end Go.Proofs.YtgnpgdjjdhlhaaaDoor
