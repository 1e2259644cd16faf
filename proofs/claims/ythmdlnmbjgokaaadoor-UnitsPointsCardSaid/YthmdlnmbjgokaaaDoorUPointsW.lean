/- The walk of UnitsPoints. -/
import Derived.Test.YthmdlnmbjgokaaaDoorUAwake
import Derived.Test.YthmdlnmbjgokaaaDoorULawB
import Derived.RangeFuncNested
import Derived.RangeFuncBox
namespace Go.Proofs.YthmdlnmbjgokaaaDoor
open Go.RowKit Go.Shelf
set_option maxHeartbeats 4000000
set_option maxRecDepth 100000
attribute [local go_sem] Oper.semAt_some

theorem refpoint3_any (r : Int) (w : World) :
    Calls Tryd.prog 17 #[.int .i32 r] w fun e w' => ∃ A n c, e = .returned (.slice A n c) ∧ (pointU r).length = n ∧ n ≤ 2 ∧ Rd w' w'.heap.size A ((pointU r).map (Value.int .u16)) ∧ Below w.heap.size w w' := by
  by_cases h0 : r < 0 ∨ 1114111 < r
  · refine (point_none r w h0).mono ?_
    rintro e w' ⟨rfl, rfl⟩
    rw [pointU_none h0]
    exact ⟨none, 0, 0, rfl, rfl, by omega, Rd.nil, Below.refl _ _⟩
  · by_cases h1 : r < 65536
    · refine (point_low r w (by omega) h1).mono ?_
      rintro e w' ⟨rfl, rfl⟩
      rw [pointU_low (by omega) h1]
      refine ⟨_, 1, 1, rfl, rfl, by omega, ?_, (Below.refl _ _).alloc (Nat.le_refl _) _⟩
      intro k u hu
      have hh := World.alloc_heap_new w (.cells #[.int .u16 r] 54)
      refine ⟨_, rfl, by simp, ?_⟩
      match k, hu with
      | 0, hu =>
        simp at hu
        subst hu
        rw [Addr.add_lit, Lib.cell_of_heap hh]; rfl
      | k + 1, hu => simp at hu
    · refine (point_high r w (by omega) (by omega)).mono ?_
      rintro e w' ⟨rfl, rfl⟩
      rw [pointU_high (by omega) (by omega)]
      refine ⟨_, 2, 2, rfl, rfl, by omega, ?_, (Below.refl _ _).alloc (Nat.le_refl _) _⟩
      intro k u hu
      have hh := World.alloc_heap_new w (.cells #[.int .u16 (55296 + (r - 65536) / 1024), .int .u16 (56320 + (r - 65536) % 1024)] 54)
      refine ⟨_, rfl, by simp, ?_⟩
      match k, hu with
      | 0, hu =>
        simp at hu
        subst hu
        rw [Addr.add_lit, Lib.cell_of_heap hh]; rfl
      | 1, hu =>
        simp at hu
        subst hu
        rw [Addr.add_lit, Lib.cell_of_heap hh]; rfl
      | k + 2, hu => simp at hu

theorem makeB_append (a b : List Int) : makeB (a ++ b) = makeB a ++ makeB b := by
  apply ByteArray.ext
  rw [ByteArray.data_append]
  apply Array.toList_inj.1
  rw [Array.toList_append]
  unfold makeB
  rw [strOfNums_data, strOfNums_data, strOfNums_data, bytesOf_append, List.map_append]
theorem eql_func_nilU (w : World) (fn : Fn) (x y : Array Value) : (binOp .eql 40 (.func fn x y) .nilFunc).run Tryd.prog w = .ok (.bool false) w := by
  have h : ∀ d : Nat, (Op.equalIn (d + 1) 40 (.func fn x y) .nilFunc).run Tryd.prog w = .ok false w := fun d => by
    simp [Op.equalIn, run_underlying Tryd.underlying40]
  simp only [binOp]
  simp [Op.equal, Op.maxDepth, h 9999]

theorem cell_blockU {w : World} {b : Nat} {cs : Array Value} {t : TypeId} {fr : Nat × Nat} (h : w.heap[b]? = some (.cells cs t fr)) (i : Nat) : w.cell? ⟨b, i, none⟩ = cs[i]? := cell_of_row w b i cs t fr h

section
variable {P : Program} {n : Nat} {g : Operand} {ps : Array Tmp} {Q : Exit → Act → World → Prop} {a : Act} {w : World} {α : Type} {gf : Nat} {lb : Array Value} {encs : α → Array Value} {S Sp : List α → Prop} {N : Nat}
theorem range_breakU (h1 : 1 ≤ n) (hg : a.eval g = .func (.func gf) #[] lb) (eg : ∀ args w, (callFunc gf args).run P w = .ok (.enter gf args) w) (hseq : SeqStopsK Fence.wide (n - 1) P gf lb encs (fun _ _ => True) S Sp N w) (hps : ∀ x, (encs x).size = ps.size)
    (hcont : ∀ (D : Nat) (W : World), w.heap.size ≤ D → Below w.heap.size w W → W.heap[D]? = some (.deferred (some [])) → Q .normal { a with defers := { target := .collected D, args := #[] } :: a.defers } W) :
    (Code.rangeFunc g ps .skip (.block 1 (.exit 0))).wpIn Fence.wide n P (Exit.inBlock 0 Q) a w := by
  refine wpIn_rangeFunc_ownH rfl h1 hg trivial eg hseq (fun _ _ => trivial) (fun _ _ _ _ _ _ _ _ => trivial) (Below.refl _ _) hps
    (fun _ W => Below w.heap.size w W) (fun c _ W => c = .exit 0 ∧ Below w.heap.size w W) (ownFrom_below (Nat.le_refl _) (Nat.le_refl _))
    (fun c s X Y row hs hg' hr => ⟨hs.1, ownFrom_below (β := List α) (Nat.le_refl _) (Nat.le_refl _) s X Y row hs.2 hg' hr⟩) (Below.refl _ _)
    (fun _ _ _ => True) (fun _ _ _ _ _ _ _ _ _ => trivial) ?assign ?body ?done ?stop
  case assign =>
    intro l pre x W K hI hK
    gi_wp2
    exact hK _ _ (KeepsFrom.refl _ _) trivial hI trivial
  case body =>
    intro l pre x a' W hl hr hI hA hN
    gi_wp2
    exact ⟨KeepsFrom.refl _ _, rfl, hI⟩
  case done =>
    intro D xs W hD _ hI hK
    exact hcont D W hD hI hK
  case stop =>
    rintro D c pre W hD _ ⟨rfl, hI⟩ hK
    gi_wp2
    exact hcont D W hD hI hK
end

theorem points_end {tmps : Array Value} {B D D2 : Nat} {w W' : World} (ht : tmps.getD 4 undef = .pointer (some ⟨B, 0, none⟩)) (hv : W'.heap[B]? = some (.cells #[.bool false] 4 (0, 0))) (hD : W'.heap[D]? = some (.deferred (some []))) (hD2 : W'.heap[D2]? = some (.deferred (some [])))
    (hne : D ≠ D2) (hb : Below w.heap.size w W') (hB : w.heap.size ≤ B) (h1 : w.heap.size ≤ D) (h2 : w.heap.size ≤ D2) :
    bodyPostM Fence.wide 3 Tryd.prog Tryd.f4 (fun e w' => e = .returned (.bool true) ∧ Below w.heap.size w w') .ret { tmps := tmps, defers := [{ target := .collected D2, args := #[] }, { target := .collected D, args := #[] }] } (W'.setCell ⟨B, 0, none⟩ (.bool true)) := by
  have n1 : D ≠ B := fun e => by rw [e, hv] at hD; cases hD
  have n2 : D2 ≠ B := fun e => by rw [e, hv] at hD2; cases hD2
  have k1 : (W'.setCell ⟨B, 0, none⟩ (.bool true)).heap[D2]? = some (.deferred (some [])) := by rw [Below.heap_setCell _ _ _ _ n2]; exact hD2
  have k2 : ((W'.setCell ⟨B, 0, none⟩ (.bool true)).putObj D2 (.deferred none)).heap[D]? = some (.deferred (some [])) := by
    rw [World.putObj_heap_other hne, Below.heap_setCell _ _ _ _ n1]; exact hD
  have k3 : (((W'.setCell ⟨B, 0, none⟩ (.bool true)).putObj D2 (.deferred none)).putObj D (.deferred none)).heap[B]? = some (.cells #[.bool true] 4 (0, 0)) := by
    rw [World.putObj_heap_other (Ne.symm n1), World.putObj_heap_other (Ne.symm n2)]
    exact Boxed.set (.bool true) hv
  have k4 := cell_blockU k3 0
  have s1 := hb.size
  have hb1 : Below w.heap.size w (W'.setCell ⟨B, 0, none⟩ (.bool true)) := hb.setCell (p := ⟨B, 0, none⟩) hB _
  have hb2 : Below w.heap.size w ((W'.setCell ⟨B, 0, none⟩ (.bool true)).putObj D2 (.deferred none)) := hb1.grown (grownBy_putObj' _ _ _) hb1.size (fun k hk => by cases hk; exact h2)
  have hb3 : Below w.heap.size w (((W'.setCell ⟨B, 0, none⟩ (.bool true)).putObj D2 (.deferred none)).putObj D (.deferred none)) := hb2.grown (grownBy_putObj' _ _ _) hb2.size (fun k hk => by cases hk; exact h1)
  simp at k4
  refine ⟨by simp, .inl ⟨_, _, rfl, run_takeDeferred k1, ?_⟩⟩
  refine ⟨by simp, .inl ⟨_, _, rfl, run_takeDeferred k2, ?_⟩⟩
  refine ⟨.bool true, ?_, rfl, hb3⟩
  have ht' : tmps[4]?.getD undef = .pointer (some ⟨B, 0, none⟩) := by simpa using ht
  simp [results, Tryd.results4, ht', go_sem, k4]

theorem pointsW_in (s : ByteArray) (r : Int) (w : World) (hs : s.size ≤ 4000) (hr0 : -2147483648 ≤ r) (hr1 : r ≤ 2147483647) (hT : Lib.Utf8Tabs 0 1 w) :
    CallsIn Fence.wide 3 Tryd.prog 4 #[.string s, .int .i32 r] w fun e w' => e = .returned (.bool true) ∧ Below w.heap.size w w' := by
  obtain ⟨xs, hxs, hxl⟩ := pts_ok s
  have hp1 := fun w => pointUnits_any r w hr0 hr1
  have hp2 := fun w => refpoint3_any r w
  have hp3 := fun A n c w h1 h2 h3 => make_any (pointU r) A n c w h1 h2 (point_ok r) h3
  obtain ⟨pv, hpv⟩ : ∃ pv, makeB (pointU r) = pv := ⟨_, rfl⟩
  rw [hpv] at hp1 hp3
  clear hpv
  refine callsIn_of_wp_marks Tryd.func4 rfl trivial ?_ rfl
  simp only [Tryd.ntmps4, List.size_toArray, List.length_cons, List.length_nil, Nat.reduceAdd, Nat.reduceSub, Array.replicate_succ, Array.replicate_zero, List.push_toArray, List.append_toArray, List.nil_append, List.cons_append]
  gi_wp2
  have hb0 : Below w.heap.size w (w.alloc (.cells #[.bool false] 4)) := (Below.refl _ _).alloc (Nat.le_refl _) _
  have hbox0 : Boxed (w.alloc (.cells #[.bool false] 4)) w.heap.size 4 (.bool false) := Boxed.new w _ _
  have hsz0 : (w.alloc (.cells #[.bool false] 4)).heap.size = w.heap.size + 1 := by simp
  obtain ⟨w0, hw0⟩ : ∃ w0, w.alloc (.cells #[.bool false] 4) = w0 := ⟨_, rfl⟩
  rw [hw0] at hb0 hbox0 hsz0 ⊢
  clear hw0
  refine ⟨trivial, ?_⟩
  refine (callsIn_wide.2 (awake_any _ (Utf8Tabs_below hT hb0))).mono ?_
  rintro e w1 ⟨rfl, b1⟩
  simp only
  gi_wp2
  refine ⟨trivial, ?_⟩
  refine (callsIn_wide.2 (hp1 _)).mono ?_
  rintro e w2 ⟨rfl, b2⟩
  have b02 := b1.trans (b2.mono b1.size)
  simp only
  gi_wp2
  refine ⟨trivial, ?_⟩
  refine (callsIn_wide.2 (hp2 _)).mono ?_
  rintro e w3 ⟨A0, n0, c0, rfl, hl0, hn0, hrd0, b3⟩
  have b03 := b02.trans (b3.mono b02.size)
  simp only
  gi_wp2
  refine ⟨trivial, ?_⟩
  refine (callsIn_wide.2 (hp3 A0 n0 c0 _ hrd0 hl0 (by omega))).mono ?_
  rintro e w4 ⟨rfl, b4⟩
  have b04 := b03.trans (b4.mono b03.size)
  clear hrd0 hl0 b1 b2 b3 b4 b02 b03 hp1 hp2 hp3
  simp only
  gi_wp2
  refine ⟨trivial, ?_⟩
  refine (callsIn_wide.2 (refpoints_any s _ (by omega))).mono ?_
  rintro e w5 ⟨va, vo, rfl, hat, hout, b5⟩
  have b05 := b04.trans (b5.mono b04.size)
  have bw5 := hb0.trans (b05.mono hb0.size)
  obtain ⟨Aa, ca, rfl⟩ := own_form hat
  obtain ⟨Ao, co, rfl⟩ := own_form hout
  have hrda := Rd.of_own hat
  have hrdo := Rd.of_own hout
  clear hat hout
  have hxn : xs.length = (PF s 0).length := by rw [← hxs, List.length_map]
  obtain ⟨L, hL⟩ : ∃ L, (PF s 0).length = L := ⟨_, rfl⟩
  rw [hL] at hxn
  have hLs : L ≤ 2000 := by have := PF_length s 0; omega
  rw [hL]
  clear b5
  have hfn := fun w a b => eql_func_nilU w (.func 43) a b
  simp only
  gi_wp2
  refine ⟨trivial, ?_⟩
  refine (callsIn_wide.2 (points_any s _)).mono ?_
  rintro e w6 ⟨rfl, rfl⟩
  simp only
  gi_wp2
  have hE : ((w5.alloc (.cells #[.slice Aa L ca] 35)).alloc (.cells #[.slice Ao L co] 36)).heap.size = w5.heap.size + 2 := by simp
  have k0 : (((w5.alloc (.cells #[.slice Aa L ca] 35)).alloc (.cells #[.slice Ao L co] 36)).alloc (.cells #[.string s] 22)).heap[w5.heap.size]? = some (.cells #[.slice Aa L ca] 35 (0, 0)) := by
    rw [Lib.alloc_old _ _ _ (by simp; omega), Lib.alloc_old _ _ _ (by simp)]
    exact World.alloc_heap_new w5 _
  have k1 : (((w5.alloc (.cells #[.slice Aa L ca] 35)).alloc (.cells #[.slice Ao L co] 36)).alloc (.cells #[.string s] 22)).heap[w5.heap.size + 1]? = some (.cells #[.slice Ao L co] 36 (0, 0)) := by
    rw [Lib.alloc_old _ _ _ (by simp)]
    have := World.alloc_heap_new (w5.alloc (.cells #[.slice Aa L ca] 35)) (.cells #[.slice Ao L co] 36)
    rwa [show (w5.alloc (.cells #[.slice Aa L ca] 35)).heap.size = w5.heap.size + 1 by simp] at this
  have k2 : (((w5.alloc (.cells #[.slice Aa L ca] 35)).alloc (.cells #[.slice Ao L co] 36)).alloc (.cells #[.string s] 22)).heap[w5.heap.size + 2]? = some (.cells #[.string s] 22 (0, 0)) := by
    have := World.alloc_heap_new ((w5.alloc (.cells #[.slice Aa L ca] 35)).alloc (.cells #[.slice Ao L co] 36)) (.cells #[.string s] 22)
    rwa [hE] at this
  have hb5 : Below w5.heap.size w5 (((w5.alloc (.cells #[.slice Aa L ca] 35)).alloc (.cells #[.slice Ao L co] 36)).alloc (.cells #[.string s] 22)) := (((Below.refl _ _).alloc (Nat.le_refl _) _).alloc (by simp) _).alloc (by simp; omega) _
  rw [hE]
  obtain ⟨W, hW⟩ : ∃ W, (((w5.alloc (.cells #[.slice Aa L ca] 35)).alloc (.cells #[.slice Ao L co] 36)).alloc (.cells #[.string s] 22)) = W := ⟨_, rfl⟩
  rw [hW] at k0 k1 k2 hb5 ⊢
  clear hW hE hfn
  have bww := bw5.trans (hb5.mono bw5.size)
  have hrda := (hrda.below hb5).more hb5.size
  have hrdo := (hrdo.below hb5).more hb5.size
  have sw5 := bw5.size
  have sww := bww.size
  have hwt : W.heap[w.heap.size]? = some (.cells #[.bool false] 4 (0, 0)) := ((b05.trans (hb5.mono b05.size)).block _ (by omega)).trans hbox0
  have kc : W.cell? ⟨w5.heap.size + 2, 0, none⟩ = some (.string s) := by rw [Lib.cell_of_heap k2]; rfl
  refine range_breakU (by omega) (gf := 43) (lb := #[.pointer (some ⟨w5.heap.size + 2, 0, none⟩)]) rfl (enters_of Tryd.func43 (by kernel_rfl) rfl)
    (points_stops 2 s (by omega) xs hxs kc) (fun _ => rfl) ?_
  intro D W2 hD hb2 hK2
  have z0 := (hb2.block _ (Array.getElem?_eq_some_iff.1 k0).1).trans k0
  have z1 := (hb2.block _ (Array.getElem?_eq_some_iff.1 k1).1).trans k1
  have z2 := (hb2.block _ (Array.getElem?_eq_some_iff.1 k2).1).trans k2
  have zt := (hb2.block _ (Array.getElem?_eq_some_iff.1 hwt).1).trans hwt
  have hrda := (hrda.below hb2).more hb2.size
  have hrdo := (hrdo.below hb2).more hb2.size
  have bw2 := bww.trans (hb2.mono bww.size)
  clear k0 k1 k2 hwt kc
  gi_wp2
  have hE2 : (W2.alloc (.cells #[.int .i64 0] 3)).heap.size = W2.heap.size + 1 := by simp
  have hbk0 : Boxed ((W2.alloc (.cells #[.int .i64 0] 3)).alloc (.cells #[.string ⟨#[]⟩] 22)) W2.heap.size 3 (.int .i64 0) := by
    unfold Boxed
    rw [Lib.alloc_old _ _ _ (by simp)]
    exact World.alloc_heap_new W2 _
  have hbb0 : Boxed ((W2.alloc (.cells #[.int .i64 0] 3)).alloc (.cells #[.string ⟨#[]⟩] 22)) (W2.heap.size + 1) 22 (.string ⟨#[]⟩) := by
    have := Boxed.new (W2.alloc (.cells #[.int .i64 0] 3)) 22 (.string ⟨#[]⟩)
    rwa [hE2] at this
  have hb24 : Below W2.heap.size W2 ((W2.alloc (.cells #[.int .i64 0] 3)).alloc (.cells #[.string ⟨#[]⟩] 22)) := ((Below.refl _ _).alloc (Nat.le_refl _) _).alloc (by simp) _
  have hsz4 : ((W2.alloc (.cells #[.int .i64 0] 3)).alloc (.cells #[.string ⟨#[]⟩] 22)).heap.size = W2.heap.size + 2 := by simp
  obtain ⟨W4, hW4⟩ : ∃ W4, ((W2.alloc (.cells #[.int .i64 0] 3)).alloc (.cells #[.string ⟨#[]⟩] 22)) = W4 := ⟨_, rfl⟩
  rw [hW4] at hbk0 hbb0 hb24 hsz4 ⊢
  clear hW4 hE2
  have kc4 : W4.cell? ⟨w5.heap.size + 2, 0, none⟩ = some (.string s) := by rw [Lib.cell_of_heap ((hb24.block _ (Array.getElem?_eq_some_iff.1 z2).1).trans z2)]; rfl
  have sw2 := bw2.size
  refine wpIn_rangeFunc_ownH rfl (by omega) (gf := 43) (lb := #[.pointer (some ⟨w5.heap.size + 2, 0, none⟩)]) rfl trivial (enters_of Tryd.func43 (by kernel_rfl) rfl)
    (points_stops 2 s (by omega) xs hxs kc4) (fun _ _ => trivial) (fun _ _ _ _ _ _ _ _ => trivial) (Below.refl _ _) (fun _ => rfl)
    (fun (pre : List PtO) W' => Boxed W' W2.heap.size 3 (.int .i64 pre.length) ∧ Boxed W' (W2.heap.size + 1) 22 (.string (makeB (pre.flatMap fun x => pointU x.1.2))) ∧ Below W2.heap.size W2 W')
    (fun c pre W' => c = .ret ∧ ¬ pre <+: xs)
    (OwnFrom.and (Own.from (boxed_own W2.heap.size 3 (fun (pre : List PtO) => .int .i64 pre.length)) _) (OwnFrom.and (Own.from (boxed_own (W2.heap.size + 1) 22 (fun (pre : List PtO) => .string (makeB (pre.flatMap fun x => pointU x.1.2)))) _) (ownFrom_below (Nat.le_refl _) (by omega))))
    (fun c s X Y row hs _ _ => hs)
    ⟨hbk0, hbb0, hb24⟩
    (fun x a' W' => a' = { tmps := #[.string s, .int .i32 r, undef, undef, .pointer (some ⟨w.heap.size, 0, none⟩), .pointer (some ⟨w5.heap.size, 0, none⟩), .pointer (some ⟨w5.heap.size + 1, 0, none⟩), .func (.func 43) #[] #[.pointer (some ⟨w5.heap.size + 2, 0, none⟩)], .pointer (some ⟨W2.heap.size, 0, none⟩), .pointer (some ⟨W2.heap.size + 1, 0, none⟩), .int .i64 (x.1.1 : Nat), .int .i32 x.1.2, .bool true, .bool false, .string s, .int .i64 s.size, .bool (decide ((4000 : Int) < s.size)), .int .i32 r, .string pv, .int .i32 r, .slice A0 n0 c0, .string pv, .bool false, .tuple #[.slice Aa L ca, .slice Ao L co], .string s, .tuple #[.slice Aa L ca, .slice Ao L co], .slice Aa L ca, .slice Ao L co, .string s, .func (.func 43) #[] #[.pointer (some ⟨w5.heap.size + 2, 0, none⟩)], .func (.func 43) #[] #[.pointer (some ⟨w5.heap.size + 2, 0, none⟩)], .bool false, .func (.func 43) #[] #[.pointer (some ⟨w5.heap.size + 2, 0, none⟩)], undef, undef, .func (.func 43) #[] #[.pointer (some ⟨w5.heap.size + 2, 0, none⟩)], .int .i64 (x.1.1 : Nat), .int .i32 x.1.2, undef, undef, undef, undef, undef, undef, undef, undef, undef, undef, undef, undef, undef, undef, undef, undef, undef, undef, undef, undef, undef, undef, undef, undef, undef, undef, undef, undef, undef, undef, undef, undef, undef, undef, undef, undef], defers := [] })
    (fun x a' _ X Y row hs hg hr => hs)
    ?assign ?body ?done ?stop
  case assign =>
    rintro l pre ⟨⟨x1, x2⟩, hx⟩ W' K ⟨hI1, hI2, hB⟩ hK
    simp only [encPt]
    gi_wp2
    exact hK _ _ (KeepsFrom.refl _ _) trivial ⟨hI1, hI2, hB⟩ rfl
  case body =>
    rintro l pre ⟨⟨x1, x2⟩, hx⟩ a' W' hl ⟨rr, hrr⟩ ⟨hk, hbk, hB⟩ rfl hlt
    have hx' : 0 ≤ x2 ∧ x2 ≤ 1114111 := hx
    obtain ⟨i, hi⟩ : ∃ i, pre.length = i := ⟨_, rfl⟩
    simp only [hi] at hk hlt
    obtain ⟨⟨y1, y2⟩, hy⟩ : ∃ y, (PF s 0)[i]? = some y := ⟨(PF s 0)[i]'(by omega), List.getElem?_eq_getElem _⟩
    have hiL : i < L := by omega
    have q3 : decide (L ≤ i) = false := by simp; omega
    have q4 : (L ≤ i) = False := by simp; omega
    obtain ⟨g, hg⟩ : ∃ g, makeB (pre.flatMap fun x => pointU x.1.2) = g := ⟨_, rfl⟩
    rw [hg] at hbk
    have HG := Lib.hid hg
    clear hg
    have hh : ∀ {a : Addr} {u : Value}, W2.cell? a = some u → W'.cell? a = some u := fun {a u} h => (hB.cell (World.block_lt_of_cell? _ _ h)).trans h
    obtain ⟨ada, rfl, _, ca'⟩ := hrda.at_ (k := i) (u := .int .i64 (y1 : Nat)) (by rw [atV, List.getElem?_map, hy]; rfl)
    obtain ⟨ado, rfl, _, co'⟩ := hrdo.at_ (k := i) (u := .int .i32 y2) (by rw [outV, List.getElem?_map, hy]; rfl)
    have ca1 := hh ca'
    have co1 := hh co'
    have cz0 : W'.cell? ⟨w5.heap.size, 0, none⟩ = some (.slice (some ada) L ca) := hh (by rw [Lib.cell_of_heap z0]; rfl)
    have cz1 : W'.cell? ⟨w5.heap.size + 1, 0, none⟩ = some (.slice (some ado) L co) := hh (by rw [Lib.cell_of_heap z1]; rfl)
    have czt := (hB.block _ (Array.getElem?_eq_some_iff.1 zt).1).trans zt
    have ct0 : W'.cell? ⟨w.heap.size, 0, none⟩ = some (.bool false) := by rw [Lib.cell_of_heap czt]; rfl
    have ft0 : W'.frozen? ⟨w.heap.size, 0, none⟩ = false := Lib.frozen_of_heap czt 0
    have ck := hk.cell
    have fk := hk.frozen
    have cb := hbk.cell
    have fb := hbk.frozen
    have HY := Lib.hid hy
    have sB := hB.size
    have HH : Hid (∀ {a : Addr} {u : Value}, W2.cell? a = some u → W'.cell? a = some u) := Lib.hid hh
    have hno : (x1 ≠ y1 ∨ x2 ≠ y2) → ¬ (pre ++ [(⟨(x1, x2), hx⟩ : PtO)]) <+: xs := fun hor hp => by
      obtain ⟨tl, htl⟩ := hp
      have hxi : xs[i]? = some (⟨(x1, x2), hx⟩ : PtO) := by rw [← htl, ← hi]; simp
      have h1 : (xs.map (·.1))[i]? = some (x1, x2) := by rw [List.getElem?_map, hxi]; rfl
      rw [hxs, HY.out] at h1
      injection h1 with h1
      injection h1 with h1 h2
      rcases hor with h | h
      · exact h h1.symm
      · exact h h2.symm
    have HNO := Lib.hid hno
    clear hno hy hh ca' co' czt hrda hrdo z0 z1 z2 zt
    dsimp only
    by_cases e1 : x1 = y1
    · subst e1
      by_cases e2 : x2 = y2
      · subst e2
        have hadd : g.size + (makeB (pointU x2)).size ≤ 9223372036854775807 := by
          have h1 := makeB_size (pre.flatMap fun x => pointU x.1.2)
          rw [HG.out] at h1
          have h2 := bytes_point_le x2
          rw [bytesOf_length] at h2
          have h3 := makeB_size (pointU x2)
          have h4 : ∀ q : List PtO, (q.flatMap fun x => pointU x.1.2).length ≤ 2 * q.length := by
            intro q
            induction q with
            | nil => simp
            | cons z r ih =>
              have h5 := bytes_point_le z.1.2
              rw [bytesOf_length] at h5
              simp only [List.flatMap_cons, List.length_append, List.length_cons]
              omega
          have h6 : (pre.flatMap fun x => pointU x.1.2).length ≤ 2 * pre.length := h4 pre
          omega
        have hrun := fun w => run_string_add_sum (P := Tryd.prog) (w := w) g (makeB (pointU x2)) hadd
        have hcat : g ++ makeB (pointU x2) = makeB ((pre ++ [(⟨(x1, x2), hx⟩ : PtO)]).flatMap fun x => pointU x.1.2) := by
          rw [← HG.out, List.flatMap_append, makeB_append]
          simp
        have HCAT := Lib.hid hcat
        obtain ⟨g2, hg2⟩ : ∃ g2, g ++ makeB (pointU x2) = g2 := ⟨_, rfl⟩
        rw [hg2] at HCAT
        simp only [hg2] at hrun
        obtain ⟨pz, hpz⟩ : ∃ pz, makeB (pointU x2) = pz := ⟨_, rfl⟩
        have hpt := fun w => pointUnits_any x2 w (by omega) (by omega)
        simp only [hpz] at hpt hrun
        have hfacts : ∀ w', Below W'.heap.size W' w' → w'.cell? ⟨W2.heap.size + 1, 0, none⟩ = some (.string g) ∧ w'.frozen? ⟨W2.heap.size + 1, 0, none⟩ = false := fun w' hb =>
          ⟨(hb.cell (World.block_lt_of_cell? _ _ cb)).trans cb, (hb.frozen (p := ⟨W2.heap.size + 1, 0, none⟩) (World.block_lt_of_cell? _ _ cb)).trans fb⟩
        have HF := Lib.hid hfacts
        clear hfacts hadd hcat hg2 hpz
        gi_wp2
        refine wpIn_region_lin (fun w' => Below W'.heap.size W' w') [4] (.block 0 (.block 1 (.scope (.seq (.label 2) (.block 3 (.loop (.scope (.seq (.label 4) (.skip))))))))) (by kernel_rfl) (by kernel_rfl) (by kernel_rfl) (by kernel_rfl) (by kernel_rfl) (by kernel_rfl) (Below.refl _ _).drew ?_
        repeat first
          | (refine lin_light (A1 := ?_) rfl rfl rfl rfl rfl (fun w' hS K hK => ?_) ?_ ?_
             rotate_left
             · have hF := HF.out _ hS; obtain ⟨_, _⟩ := hF; go_step; exact hK
             · rfl)
          | (refine lin_skip rfl rfl ?_; simp only [Act.put, List.setIfInBounds_toArray, List.set_cons_zero, List.set_cons_succ])
        refine lin_group ?_
        refine lin_heavy rfl rfl (fun K hK => ?_)
        go_step
        refine (hpt _).mono ?_
        rintro e w6 ⟨rfl, hb6⟩
        simp only
        have hb16 : Below W'.heap.size W' w6 := (Below.refl _ _).drew.trans (hb6.mono (Nat.le_refl _))
        refine hK.out _ _ hb16 ?_
        clear hK K
        repeat first
          | (refine lin_light (A1 := ?_) rfl rfl rfl rfl rfl (fun w' hS K hK => ?_) ?_ ?_
             rotate_left
             · have hF := HF.out _ hS; obtain ⟨_, _⟩ := hF; go_step; exact hK
             · rfl)
          | (refine lin_skip rfl rfl ?_; simp only [Act.put, List.setIfInBounds_toArray, List.set_cons_zero, List.set_cons_succ])
        obtain ⟨cb6, fb6⟩ := HF.out w6 hb16
        try refine lin_late ?_
        refine lin_group ?_
        refine lin_heavy rfl rfl (fun K hK => ?_)
        go_step
        refine hK.out _ _ trivial ?_
        clear hK K cb6 fb6
        refine lin_end ?_
        refine NoOut.normal ?_
        have hk6 : Boxed w6 W2.heap.size 3 (.int .i64 i) := (hb16.block _ hk.lt).trans hk
        have hbk6 : Boxed w6 (W2.heap.size + 1) 22 (.string g) := (hb16.block _ hbk.lt).trans hbk
        have hk7 : Boxed (w6.setCell ⟨W2.heap.size + 1, 0, none⟩ (.string g2)) W2.heap.size 3 (.int .i64 i) := hk6.other (by omega) _
        have hbk7 : Boxed (w6.setCell ⟨W2.heap.size + 1, 0, none⟩ (.string g2)) (W2.heap.size + 1) 22 (.string g2) := hbk6.set _
        have hkp : KeepsFrom W4.heap.size W' (w6.setCell ⟨W2.heap.size + 1, 0, none⟩ (.string g2)) := (show KeepsFrom W4.heap.size W' w6 from ⟨hb16.size, fun k o _ hk _ => (hb16.block k (Array.getElem?_eq_some_iff.1 hk).1).trans hk⟩).trans ((KeepsOthers.setCell _ _ _).from _)
        have hB7 : Below W2.heap.size W2 (w6.setCell ⟨W2.heap.size + 1, 0, none⟩ (.string g2)) := (hB.trans (hb16.mono sB)).setCell (p := ⟨W2.heap.size + 1, 0, none⟩) (by show W2.heap.size ≤ W2.heap.size + 1; omega) _
        obtain ⟨w7, hw7⟩ : ∃ w7, w6.setCell ⟨W2.heap.size + 1, 0, none⟩ (.string g2) = w7 := ⟨_, rfl⟩
        rw [hw7] at hk7 hbk7 hkp hB7 ⊢
        clear hw7
        have ck7 := hk7.cell
        have fk7 := hk7.frozen
        gi_wp2
        have hlen : ((pre ++ [(⟨(x1, x2), hx⟩ : PtO)]).length : Int) = (i : Int) + 1 := by rw [List.length_append, hi]; simp
        refine ⟨hkp.trans ((KeepsOthers.setCell _ _ _).from _), trivial, ?_, ?_, hB7.setCell (p := ⟨W2.heap.size, 0, none⟩) (Nat.le_refl _) _⟩
        · rw [hlen]
          exact hk7.set _
        · rw [← HCAT.out]
          exact hbk7.other (by omega) _
      · gi_wp2
        exact ⟨(KeepsOthers.setCell _ _ _).from _, rfl, HNO.out (.inr e2)⟩
    · have e1' : ¬ (x1 : Int) = (y1 : Int) := by omega
      gi_wp2
      exact ⟨(KeepsOthers.setCell _ _ _).from _, rfl, HNO.out (.inl e1)⟩
  case done =>
    rintro D2 ys W' hD2 rfl ⟨hk, hbk, hB⟩ hK3
    have hfl : makeB (ys.flatMap fun x => pointU x.1.2) = evenB s := by
      rw [← makeB_U]
      congr 1
      have h1 := PF_units s 0
      rw [← hxs, List.drop_zero, List.flatMap_map] at h1
      exact h1
    rw [hfl] at hbk
    rw [hxn] at hk
    have hsm : s.size ≤ maxLen := by unfold maxLen; omega
    have hev := fun w => evenD_any s w hsm
    obtain ⟨ev, hv⟩ : ∃ ev, evenB s = ev := ⟨_, rfl⟩
    rw [hv] at hbk
    simp only [hv] at hev
    clear hfl hv hsm
    have y1 := (hB.block _ (Array.getElem?_eq_some_iff.1 z1).1).trans z1
    have yt := (hB.block _ (Array.getElem?_eq_some_iff.1 zt).1).trans zt
    have ltD : D < W2.heap.size := (Array.getElem?_eq_some_iff.1 hK2).1
    have hK2' := (hB.block D ltD).trans hK2
    have ck := hk.cell
    have cb := hbk.cell
    have cz1 : W'.cell? ⟨w5.heap.size + 1, 0, none⟩ = some (.slice Ao L co) := by rw [Lib.cell_of_heap y1]; rfl
    have ct0 : W'.cell? ⟨w.heap.size, 0, none⟩ = some (.bool false) := by rw [Lib.cell_of_heap yt]; rfl
    have ft0 : W'.frozen? ⟨w.heap.size, 0, none⟩ = false := Lib.frozen_of_heap yt 0
    have bwz := bw2.trans (hB.mono bw2.size)
    have sB := hB.size
    dsimp only
    gi_wp2
    refine wpIn_wide.2 ?_
    refine wp_region_lin (fun w' => w' = W'.drew) [10] (.block 0 (.block 1 (.block 2 (.block 3 (.block 4 (.block 5 (.block 6 (.scope (.seq (.label 7) (.block 8 (.block 9 (.loop (.scope (.seq (.label 10) (.skip))))))))))))))) (by kernel_rfl) (by kernel_rfl) (by kernel_rfl) (by kernel_rfl) (by kernel_rfl) rfl ?_
    repeat first
      | (refine lin_light (A1 := ?_) rfl rfl rfl rfl rfl (fun w' hS K hK => ?_) ?_ ?_
         rotate_left
         · obtain rfl := hS; go_step; exact hK
         · rfl)
      | (refine lin_skip rfl rfl ?_; simp only [Act.put, List.setIfInBounds_toArray, List.set_cons_zero, List.set_cons_succ])
    refine lin_group ?_
    refine lin_heavy rfl rfl (fun K hK => ?_)
    go_step
    refine (hev _).mono ?_
    rintro e w6 ⟨rfl, rfl⟩
    simp only
    refine hK.out _ _ rfl ?_
    clear hK K
    repeat first
      | (refine lin_light (A1 := ?_) rfl rfl rfl rfl rfl (fun w' hS K hK => ?_) ?_ ?_
         rotate_left
         · obtain rfl := hS; go_step; exact hK
         · rfl)
      | (refine lin_skip rfl rfl ?_; simp only [Act.put, List.setIfInBounds_toArray, List.set_cons_zero, List.set_cons_succ])
    try refine lin_late ?_
    refine lin_group ?_
    refine lin_heavy rfl rfl (fun K hK => ?_)
    go_step
    refine hK.out _ _ trivial ?_
    clear hK K
    refine lin_end ?_
    gi_wp2
    exact points_end rfl (show (W'.drew).heap[w.heap.size]? = _ from yt) (show (W'.drew).heap[D]? = _ from hK2') (show (W'.drew).heap[D2]? = _ from hK3) (by omega) bwz.drew (Nat.le_refl _) (by omega) (by omega)
  case stop =>
    rintro D2 c pre W' hD2 hpre ⟨rfl, hn⟩ hK3
    exact absurd hpre hn

theorem pointsW_any (s : ByteArray) (r : Int) (w : World) (hs : s.size ≤ maxLen) (hr : -2147483648 ≤ r ∧ r ≤ 2147483647) (hT : Lib.Utf8Tabs 0 1 w) :
    Calls Tryd.prog 4 #[.string s, .int .i32 r] w fun e w' => e = .returned (.bool true) ∧ Below w.heap.size w w' := by
  unfold maxLen at hs
  by_cases hsz : 4000 < s.size
  · have hb0 : Below w.heap.size w (w.alloc (.cells #[.bool false] 4)) := (Below.refl _ _).alloc (Nat.le_refl _) _
    have hbox0 : Boxed (w.alloc (.cells #[.bool false] 4)) w.heap.size 4 (.bool false) := Boxed.new w _ _
    go_enter Tryd.func4, Tryd.ntmps4
    go_wp2_with fail
    obtain ⟨w0, hw0⟩ : ∃ w0, w.alloc (.cells #[.bool false] 4) = w0 := ⟨_, rfl⟩
    rw [hw0] at hb0 hbox0 ⊢
    clear hw0
    refine (awake_any _ (Utf8Tabs_below hT hb0)).mono ?_
    rintro e w1 ⟨rfl, b1⟩
    have hbox1 : Boxed w1 w.heap.size 4 (.bool false) := (b1.block _ hbox0.lt).trans hbox0
    have c1 := hbox1.cell
    have f1 := hbox1.frozen
    have c2 := (hbox1.set (.bool true)).cell
    have bz := (hb0.trans (b1.mono hb0.size)).setCell (p := ⟨w.heap.size, 0, none⟩) (Nat.le_refl _) (.bool true)
    simp only
    go_wp2_with fail
    refine bodyPost_ret (v := .bool true) ?_ rfl ⟨rfl, bz⟩
    simp [results, Tryd.results4, go_sem, c2]
  · exact callsIn_wide.1 (pointsW_in s r w (by omega) hr.1 hr.2 hT)
end Go.Proofs.YthmdlnmbjgokaaaDoor
