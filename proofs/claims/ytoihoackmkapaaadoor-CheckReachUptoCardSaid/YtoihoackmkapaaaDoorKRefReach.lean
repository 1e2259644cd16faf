/- The document's Reach. -/
import Derived.Test.YtoihoackmkapaaaDoorKReach
namespace Go.Proofs.YtoihoackmkapaaaDoor
open Go.RowKit
set_option maxHeartbeats 2000000
set_option maxRecDepth 100000
attribute [local go_sem] Oper.semAt_some

def intL (l : List Int) : List Value := l.map (Value.int .i64)
theorem intL_snoc (l : List Int) (k : Int) : intL (l ++ [k]) = intL l ++ [.int .i64 k] := by unfold intL; rw [List.map_append]; rfl
/-- what stands in memory in the document's search -/
structure Rm (w W0 : World) (B2 bs : Nat) (b : List Bool) (wr : World) : Prop where
  below : Below w.heap.size w wr
  oth : ∀ k, k < B2 → k ≠ bs → wr.heap[k]? = W0.heap[k]?
  seen : wr.heap[bs]? = some (.cells (b.map Value.bool).toArray 4 (0, 0))
  size : B2 ≤ wr.heap.size
section
variable {w W0 wr w' : World} {B2 bs : Nat} {b : List Bool}
theorem Rm.alloc (h : Rm w W0 B2 bs b wr) (hL : w.heap.size ≤ bs ∧ bs < B2) (o : Obj) : Rm w W0 B2 bs b (wr.alloc o) := by
  have hz := h.size
  have e : ∀ k, k < B2 → (wr.alloc o).heap[k]? = wr.heap[k]? := fun k hk => Lib.alloc_old _ _ _ (by omega)
  exact ⟨h.below.alloc h.below.size _, fun k hk a => (e k hk).trans (h.oth k hk a), (e _ hL.2).trans h.seen, by simp; omega⟩
theorem Rm.grown (h : Rm w W0 B2 bs b wr) (hL : w.heap.size ≤ bs ∧ bs < B2) {row : Option Nat} (hg : wr.grownBy w' row) (hr : ∀ q, row = some q → B2 ≤ q) : Rm w W0 B2 bs b w' := by
  have hz := h.size
  have hs := hg.size
  have e : ∀ k, k < B2 → w'.heap[k]? = wr.heap[k]? := fun k hk => hg.block k (by omega) (fun e => by have := hr k e.symm; omega)
  exact ⟨h.below.grown hg h.below.size (fun q hq => by have := hr q hq; omega), fun k hk a => (e k hk).trans (h.oth k hk a), (e _ hL.2).trans h.seen, by omega⟩
theorem Rm.kept (h : Rm w W0 B2 bs b wr) (hL : w.heap.size ≤ bs ∧ bs < B2) (hb : Below wr.heap.size wr w') : Rm w W0 B2 bs b w' :=
  h.grown hL (grown_of_below hb) (fun q hq => by cases hq)
theorem Rm.mark (h : Rm w W0 B2 bs b wr) (hL : w.heap.size ≤ bs ∧ bs < B2) (k : Nat) : Rm w W0 B2 bs (b.set k true) (wr.setCell ⟨bs, k, none⟩ (.bool true)) := by
  have hz := h.size
  refine ⟨h.below.setCell (p := ⟨bs, k, none⟩) hL.1 _, fun j hj a => (Below.heap_setCell _ _ _ _ a).trans (h.oth j hj a), ?_, by simp; omega⟩
  rw [map_set_bool]
  exact setCell_blockK h.seen _
/-- seen from further below -/
theorem Rm.up {wa : World} {B3 : Nat} {b2 : List Bool} (h : Rm w wa B3 bs b wr) (h2 : Rm w W0 B2 bs b2 wa) (hB : B2 ≤ B3) : Rm w W0 B2 bs b wr :=
  ⟨h.below, fun k hk a => (h.oth k (by omega) a).trans (h2.oth k hk a), h.seen, by have := h.size; omega⟩
theorem Rm.here (h : Rm w W0 B2 bs b wr) : Rm w wr wr.heap.size bs b wr := ⟨h.below, fun _ _ _ => rfl, h.seen, Nat.le_refl _⟩
end
theorem own_at {w : World} {base : Nat} {e : TypeId} {A : Option Addr} {c n k : Nat} {x : Value} {xs : List Value} (h : w.ownsRow base e 1 (.slice A n c) n xs) (hk : xs[k]? = some x) : ∃ g, A = some ⟨g, 0, none⟩ ∧ w.cell? ⟨g, k, none⟩ = some x := by
  rcases h.2 with ⟨h', hn⟩ | ⟨g, cap, cur, h', _⟩
  · have := h.1
    have := (List.getElem?_eq_some_iff.1 hk).1
    simp at h'
    omega
  · simp only [Value.slice.injEq, true_and] at h'
    obtain ⟨rfl, rfl⟩ := h'
    obtain ⟨ad, h1, h2, h3⟩ := Rd.of_own h k x hk
    cases h1
    exact ⟨g, rfl, by simpa [Addr.add_lit] using h3⟩
theorem succs_len (f : FnT) (n : Nat) : (succs f n).length ≤ 2 + f.tries.length := by
  unfold succs
  cases f.code[n]? with
  | none => simp
  | some i =>
    simp only [List.length_append]
    have h1 : (if endsB i.1 = true then ([] : List Int) else [(n : Int) + 1]).length ≤ 1 := by split <;> simp
    have h2 : (tgtOf i).toList.length ≤ 1 := by cases tgtOf i <;> simp
    have h3 : (tryS f n).length ≤ f.tries.length := by unfold tryS; rw [List.length_map]; exact List.length_filter_le _ _
    omega
theorem hown_kept {w w' : World} {base : Nat} {e : TypeId} {v : Value} {n : Nat} {xs : List Value} (h : w.ownsRow base e 1 v n xs) (hb : Below w.heap.size w w') : w'.ownsRow base e 1 v n xs :=
  h.kept (grown_of_below hb) (by cases hv : v.ownBlock <;> simp)

theorem refreach_any {w : World} (f : FnT) (hF : FnIn w w.heap.size f) (hs : Small f) :
    Calls Tryd.prog 12 #[.agg (fnC f).toArray] w fun e w' => ∃ b bs, e = .returned (.slice (some ⟨bs, 0, none⟩) f.code.length f.code.length) ∧ IsRc f.code.length (succs f) b ∧
      w'.heap[bs]? = some (.cells (b.map Value.bool).toArray 4 (0, 0)) ∧ w.heap.size ≤ bs ∧ Below w.heap.size w w' := by
  obtain ⟨N, hN⟩ : ∃ n, f.code.length = n := ⟨_, rfl⟩
  have hsk := hs.k
  have htl := hs.t
  rw [hN] at hsk ⊢
  simp only [fnC]
  rw [hN]
  have HN := Lib.hid hN
  clear hN
  obtain ⟨i0, hi0, hz0, hz1, hz2⟩ := info_parts Tryd.info_int
  have y1 : (w.alloc (.cells #[.string f.name, .int .i64 f.params, .bool f.rest, .bool f.arrow, .int .i64 f.regs, .slice f.cA f.consts.length f.cC, .slice f.kA N f.kC, .slice f.tA f.tries.length f.tC, .slice f.uA f.caps.length f.uC] 38)).heap[w.heap.size]? = some (.cells #[.string f.name, .int .i64 f.params, .bool f.rest, .bool f.arrow, .int .i64 f.regs, .slice f.cA f.consts.length f.cC, .slice f.kA N f.kC, .slice f.tA f.tries.length f.tC, .slice f.uA f.caps.length f.uC] 38 (0, 0)) := heap_alloc_new w _
  have b1 : Below w.heap.size w (w.alloc (.cells #[.string f.name, .int .i64 f.params, .bool f.rest, .bool f.arrow, .int .i64 f.regs, .slice f.cA f.consts.length f.cC, .slice f.kA N f.kC, .slice f.tA f.tries.length f.tC, .slice f.uA f.caps.length f.uC] 38)) := (Below.refl _ _).alloc (Nat.le_refl _) _
  obtain ⟨w1, hw1⟩ : ∃ w1, w.alloc (.cells #[.string f.name, .int .i64 f.params, .bool f.rest, .bool f.arrow, .int .i64 f.regs, .slice f.cA f.consts.length f.cC, .slice f.kA N f.kC, .slice f.tA f.tries.length f.tC, .slice f.uA f.caps.length f.uC] 38) = w1 := ⟨_, rfl⟩
  rw [hw1] at y1 b1
  have l1 : w.heap.size < w1.heap.size := (Array.getElem?_eq_some_iff.1 y1).1
  have hmk := make_boolsK w1 N hsk
  have z2 : (w1.alloc (.cells (List.replicate N (Value.bool false)).toArray 4)).heap[w1.heap.size]? = some (.cells (List.replicate N (Value.bool false)).toArray 4 (0, 0)) := heap_alloc_new w1 _
  have b2 : Below w1.heap.size w1 (w1.alloc (.cells (List.replicate N (Value.bool false)).toArray 4)) := (Below.refl _ _).alloc (Nat.le_refl _) _
  obtain ⟨w2, hw2⟩ : ∃ w2, w1.alloc (.cells (List.replicate N (Value.bool false)).toArray 4) = w2 := ⟨_, rfl⟩
  rw [hw2] at z2 b2 hmk
  clear hw2
  have l2 : w1.heap.size < w2.heap.size := (Array.getElem?_eq_some_iff.1 z2).1
  have hL : w.heap.size ≤ w1.heap.size ∧ w1.heap.size < w2.heap.size := ⟨by omega, l2⟩
  have nf := (b2.block w.heap.size l1).trans y1
  have d6 := cell_blockK y1 6
  simp at d6
  have hR0 : Rm w w2 w2.heap.size w1.heap.size (List.replicate N false) w2 := ⟨b1.trans (b2.mono (by omega)), fun _ _ _ => rfl, by rw [List.map_replicate]; exact z2, Nat.le_refl _⟩
  by_cases hN0 : N = 0
  · subst hN0
    have hmk : (Instr.makeSlice 39 (.int .i64 0) (.int .i64 0)).run Tryd.prog w1 = .ok (.slice (some ⟨w1.heap.size, 0, none⟩) 0 0) w2 := hmk
    go_enter Tryd.func12, Tryd.ntmps12
    go_wp2_with fail
    go_ret
    exact ⟨[], _, rfl, Rnd.none (N := 0) rfl rfl, z2, by omega, hR0.below⟩
  have hNe : ((N : Int) == 0) = false := by rw [beq_eq_false_iff_ne]; omega
  have ck := cell_blockK z2 0
  have fk := frozen_blockK z2 0
  rw [List.getElem?_toArray, List.getElem?_replicate, if_pos (by omega)] at ck
  have hR1 := hR0.mark hL 0
  have hrnd : Rnd N (succs f) ((List.replicate N false).set 0 true) := Rnd.start (List.length_replicate ..) (replicate_no N) (by omega)
  have hN1 : (0 : Int) < (N : Int) := by omega
  generalize (List.replicate N false).set 0 true = b0 at hR1 hrnd
  clear hR0 z2 b2
  go_enter Tryd.func12, Tryd.ntmps12
  go_wp2_with fail
  go_loopg [4] (cntF b0 + 1) (fun k m wr => ∃ b mo, m = .bool mo ∧ Rm w w2 w2.heap.size w1.heap.size b wr ∧ ((mo = true ∧ Rnd N (succs f) b ∧ cntF b + 1 = k) ∨ (mo = false ∧ IsRc N (succs f) b ∧ k = 0)))
  case atStart => exact ⟨_, true, rfl, hR1, .inl ⟨rfl, hrnd, rfl⟩⟩
  case round =>
    clear hR1 hrnd ck fk hmk hw1 d6
    obtain ⟨b, mo, rfl, hR, ⟨rfl, hrnd, hgk⟩ | ⟨rfl, hrc, hgk⟩⟩ := hrel
    · have n6 := (hR.oth w.heap.size (by omega) (by omega)).trans nf
      have c6 := cell_blockK n6 6
      simp at c6
      obtain ⟨M, hM⟩ : ∃ M, cntF b = M := ⟨_, rfl⟩
      have hP := Pass.start hrnd
      rw [hM] at hP hgk
      have HGK := Lib.hid hgk
      clear hgk hM hrnd n6
      go_wp2_with fail
      go_loopw [4, 26] (fun m i wr => ∃ (k : Nat) (b : List Bool) (mo : Bool), k ≤ N ∧ i = .int .i64 k ∧ m = .bool mo ∧ Rm w w2 w2.heap.size w1.heap.size b wr ∧ Pass N (succs f) M b mo k)
        (fun _ i _ => N - (intOf i).toNat)
      case atStart => exact ⟨0, _, _, Nat.zero_le _, rfl, rfl, hR, hP⟩
      case round =>
        clear hR hP c6
        obtain ⟨k, b1, mo, hk, rfl, rfl, hR, hP⟩ := hrel
        by_cases hlt : k < N
        · obtain ⟨i, hi⟩ : ∃ i, f.code[k]? = some i := ⟨f.code[k]'(by have := HN.out; omega), List.getElem?_eq_getElem _⟩
          obtain ⟨ib, ioff, hA, hbl, d0, d1, d2, d3, d4⟩ := (hF.kr.below hR.below hR.below.size).ins hi
          have hsu : succs f k = (if endsB i.1 = true then [] else [(k : Int) + 1]) ++ ((tgtOf i).toList ++ tryQ f.tries k) := by
            unfold succs
            rw [hi]
            rfl
          obtain ⟨o, a1, a2, a3, a4⟩ := i
          simp only at d0 d1 d2 d3 d4 hsu
          have hza := heap_alloc_new wr (.cells #[.int .i64 o, .int .i64 a1, .int .i64 a2, .int .i64 a3, .int .i64 a4] 50)
          have hRa := hR.alloc hL (.cells #[.int .i64 o, .int .i64 a1, .int .i64 a2, .int .i64 a3, .int .i64 a4] 50)
          obtain ⟨wa, hwa⟩ : ∃ wa, wr.alloc (.cells #[.int .i64 o, .int .i64 a1, .int .i64 a2, .int .i64 a3, .int .i64 a4] 50) = wa := ⟨_, rfl⟩
          rw [hwa] at hza hRa
          have HWA := Lib.hid hwa
          obtain ⟨x, hx⟩ : ∃ x, b1[k]? = some x := ⟨b1[k]'(by rw [hP.rnd.len]; exact hlt), List.getElem?_eq_getElem _⟩
          have ck := cell_blockK hRa.seen k
          rw [List.getElem?_toArray, List.getElem?_map, hx] at ck
          simp only [Option.map_some] at ck
          have e0 := cell_blockK hza 0
          simp at e0
          have HSU0 := Lib.hid hsu
          have HX := Lib.hid hx
          have la := (Array.getElem?_eq_some_iff.1 hza).1
          have lr := hR.size
          have na := (hRa.oth w.heap.size (by omega) (by omega)).trans nf
          clear hi hwa hsu hx hR
          rw [hA]
          cases x with
          | false =>
            have hP2 := hP.skip HX.out
            go_wp2_with (rw [HWA.out])
            go_roundw
            case rel => exact ⟨k + 1, _, _, by omega, by go_num, rfl, hRa, hP2⟩
            case measure => simp [intOf]; omega
          | true =>
            have HMID := Lib.hid (Mid.start hP HX.out)
            have hR := hRa.here
            have hL3 : w.heap.size ≤ w1.heap.size ∧ w1.heap.size < wa.heap.size := ⟨by omega, by omega⟩
            have HB3 := Lib.hid (show w2.heap.size ≤ wa.heap.size by omega)
            go_wp2_with (rw [HWA.out])
            refine (refends_any o _).mono ?_
            rintro e w' ⟨rfl, rfl⟩
            clear HWA e0 ck hP d0 d1 d2 d3 d4
            cases he : endsB o with
            | true =>
              have hsu : ([] : List Int) ++ ((tgtOf (o, a1, a2, a3, a4)).toList ++ tryQ f.tries k) = succs f k := by rw [HSU0.out, if_pos he]
              have hown : wa.ownsRow wa.heap.size 3 1 (.slice none 0 0) ([] : List Int).length (intL []) := World.ownsRow_nil _ _ _ _
              obtain ⟨l, hl⟩ : ∃ l, ([] : List Int) = l := ⟨_, rfl⟩
              rw [hl] at hsu hown
              clear hl he HSU0
              simp only
              have hlb : l.length ≤ 1002 := by
                have h1 := congrArg List.length hsu
                rw [List.length_append] at h1
                have := succs_len f k
                omega
              have nI := (hR.oth wr.heap.size (by omega) (by omega)).trans hza
              have g0 := cell_blockK nI 0
              have g1 := cell_blockK nI 1
              have g2 := cell_blockK nI 2
              have g3 := cell_blockK nI 3
              have g4 := cell_blockK nI 4
              simp at g0 g1 g2 g3 g4
              go_wp2_with fail
              refine (has_any (o, a1, a2, a3, a4)).mono ?_
              rintro e wh ⟨rfl, bh⟩
              have hR := hR.kept hL3 bh
              have hown := hown_kept hown bh
              clear bh g0 g1 g2 g3 g4
              cases ht : tgtOf (o, a1, a2, a3, a4) with
              | none =>
                rw [ht, Option.toList_none, List.nil_append] at hsu
                have HSU := Lib.hid hsu
                clear hsu ht nI
                simp only [Option.isSome_none]
                have n7 := (hR.oth w.heap.size (by omega) (by omega)).trans na
                have c7 := cell_blockK n7 7
                simp at c7
                clear n7
                go_wp2_with fail
                go_loopw [7, 55] (fun v i wr => ∃ (q : Nat) (l : List Int), q ≤ f.tries.length ∧ i = .int .i64 q ∧ Rm w wa wa.heap.size w1.heap.size b1 wr ∧ wr.ownsRow wa.heap.size 3 1 v l.length (intL l) ∧ l ++ tryQ (f.tries.drop q) k = succs f k)
                  (fun _ i _ => f.tries.length - (intOf i).toNat)
                case atStart => exact ⟨0, _, Nat.zero_le _, rfl, hR, hown, by rw [List.drop_zero]; exact HSU.out⟩
                case round =>
                  clear hR hown c7 HSU
                  obtain ⟨q, l, hq, rfl, hR, hown, hsu⟩ := hrel
                  have HSU := Lib.hid hsu
                  have hlb : l.length ≤ 1002 := by
                    have h1 := congrArg List.length hsu
                    rw [List.length_append] at h1
                    have := succs_len f k
                    omega
                  clear hsu
                  by_cases hlt : q < f.tries.length
                  · obtain ⟨x, hx⟩ : ∃ x, f.tries[q]? = some x := ⟨f.tries[q]'hlt, List.getElem?_eq_getElem _⟩
                    obtain ⟨tb, toff, hA, hbl, d0, d1, d2, d3⟩ := (hF.tr.below hR.below hR.below.size).try_ hx
                    obtain ⟨t1, t2, t3, t4⟩ := x
                    simp only at d0 d1 d2 d3
                    have hdr := tryQ_drop k hx
                    simp only at hdr
                    have HD := Lib.hid hdr
                    have hzq := heap_alloc_new wr (.cells #[.int .i64 t1, .int .i64 t2, .int .i64 t3, .int .i64 t4] 65)
                    have hR := hR.alloc hL3 (.cells #[.int .i64 t1, .int .i64 t2, .int .i64 t3, .int .i64 t4] 65)
                    have hown := hown.alloc (.cells #[.int .i64 t1, .int .i64 t2, .int .i64 t3, .int .i64 t4] 65)
                    obtain ⟨wq, hwq⟩ : ∃ wq, wr.alloc (.cells #[.int .i64 t1, .int .i64 t2, .int .i64 t3, .int .i64 t4] 65) = wq := ⟨_, rfl⟩
                    rw [hwq] at hR hown hzq
                    have HWQ := Lib.hid hwq
                    have t_0 := cell_blockK hzq 0
                    have t_1 := cell_blockK hzq 1
                    have t_2 := cell_blockK hzq 2
                    simp at t_0 t_1 t_2
                    clear hdr hx hwq hzq
                    rw [hA]
                    by_cases hc1 : t1 ≤ (k : Int)
                    · by_cases hc2 : (k : Int) < t2
                      · have hsu2 := HSU.out
                        rw [HD.out, if_pos ⟨hc1, hc2⟩, ← List.append_assoc] at hsu2
                        have HSU2 := Lib.hid hsu2
                        clear hsu2
                        have hzq := hR.size
                        go_wp2_with (first | rw [HWQ.out] | (at_builtin; refine wpList_append_own _ rfl _ _ 41 rfl wa.heap.size 3 i0 _ 1 8 Tryd.underlying41 hi0 hz0 hz1 hz2 rfl (by decide) _ _ _ rfl (hown.alloc _) ⟨wq.heap.size, 0, none⟩ 1 1 [.int .i64 t3] rfl rfl (cell_one_new _ _ _) (by simp [Value.oneCell']) (by unfold maxLen; omega) (by omega) (by simp <;> omega) ?_; intro v' W3 hown' hgrow3 hnil3; obtain ⟨g', cap', rfl⟩ := ownsRow_succ hown'; have hR3 := (hR.alloc hL3 _).grown hL3 hgrow3 (fun q hq => (hown.lt q hq).1)))
                        go_roundw
                        case rel => exact ⟨q + 1, l ++ [t3], by omega, by go_num, hR3, by rw [List.length_append, List.length_singleton, intL_snoc]; exact hown', HSU2.out⟩
                        case measure => simp [intOf]; omega
                      · have hsu2 := HSU.out
                        rw [HD.out, if_neg (fun h => hc2 h.2), List.nil_append] at hsu2
                        have HSU2 := Lib.hid hsu2
                        clear hsu2
                        go_wp2_with (rw [HWQ.out])
                        go_roundw
                        case rel => exact ⟨q + 1, l, by omega, by go_num, hR, hown, HSU2.out⟩
                        case measure => simp [intOf]; omega
                    · have hsu2 := HSU.out
                      rw [HD.out, if_neg (fun h => hc1 h.1), List.nil_append] at hsu2
                      have HSU2 := Lib.hid hsu2
                      clear hsu2
                      go_wp2_with (rw [HWQ.out])
                      go_roundw
                      case rel => exact ⟨q + 1, l, by omega, by go_num, hR, hown, HSU2.out⟩
                      case measure => simp [intOf]; omega
                  · obtain rfl : q = f.tries.length := by omega
                    have hsu2 := HSU.out
                    rw [List.drop_length, show tryQ [] k = [] from rfl, List.append_nil] at hsu2
                    clear HSU
                    have HSU := Lib.hid hsu2
                    clear hsu2
                    obtain ⟨A, c, rfl⟩ := own_formK hown
                    have hlb : l.length ≤ 1002 := by rw [HSU.out]; exact Nat.le_trans (succs_len f k) (by omega)
                    go_wp2_with fail
                    go_loopw [4, 77] (fun m i wr => ∃ (q : Nat) (b : List Bool) (mo : Bool), q ≤ l.length ∧ i = .int .i64 q ∧ m = .bool mo ∧ Rm w wa wa.heap.size w1.heap.size b wr ∧ wr.ownsRow wa.heap.size 3 1 (.slice A l.length c) l.length (intL l) ∧ Mid N (succs f) M k (l.take q) b mo)
                      (fun _ i _ => l.length - (intOf i).toNat)
                    case atStart => exact ⟨0, _, _, Nat.zero_le _, rfl, rfl, hR, hown, by rw [List.take_zero]; exact HMID.out⟩
                    case round =>
                      clear hR hown
                      obtain ⟨q, b, mo, hq, rfl, rfl, hR, hown, hmid⟩ := hrel
                      by_cases hlt : q < l.length
                      · obtain ⟨x, hx⟩ : ∃ x, l[q]? = some x := ⟨l[q]'hlt, List.getElem?_eq_getElem _⟩
                        obtain ⟨g, rfl, hcx⟩ := own_at hown (k := q) (x := .int .i64 x) (by unfold intL; rw [List.getElem?_map, hx]; rfl)
                        have HTK := Lib.hid (take_snocK l q x hx)
                        have hxS : x ∈ succs f k := by rw [← HSU.out]; exact List.mem_of_getElem? hx
                        have hbl := hmid.pass.rnd.len
                        by_cases hc : 0 ≤ x ∧ x < (N : Int) ∧ b[x.toNat]? = some false
                        · obtain ⟨e1, e2, e3⟩ := hc
                          obtain ⟨j, rfl⟩ := Int.eq_ofNat_of_zero_le e1
                          rw [Int.toNat_natCast] at e3
                          have hnew := hmid.new hxS (by omega) e3
                          have hmk := hR.mark hL3 j
                          have hown2 := ownsRow_setCell_below hown (a := ⟨w1.heap.size, j, none⟩) hL3.2 (.bool true)
                          have ck := cell_blockK hR.seen j
                          have fk := frozen_blockK hR.seen j
                          rw [List.getElem?_toArray, List.getElem?_map, e3] at ck
                          simp only [Option.map_some] at ck
                          have HNEW := Lib.hid hnew
                          clear hx hxS hnew e3 hmid
                          go_wp2_with fail
                          go_roundw
                          case rel => exact ⟨q + 1, _, true, by omega, by go_num, rfl, hmk, hown2, by rw [HTK.out]; exact HNEW.out⟩
                          case measure => simp [intOf]; omega
                        · have hold := hmid.old hc
                          have HOLD := Lib.hid hold
                          by_cases e1 : 0 ≤ x
                          · obtain ⟨j, rfl⟩ := Int.eq_ofNat_of_zero_le e1
                            by_cases e2 : (j : Int) < (N : Int)
                            · obtain ⟨y, hy⟩ : ∃ y, b[j]? = some y := ⟨b[j]'(by omega), List.getElem?_eq_getElem _⟩
                              have hyt : y = true := by
                                cases y with
                                | true => rfl
                                | false => exact absurd ⟨e1, e2, by rw [Int.toNat_natCast]; exact hy⟩ hc
                              subst hyt
                              have ck := cell_blockK hR.seen j
                              rw [List.getElem?_toArray, List.getElem?_map, hy] at ck
                              simp only [Option.map_some] at ck
                              clear hx hxS hc hold hmid hy
                              go_wp2_with fail
                              go_roundw
                              case rel => exact ⟨q + 1, _, _, by omega, by go_num, rfl, hR, hown, by rw [HTK.out]; exact HOLD.out⟩
                              case measure => simp [intOf]; omega
                            · clear hx hxS hc hold hmid
                              go_wp2_with fail
                              go_roundw
                              case rel => exact ⟨q + 1, _, _, by omega, by go_num, rfl, hR, hown, by rw [HTK.out]; exact HOLD.out⟩
                              case measure => simp [intOf]; omega
                          · clear hx hxS hc hold hmid
                            go_wp2_with fail
                            go_roundw
                            case rel => exact ⟨q + 1, _, _, by omega, by go_num, rfl, hR, hown, by rw [HTK.out]; exact HOLD.out⟩
                            case measure => simp [intOf]; omega
                      · obtain rfl : q = l.length := by omega
                        rw [List.take_length] at hmid
                        have hmid : Mid N (succs f) M k (succs f k) b mo := by rw [← HSU.out]; exact hmid
                        have hP := hmid.done
                        have hRu := hR.up hRa HB3.out
                        clear hmid hown
                        go_wp2_with fail
                        go_roundw
                        case rel => exact ⟨k + 1, _, _, by omega, by go_num, rfl, hRu, hP⟩
                        case measure => simp [intOf]; omega
              | some t =>
                rw [ht, Option.toList_some, ← List.append_assoc] at hsu
                have HSU2 := Lib.hid hsu
                have HT := Lib.hid ht
                have nI := (hR.oth wr.heap.size (by omega) (by omega)).trans hza
                have g0 := cell_blockK nI 0
                have g1 := cell_blockK nI 1
                have g2 := cell_blockK nI 2
                have g3 := cell_blockK nI 3
                have g4 := cell_blockK nI 4
                simp at g0 g1 g2 g3 g4
                clear hsu ht
                simp only [Option.isSome_some]
                go_wp2_with fail
                refine (Target_any (o, a1, a2, a3, a4)).mono ?_
                rintro e wq ⟨rfl, bh⟩
                rw [HT.out, Option.getD_some]
                have hR := hR.kept hL3 bh
                have hown := hown_kept hown bh
                clear bh g0 g1 g2 g3 g4 nI
                simp only
                have hzq := hR.size
                go_wp2_with (at_builtin; refine wpList_append_own _ rfl _ _ 41 rfl wa.heap.size 3 i0 _ 1 8 Tryd.underlying41 hi0 hz0 hz1 hz2 rfl (by decide) _ _ _ rfl (hown.alloc _) ⟨wq.heap.size, 0, none⟩ 1 1 [.int .i64 t] rfl rfl (cell_one_new _ _ _) (by simp [Value.oneCell']) (by unfold maxLen; omega) (by omega) (by simp <;> omega) ?_; intro v' W3 hown' hgrow3 hnil3; obtain ⟨g', cap', rfl⟩ := ownsRow_succ hown'; have hR3 := (hR.alloc hL3 _).grown hL3 hgrow3 (fun q hq => (hown.lt q hq).1); have n7 := (hR3.oth w.heap.size (by omega) (by omega)).trans na; have c7 := cell_blockK n7 7; simp at c7; clear n7)
                have hown : W3.ownsRow wa.heap.size 3 1 (.slice (some ⟨g', 0, none⟩) (l.length + 1) cap') (l ++ [t]).length (intL (l ++ [t])) := by rw [List.length_append, List.length_singleton, intL_snoc]; exact hown'
                have hR := hR3
                have hsu := HSU2.out
                clear hown' hR3 hgrow3 hnil3 HSU2
                obtain ⟨l2, hl2⟩ : ∃ l2, l ++ [t] = l2 := ⟨_, rfl⟩
                rw [hl2] at hown hsu
                have HSU := Lib.hid hsu
                clear hl2 hsu
                have n7 := (hR.oth w.heap.size (by omega) (by omega)).trans na
                have c7 := cell_blockK n7 7
                simp at c7
                clear n7
                go_wp2_with fail
                go_loopw [7, 55] (fun v i wr => ∃ (q : Nat) (l : List Int), q ≤ f.tries.length ∧ i = .int .i64 q ∧ Rm w wa wa.heap.size w1.heap.size b1 wr ∧ wr.ownsRow wa.heap.size 3 1 v l.length (intL l) ∧ l ++ tryQ (f.tries.drop q) k = succs f k)
                  (fun _ i _ => f.tries.length - (intOf i).toNat)
                case atStart => exact ⟨0, _, Nat.zero_le _, rfl, hR, hown, by rw [List.drop_zero]; exact HSU.out⟩
                case round =>
                  clear hR hown c7 HSU
                  obtain ⟨q, l, hq, rfl, hR, hown, hsu⟩ := hrel
                  have HSU := Lib.hid hsu
                  have hlb : l.length ≤ 1002 := by
                    have h1 := congrArg List.length hsu
                    rw [List.length_append] at h1
                    have := succs_len f k
                    omega
                  clear hsu
                  by_cases hlt : q < f.tries.length
                  · obtain ⟨x, hx⟩ : ∃ x, f.tries[q]? = some x := ⟨f.tries[q]'hlt, List.getElem?_eq_getElem _⟩
                    obtain ⟨tb, toff, hA, hbl, d0, d1, d2, d3⟩ := (hF.tr.below hR.below hR.below.size).try_ hx
                    obtain ⟨t1, t2, t3, t4⟩ := x
                    simp only at d0 d1 d2 d3
                    have hdr := tryQ_drop k hx
                    simp only at hdr
                    have HD := Lib.hid hdr
                    have hzq := heap_alloc_new wr (.cells #[.int .i64 t1, .int .i64 t2, .int .i64 t3, .int .i64 t4] 65)
                    have hR := hR.alloc hL3 (.cells #[.int .i64 t1, .int .i64 t2, .int .i64 t3, .int .i64 t4] 65)
                    have hown := hown.alloc (.cells #[.int .i64 t1, .int .i64 t2, .int .i64 t3, .int .i64 t4] 65)
                    obtain ⟨wq, hwq⟩ : ∃ wq, wr.alloc (.cells #[.int .i64 t1, .int .i64 t2, .int .i64 t3, .int .i64 t4] 65) = wq := ⟨_, rfl⟩
                    rw [hwq] at hR hown hzq
                    have HWQ := Lib.hid hwq
                    have t_0 := cell_blockK hzq 0
                    have t_1 := cell_blockK hzq 1
                    have t_2 := cell_blockK hzq 2
                    simp at t_0 t_1 t_2
                    clear hdr hx hwq hzq
                    rw [hA]
                    by_cases hc1 : t1 ≤ (k : Int)
                    · by_cases hc2 : (k : Int) < t2
                      · have hsu2 := HSU.out
                        rw [HD.out, if_pos ⟨hc1, hc2⟩, ← List.append_assoc] at hsu2
                        have HSU2 := Lib.hid hsu2
                        clear hsu2
                        have hzq := hR.size
                        go_wp2_with (first | rw [HWQ.out] | (at_builtin; refine wpList_append_own _ rfl _ _ 41 rfl wa.heap.size 3 i0 _ 1 8 Tryd.underlying41 hi0 hz0 hz1 hz2 rfl (by decide) _ _ _ rfl (hown.alloc _) ⟨wq.heap.size, 0, none⟩ 1 1 [.int .i64 t3] rfl rfl (cell_one_new _ _ _) (by simp [Value.oneCell']) (by unfold maxLen; omega) (by omega) (by simp <;> omega) ?_; intro v' W3 hown' hgrow3 hnil3; obtain ⟨g', cap', rfl⟩ := ownsRow_succ hown'; have hR3 := (hR.alloc hL3 _).grown hL3 hgrow3 (fun q hq => (hown.lt q hq).1)))
                        go_roundw
                        case rel => exact ⟨q + 1, l ++ [t3], by omega, by go_num, hR3, by rw [List.length_append, List.length_singleton, intL_snoc]; exact hown', HSU2.out⟩
                        case measure => simp [intOf]; omega
                      · have hsu2 := HSU.out
                        rw [HD.out, if_neg (fun h => hc2 h.2), List.nil_append] at hsu2
                        have HSU2 := Lib.hid hsu2
                        clear hsu2
                        go_wp2_with (rw [HWQ.out])
                        go_roundw
                        case rel => exact ⟨q + 1, l, by omega, by go_num, hR, hown, HSU2.out⟩
                        case measure => simp [intOf]; omega
                    · have hsu2 := HSU.out
                      rw [HD.out, if_neg (fun h => hc1 h.1), List.nil_append] at hsu2
                      have HSU2 := Lib.hid hsu2
                      clear hsu2
                      go_wp2_with (rw [HWQ.out])
                      go_roundw
                      case rel => exact ⟨q + 1, l, by omega, by go_num, hR, hown, HSU2.out⟩
                      case measure => simp [intOf]; omega
                  · obtain rfl : q = f.tries.length := by omega
                    have hsu2 := HSU.out
                    rw [List.drop_length, show tryQ [] k = [] from rfl, List.append_nil] at hsu2
                    clear HSU
                    have HSU := Lib.hid hsu2
                    clear hsu2
                    obtain ⟨A, c, rfl⟩ := own_formK hown
                    have hlb : l.length ≤ 1002 := by rw [HSU.out]; exact Nat.le_trans (succs_len f k) (by omega)
                    go_wp2_with fail
                    go_loopw [4, 77] (fun m i wr => ∃ (q : Nat) (b : List Bool) (mo : Bool), q ≤ l.length ∧ i = .int .i64 q ∧ m = .bool mo ∧ Rm w wa wa.heap.size w1.heap.size b wr ∧ wr.ownsRow wa.heap.size 3 1 (.slice A l.length c) l.length (intL l) ∧ Mid N (succs f) M k (l.take q) b mo)
                      (fun _ i _ => l.length - (intOf i).toNat)
                    case atStart => exact ⟨0, _, _, Nat.zero_le _, rfl, rfl, hR, hown, by rw [List.take_zero]; exact HMID.out⟩
                    case round =>
                      clear hR hown
                      obtain ⟨q, b, mo, hq, rfl, rfl, hR, hown, hmid⟩ := hrel
                      by_cases hlt : q < l.length
                      · obtain ⟨x, hx⟩ : ∃ x, l[q]? = some x := ⟨l[q]'hlt, List.getElem?_eq_getElem _⟩
                        obtain ⟨g, rfl, hcx⟩ := own_at hown (k := q) (x := .int .i64 x) (by unfold intL; rw [List.getElem?_map, hx]; rfl)
                        have HTK := Lib.hid (take_snocK l q x hx)
                        have hxS : x ∈ succs f k := by rw [← HSU.out]; exact List.mem_of_getElem? hx
                        have hbl := hmid.pass.rnd.len
                        by_cases hc : 0 ≤ x ∧ x < (N : Int) ∧ b[x.toNat]? = some false
                        · obtain ⟨e1, e2, e3⟩ := hc
                          obtain ⟨j, rfl⟩ := Int.eq_ofNat_of_zero_le e1
                          rw [Int.toNat_natCast] at e3
                          have hnew := hmid.new hxS (by omega) e3
                          have hmk := hR.mark hL3 j
                          have hown2 := ownsRow_setCell_below hown (a := ⟨w1.heap.size, j, none⟩) hL3.2 (.bool true)
                          have ck := cell_blockK hR.seen j
                          have fk := frozen_blockK hR.seen j
                          rw [List.getElem?_toArray, List.getElem?_map, e3] at ck
                          simp only [Option.map_some] at ck
                          have HNEW := Lib.hid hnew
                          clear hx hxS hnew e3 hmid
                          go_wp2_with fail
                          go_roundw
                          case rel => exact ⟨q + 1, _, true, by omega, by go_num, rfl, hmk, hown2, by rw [HTK.out]; exact HNEW.out⟩
                          case measure => simp [intOf]; omega
                        · have hold := hmid.old hc
                          have HOLD := Lib.hid hold
                          by_cases e1 : 0 ≤ x
                          · obtain ⟨j, rfl⟩ := Int.eq_ofNat_of_zero_le e1
                            by_cases e2 : (j : Int) < (N : Int)
                            · obtain ⟨y, hy⟩ : ∃ y, b[j]? = some y := ⟨b[j]'(by omega), List.getElem?_eq_getElem _⟩
                              have hyt : y = true := by
                                cases y with
                                | true => rfl
                                | false => exact absurd ⟨e1, e2, by rw [Int.toNat_natCast]; exact hy⟩ hc
                              subst hyt
                              have ck := cell_blockK hR.seen j
                              rw [List.getElem?_toArray, List.getElem?_map, hy] at ck
                              simp only [Option.map_some] at ck
                              clear hx hxS hc hold hmid hy
                              go_wp2_with fail
                              go_roundw
                              case rel => exact ⟨q + 1, _, _, by omega, by go_num, rfl, hR, hown, by rw [HTK.out]; exact HOLD.out⟩
                              case measure => simp [intOf]; omega
                            · clear hx hxS hc hold hmid
                              go_wp2_with fail
                              go_roundw
                              case rel => exact ⟨q + 1, _, _, by omega, by go_num, rfl, hR, hown, by rw [HTK.out]; exact HOLD.out⟩
                              case measure => simp [intOf]; omega
                          · clear hx hxS hc hold hmid
                            go_wp2_with fail
                            go_roundw
                            case rel => exact ⟨q + 1, _, _, by omega, by go_num, rfl, hR, hown, by rw [HTK.out]; exact HOLD.out⟩
                            case measure => simp [intOf]; omega
                      · obtain rfl : q = l.length := by omega
                        rw [List.take_length] at hmid
                        have hmid : Mid N (succs f) M k (succs f k) b mo := by rw [← HSU.out]; exact hmid
                        have hP := hmid.done
                        have hRu := hR.up hRa HB3.out
                        clear hmid hown
                        go_wp2_with fail
                        go_roundw
                        case rel => exact ⟨k + 1, _, _, by omega, by go_num, rfl, hRu, hP⟩
                        case measure => simp [intOf]; omega
            | false =>
              have hsu : [(k : Int) + 1] ++ ((tgtOf (o, a1, a2, a3, a4)).toList ++ tryQ f.tries k) = succs f k := by rw [HSU0.out, if_neg (by rw [he]; simp)]
              have hown : wa.ownsRow wa.heap.size 3 1 (.slice none 0 0) 0 (intL []) := World.ownsRow_nil _ _ _ _
              have HSU1 := Lib.hid hsu
              clear he HSU0 hsu
              simp only
              have hzq := hR.size
              go_wp2_with (at_builtin; refine wpList_append_own _ rfl _ _ 41 rfl wa.heap.size 3 i0 _ 1 8 Tryd.underlying41 hi0 hz0 hz1 hz2 rfl (by decide) _ _ _ rfl (hown.alloc _) ⟨wa.heap.size, 0, none⟩ 1 1 [.int .i64 ((k : Int) + 1)] rfl rfl (cell_one_new _ _ _) (by simp [Value.oneCell']) (by unfold maxLen; omega) (by omega) (by simp <;> omega) ?_; intro v' W3 hown' hgrow3 hnil3; obtain ⟨g', cap', rfl⟩ := ownsRow_succ hown'; have hR3 := (hR.alloc hL3 _).grown hL3 hgrow3 (fun q hq => (hown.lt q hq).1); have nI := (hR3.oth wr.heap.size (by omega) (by omega)).trans hza; have g0 := cell_blockK nI 0; have g1 := cell_blockK nI 1; have g2 := cell_blockK nI 2; have g3 := cell_blockK nI 3; have g4 := cell_blockK nI 4; simp at g0 g1 g2 g3 g4; clear nI)
              have hown : W3.ownsRow wa.heap.size 3 1 (.slice (some ⟨g', 0, none⟩) (0 + 1) cap') [(k : Int) + 1].length (intL [(k : Int) + 1]) := hown'
              have hR := hR3
              have hsu := HSU1.out
              clear hown' hR3 hgrow3 hnil3 HSU1
              obtain ⟨l, hl⟩ : ∃ l, [(k : Int) + 1] = l := ⟨_, rfl⟩
              rw [hl] at hown hsu
              clear hl
              have hlb : l.length ≤ 1002 := by
                have h1 := congrArg List.length hsu
                rw [List.length_append] at h1
                have := succs_len f k
                omega
              have nI := (hR.oth wr.heap.size (by omega) (by omega)).trans hza
              have g0 := cell_blockK nI 0
              have g1 := cell_blockK nI 1
              have g2 := cell_blockK nI 2
              have g3 := cell_blockK nI 3
              have g4 := cell_blockK nI 4
              simp at g0 g1 g2 g3 g4
              go_wp2_with fail
              refine (has_any (o, a1, a2, a3, a4)).mono ?_
              rintro e wh ⟨rfl, bh⟩
              have hR := hR.kept hL3 bh
              have hown := hown_kept hown bh
              clear bh g0 g1 g2 g3 g4
              cases ht : tgtOf (o, a1, a2, a3, a4) with
              | none =>
                rw [ht, Option.toList_none, List.nil_append] at hsu
                have HSU := Lib.hid hsu
                clear hsu ht nI
                simp only [Option.isSome_none]
                have n7 := (hR.oth w.heap.size (by omega) (by omega)).trans na
                have c7 := cell_blockK n7 7
                simp at c7
                clear n7
                go_wp2_with fail
                go_loopw [7, 55] (fun v i wr => ∃ (q : Nat) (l : List Int), q ≤ f.tries.length ∧ i = .int .i64 q ∧ Rm w wa wa.heap.size w1.heap.size b1 wr ∧ wr.ownsRow wa.heap.size 3 1 v l.length (intL l) ∧ l ++ tryQ (f.tries.drop q) k = succs f k)
                  (fun _ i _ => f.tries.length - (intOf i).toNat)
                case atStart => exact ⟨0, _, Nat.zero_le _, rfl, hR, hown, by rw [List.drop_zero]; exact HSU.out⟩
                case round =>
                  clear hR hown c7 HSU
                  obtain ⟨q, l, hq, rfl, hR, hown, hsu⟩ := hrel
                  have HSU := Lib.hid hsu
                  have hlb : l.length ≤ 1002 := by
                    have h1 := congrArg List.length hsu
                    rw [List.length_append] at h1
                    have := succs_len f k
                    omega
                  clear hsu
                  by_cases hlt : q < f.tries.length
                  · obtain ⟨x, hx⟩ : ∃ x, f.tries[q]? = some x := ⟨f.tries[q]'hlt, List.getElem?_eq_getElem _⟩
                    obtain ⟨tb, toff, hA, hbl, d0, d1, d2, d3⟩ := (hF.tr.below hR.below hR.below.size).try_ hx
                    obtain ⟨t1, t2, t3, t4⟩ := x
                    simp only at d0 d1 d2 d3
                    have hdr := tryQ_drop k hx
                    simp only at hdr
                    have HD := Lib.hid hdr
                    have hzq := heap_alloc_new wr (.cells #[.int .i64 t1, .int .i64 t2, .int .i64 t3, .int .i64 t4] 65)
                    have hR := hR.alloc hL3 (.cells #[.int .i64 t1, .int .i64 t2, .int .i64 t3, .int .i64 t4] 65)
                    have hown := hown.alloc (.cells #[.int .i64 t1, .int .i64 t2, .int .i64 t3, .int .i64 t4] 65)
                    obtain ⟨wq, hwq⟩ : ∃ wq, wr.alloc (.cells #[.int .i64 t1, .int .i64 t2, .int .i64 t3, .int .i64 t4] 65) = wq := ⟨_, rfl⟩
                    rw [hwq] at hR hown hzq
                    have HWQ := Lib.hid hwq
                    have t_0 := cell_blockK hzq 0
                    have t_1 := cell_blockK hzq 1
                    have t_2 := cell_blockK hzq 2
                    simp at t_0 t_1 t_2
                    clear hdr hx hwq hzq
                    rw [hA]
                    by_cases hc1 : t1 ≤ (k : Int)
                    · by_cases hc2 : (k : Int) < t2
                      · have hsu2 := HSU.out
                        rw [HD.out, if_pos ⟨hc1, hc2⟩, ← List.append_assoc] at hsu2
                        have HSU2 := Lib.hid hsu2
                        clear hsu2
                        have hzq := hR.size
                        go_wp2_with (first | rw [HWQ.out] | (at_builtin; refine wpList_append_own _ rfl _ _ 41 rfl wa.heap.size 3 i0 _ 1 8 Tryd.underlying41 hi0 hz0 hz1 hz2 rfl (by decide) _ _ _ rfl (hown.alloc _) ⟨wq.heap.size, 0, none⟩ 1 1 [.int .i64 t3] rfl rfl (cell_one_new _ _ _) (by simp [Value.oneCell']) (by unfold maxLen; omega) (by omega) (by simp <;> omega) ?_; intro v' W3 hown' hgrow3 hnil3; obtain ⟨g', cap', rfl⟩ := ownsRow_succ hown'; have hR3 := (hR.alloc hL3 _).grown hL3 hgrow3 (fun q hq => (hown.lt q hq).1)))
                        go_roundw
                        case rel => exact ⟨q + 1, l ++ [t3], by omega, by go_num, hR3, by rw [List.length_append, List.length_singleton, intL_snoc]; exact hown', HSU2.out⟩
                        case measure => simp [intOf]; omega
                      · have hsu2 := HSU.out
                        rw [HD.out, if_neg (fun h => hc2 h.2), List.nil_append] at hsu2
                        have HSU2 := Lib.hid hsu2
                        clear hsu2
                        go_wp2_with (rw [HWQ.out])
                        go_roundw
                        case rel => exact ⟨q + 1, l, by omega, by go_num, hR, hown, HSU2.out⟩
                        case measure => simp [intOf]; omega
                    · have hsu2 := HSU.out
                      rw [HD.out, if_neg (fun h => hc1 h.1), List.nil_append] at hsu2
                      have HSU2 := Lib.hid hsu2
                      clear hsu2
                      go_wp2_with (rw [HWQ.out])
                      go_roundw
                      case rel => exact ⟨q + 1, l, by omega, by go_num, hR, hown, HSU2.out⟩
                      case measure => simp [intOf]; omega
                  · obtain rfl : q = f.tries.length := by omega
                    have hsu2 := HSU.out
                    rw [List.drop_length, show tryQ [] k = [] from rfl, List.append_nil] at hsu2
                    clear HSU
                    have HSU := Lib.hid hsu2
                    clear hsu2
                    obtain ⟨A, c, rfl⟩ := own_formK hown
                    have hlb : l.length ≤ 1002 := by rw [HSU.out]; exact Nat.le_trans (succs_len f k) (by omega)
                    go_wp2_with fail
                    go_loopw [4, 77] (fun m i wr => ∃ (q : Nat) (b : List Bool) (mo : Bool), q ≤ l.length ∧ i = .int .i64 q ∧ m = .bool mo ∧ Rm w wa wa.heap.size w1.heap.size b wr ∧ wr.ownsRow wa.heap.size 3 1 (.slice A l.length c) l.length (intL l) ∧ Mid N (succs f) M k (l.take q) b mo)
                      (fun _ i _ => l.length - (intOf i).toNat)
                    case atStart => exact ⟨0, _, _, Nat.zero_le _, rfl, rfl, hR, hown, by rw [List.take_zero]; exact HMID.out⟩
                    case round =>
                      clear hR hown
                      obtain ⟨q, b, mo, hq, rfl, rfl, hR, hown, hmid⟩ := hrel
                      by_cases hlt : q < l.length
                      · obtain ⟨x, hx⟩ : ∃ x, l[q]? = some x := ⟨l[q]'hlt, List.getElem?_eq_getElem _⟩
                        obtain ⟨g, rfl, hcx⟩ := own_at hown (k := q) (x := .int .i64 x) (by unfold intL; rw [List.getElem?_map, hx]; rfl)
                        have HTK := Lib.hid (take_snocK l q x hx)
                        have hxS : x ∈ succs f k := by rw [← HSU.out]; exact List.mem_of_getElem? hx
                        have hbl := hmid.pass.rnd.len
                        by_cases hc : 0 ≤ x ∧ x < (N : Int) ∧ b[x.toNat]? = some false
                        · obtain ⟨e1, e2, e3⟩ := hc
                          obtain ⟨j, rfl⟩ := Int.eq_ofNat_of_zero_le e1
                          rw [Int.toNat_natCast] at e3
                          have hnew := hmid.new hxS (by omega) e3
                          have hmk := hR.mark hL3 j
                          have hown2 := ownsRow_setCell_below hown (a := ⟨w1.heap.size, j, none⟩) hL3.2 (.bool true)
                          have ck := cell_blockK hR.seen j
                          have fk := frozen_blockK hR.seen j
                          rw [List.getElem?_toArray, List.getElem?_map, e3] at ck
                          simp only [Option.map_some] at ck
                          have HNEW := Lib.hid hnew
                          clear hx hxS hnew e3 hmid
                          go_wp2_with fail
                          go_roundw
                          case rel => exact ⟨q + 1, _, true, by omega, by go_num, rfl, hmk, hown2, by rw [HTK.out]; exact HNEW.out⟩
                          case measure => simp [intOf]; omega
                        · have hold := hmid.old hc
                          have HOLD := Lib.hid hold
                          by_cases e1 : 0 ≤ x
                          · obtain ⟨j, rfl⟩ := Int.eq_ofNat_of_zero_le e1
                            by_cases e2 : (j : Int) < (N : Int)
                            · obtain ⟨y, hy⟩ : ∃ y, b[j]? = some y := ⟨b[j]'(by omega), List.getElem?_eq_getElem _⟩
                              have hyt : y = true := by
                                cases y with
                                | true => rfl
                                | false => exact absurd ⟨e1, e2, by rw [Int.toNat_natCast]; exact hy⟩ hc
                              subst hyt
                              have ck := cell_blockK hR.seen j
                              rw [List.getElem?_toArray, List.getElem?_map, hy] at ck
                              simp only [Option.map_some] at ck
                              clear hx hxS hc hold hmid hy
                              go_wp2_with fail
                              go_roundw
                              case rel => exact ⟨q + 1, _, _, by omega, by go_num, rfl, hR, hown, by rw [HTK.out]; exact HOLD.out⟩
                              case measure => simp [intOf]; omega
                            · clear hx hxS hc hold hmid
                              go_wp2_with fail
                              go_roundw
                              case rel => exact ⟨q + 1, _, _, by omega, by go_num, rfl, hR, hown, by rw [HTK.out]; exact HOLD.out⟩
                              case measure => simp [intOf]; omega
                          · clear hx hxS hc hold hmid
                            go_wp2_with fail
                            go_roundw
                            case rel => exact ⟨q + 1, _, _, by omega, by go_num, rfl, hR, hown, by rw [HTK.out]; exact HOLD.out⟩
                            case measure => simp [intOf]; omega
                      · obtain rfl : q = l.length := by omega
                        rw [List.take_length] at hmid
                        have hmid : Mid N (succs f) M k (succs f k) b mo := by rw [← HSU.out]; exact hmid
                        have hP := hmid.done
                        have hRu := hR.up hRa HB3.out
                        clear hmid hown
                        go_wp2_with fail
                        go_roundw
                        case rel => exact ⟨k + 1, _, _, by omega, by go_num, rfl, hRu, hP⟩
                        case measure => simp [intOf]; omega
              | some t =>
                rw [ht, Option.toList_some, ← List.append_assoc] at hsu
                have HSU2 := Lib.hid hsu
                have HT := Lib.hid ht
                have nI := (hR.oth wr.heap.size (by omega) (by omega)).trans hza
                have g0 := cell_blockK nI 0
                have g1 := cell_blockK nI 1
                have g2 := cell_blockK nI 2
                have g3 := cell_blockK nI 3
                have g4 := cell_blockK nI 4
                simp at g0 g1 g2 g3 g4
                clear hsu ht
                simp only [Option.isSome_some]
                go_wp2_with fail
                refine (Target_any (o, a1, a2, a3, a4)).mono ?_
                rintro e wq ⟨rfl, bh⟩
                rw [HT.out, Option.getD_some]
                have hR := hR.kept hL3 bh
                have hown := hown_kept hown bh
                clear bh g0 g1 g2 g3 g4 nI
                simp only
                have hzq := hR.size
                go_wp2_with (at_builtin; refine wpList_append_own _ rfl _ _ 41 rfl wa.heap.size 3 i0 _ 1 8 Tryd.underlying41 hi0 hz0 hz1 hz2 rfl (by decide) _ _ _ rfl (hown.alloc _) ⟨wq.heap.size, 0, none⟩ 1 1 [.int .i64 t] rfl rfl (cell_one_new _ _ _) (by simp [Value.oneCell']) (by unfold maxLen; omega) (by omega) (by simp <;> omega) ?_; intro v' W3 hown' hgrow3 hnil3; obtain ⟨g', cap', rfl⟩ := ownsRow_succ hown'; have hR3 := (hR.alloc hL3 _).grown hL3 hgrow3 (fun q hq => (hown.lt q hq).1); have n7 := (hR3.oth w.heap.size (by omega) (by omega)).trans na; have c7 := cell_blockK n7 7; simp at c7; clear n7)
                have hown : W3.ownsRow wa.heap.size 3 1 (.slice (some ⟨g', 0, none⟩) (l.length + 1) cap') (l ++ [t]).length (intL (l ++ [t])) := by rw [List.length_append, List.length_singleton, intL_snoc]; exact hown'
                have hR := hR3
                have hsu := HSU2.out
                clear hown' hR3 hgrow3 hnil3 HSU2
                obtain ⟨l2, hl2⟩ : ∃ l2, l ++ [t] = l2 := ⟨_, rfl⟩
                rw [hl2] at hown hsu
                have HSU := Lib.hid hsu
                clear hl2 hsu
                have n7 := (hR.oth w.heap.size (by omega) (by omega)).trans na
                have c7 := cell_blockK n7 7
                simp at c7
                clear n7
                go_wp2_with fail
                go_loopw [7, 55] (fun v i wr => ∃ (q : Nat) (l : List Int), q ≤ f.tries.length ∧ i = .int .i64 q ∧ Rm w wa wa.heap.size w1.heap.size b1 wr ∧ wr.ownsRow wa.heap.size 3 1 v l.length (intL l) ∧ l ++ tryQ (f.tries.drop q) k = succs f k)
                  (fun _ i _ => f.tries.length - (intOf i).toNat)
                case atStart => exact ⟨0, _, Nat.zero_le _, rfl, hR, hown, by rw [List.drop_zero]; exact HSU.out⟩
                case round =>
                  clear hR hown c7 HSU
                  obtain ⟨q, l, hq, rfl, hR, hown, hsu⟩ := hrel
                  have HSU := Lib.hid hsu
                  have hlb : l.length ≤ 1002 := by
                    have h1 := congrArg List.length hsu
                    rw [List.length_append] at h1
                    have := succs_len f k
                    omega
                  clear hsu
                  by_cases hlt : q < f.tries.length
                  · obtain ⟨x, hx⟩ : ∃ x, f.tries[q]? = some x := ⟨f.tries[q]'hlt, List.getElem?_eq_getElem _⟩
                    obtain ⟨tb, toff, hA, hbl, d0, d1, d2, d3⟩ := (hF.tr.below hR.below hR.below.size).try_ hx
                    obtain ⟨t1, t2, t3, t4⟩ := x
                    simp only at d0 d1 d2 d3
                    have hdr := tryQ_drop k hx
                    simp only at hdr
                    have HD := Lib.hid hdr
                    have hzq := heap_alloc_new wr (.cells #[.int .i64 t1, .int .i64 t2, .int .i64 t3, .int .i64 t4] 65)
                    have hR := hR.alloc hL3 (.cells #[.int .i64 t1, .int .i64 t2, .int .i64 t3, .int .i64 t4] 65)
                    have hown := hown.alloc (.cells #[.int .i64 t1, .int .i64 t2, .int .i64 t3, .int .i64 t4] 65)
                    obtain ⟨wq, hwq⟩ : ∃ wq, wr.alloc (.cells #[.int .i64 t1, .int .i64 t2, .int .i64 t3, .int .i64 t4] 65) = wq := ⟨_, rfl⟩
                    rw [hwq] at hR hown hzq
                    have HWQ := Lib.hid hwq
                    have t_0 := cell_blockK hzq 0
                    have t_1 := cell_blockK hzq 1
                    have t_2 := cell_blockK hzq 2
                    simp at t_0 t_1 t_2
                    clear hdr hx hwq hzq
                    rw [hA]
                    by_cases hc1 : t1 ≤ (k : Int)
                    · by_cases hc2 : (k : Int) < t2
                      · have hsu2 := HSU.out
                        rw [HD.out, if_pos ⟨hc1, hc2⟩, ← List.append_assoc] at hsu2
                        have HSU2 := Lib.hid hsu2
                        clear hsu2
                        have hzq := hR.size
                        go_wp2_with (first | rw [HWQ.out] | (at_builtin; refine wpList_append_own _ rfl _ _ 41 rfl wa.heap.size 3 i0 _ 1 8 Tryd.underlying41 hi0 hz0 hz1 hz2 rfl (by decide) _ _ _ rfl (hown.alloc _) ⟨wq.heap.size, 0, none⟩ 1 1 [.int .i64 t3] rfl rfl (cell_one_new _ _ _) (by simp [Value.oneCell']) (by unfold maxLen; omega) (by omega) (by simp <;> omega) ?_; intro v' W3 hown' hgrow3 hnil3; obtain ⟨g', cap', rfl⟩ := ownsRow_succ hown'; have hR3 := (hR.alloc hL3 _).grown hL3 hgrow3 (fun q hq => (hown.lt q hq).1)))
                        go_roundw
                        case rel => exact ⟨q + 1, l ++ [t3], by omega, by go_num, hR3, by rw [List.length_append, List.length_singleton, intL_snoc]; exact hown', HSU2.out⟩
                        case measure => simp [intOf]; omega
                      · have hsu2 := HSU.out
                        rw [HD.out, if_neg (fun h => hc2 h.2), List.nil_append] at hsu2
                        have HSU2 := Lib.hid hsu2
                        clear hsu2
                        go_wp2_with (rw [HWQ.out])
                        go_roundw
                        case rel => exact ⟨q + 1, l, by omega, by go_num, hR, hown, HSU2.out⟩
                        case measure => simp [intOf]; omega
                    · have hsu2 := HSU.out
                      rw [HD.out, if_neg (fun h => hc1 h.1), List.nil_append] at hsu2
                      have HSU2 := Lib.hid hsu2
                      clear hsu2
                      go_wp2_with (rw [HWQ.out])
                      go_roundw
                      case rel => exact ⟨q + 1, l, by omega, by go_num, hR, hown, HSU2.out⟩
                      case measure => simp [intOf]; omega
                  · obtain rfl : q = f.tries.length := by omega
                    have hsu2 := HSU.out
                    rw [List.drop_length, show tryQ [] k = [] from rfl, List.append_nil] at hsu2
                    clear HSU
                    have HSU := Lib.hid hsu2
                    clear hsu2
                    obtain ⟨A, c, rfl⟩ := own_formK hown
                    have hlb : l.length ≤ 1002 := by rw [HSU.out]; exact Nat.le_trans (succs_len f k) (by omega)
                    go_wp2_with fail
                    go_loopw [4, 77] (fun m i wr => ∃ (q : Nat) (b : List Bool) (mo : Bool), q ≤ l.length ∧ i = .int .i64 q ∧ m = .bool mo ∧ Rm w wa wa.heap.size w1.heap.size b wr ∧ wr.ownsRow wa.heap.size 3 1 (.slice A l.length c) l.length (intL l) ∧ Mid N (succs f) M k (l.take q) b mo)
                      (fun _ i _ => l.length - (intOf i).toNat)
                    case atStart => exact ⟨0, _, _, Nat.zero_le _, rfl, rfl, hR, hown, by rw [List.take_zero]; exact HMID.out⟩
                    case round =>
                      clear hR hown
                      obtain ⟨q, b, mo, hq, rfl, rfl, hR, hown, hmid⟩ := hrel
                      by_cases hlt : q < l.length
                      · obtain ⟨x, hx⟩ : ∃ x, l[q]? = some x := ⟨l[q]'hlt, List.getElem?_eq_getElem _⟩
                        obtain ⟨g, rfl, hcx⟩ := own_at hown (k := q) (x := .int .i64 x) (by unfold intL; rw [List.getElem?_map, hx]; rfl)
                        have HTK := Lib.hid (take_snocK l q x hx)
                        have hxS : x ∈ succs f k := by rw [← HSU.out]; exact List.mem_of_getElem? hx
                        have hbl := hmid.pass.rnd.len
                        by_cases hc : 0 ≤ x ∧ x < (N : Int) ∧ b[x.toNat]? = some false
                        · obtain ⟨e1, e2, e3⟩ := hc
                          obtain ⟨j, rfl⟩ := Int.eq_ofNat_of_zero_le e1
                          rw [Int.toNat_natCast] at e3
                          have hnew := hmid.new hxS (by omega) e3
                          have hmk := hR.mark hL3 j
                          have hown2 := ownsRow_setCell_below hown (a := ⟨w1.heap.size, j, none⟩) hL3.2 (.bool true)
                          have ck := cell_blockK hR.seen j
                          have fk := frozen_blockK hR.seen j
                          rw [List.getElem?_toArray, List.getElem?_map, e3] at ck
                          simp only [Option.map_some] at ck
                          have HNEW := Lib.hid hnew
                          clear hx hxS hnew e3 hmid
                          go_wp2_with fail
                          go_roundw
                          case rel => exact ⟨q + 1, _, true, by omega, by go_num, rfl, hmk, hown2, by rw [HTK.out]; exact HNEW.out⟩
                          case measure => simp [intOf]; omega
                        · have hold := hmid.old hc
                          have HOLD := Lib.hid hold
                          by_cases e1 : 0 ≤ x
                          · obtain ⟨j, rfl⟩ := Int.eq_ofNat_of_zero_le e1
                            by_cases e2 : (j : Int) < (N : Int)
                            · obtain ⟨y, hy⟩ : ∃ y, b[j]? = some y := ⟨b[j]'(by omega), List.getElem?_eq_getElem _⟩
                              have hyt : y = true := by
                                cases y with
                                | true => rfl
                                | false => exact absurd ⟨e1, e2, by rw [Int.toNat_natCast]; exact hy⟩ hc
                              subst hyt
                              have ck := cell_blockK hR.seen j
                              rw [List.getElem?_toArray, List.getElem?_map, hy] at ck
                              simp only [Option.map_some] at ck
                              clear hx hxS hc hold hmid hy
                              go_wp2_with fail
                              go_roundw
                              case rel => exact ⟨q + 1, _, _, by omega, by go_num, rfl, hR, hown, by rw [HTK.out]; exact HOLD.out⟩
                              case measure => simp [intOf]; omega
                            · clear hx hxS hc hold hmid
                              go_wp2_with fail
                              go_roundw
                              case rel => exact ⟨q + 1, _, _, by omega, by go_num, rfl, hR, hown, by rw [HTK.out]; exact HOLD.out⟩
                              case measure => simp [intOf]; omega
                          · clear hx hxS hc hold hmid
                            go_wp2_with fail
                            go_roundw
                            case rel => exact ⟨q + 1, _, _, by omega, by go_num, rfl, hR, hown, by rw [HTK.out]; exact HOLD.out⟩
                            case measure => simp [intOf]; omega
                      · obtain rfl : q = l.length := by omega
                        rw [List.take_length] at hmid
                        have hmid : Mid N (succs f) M k (succs f k) b mo := by rw [← HSU.out]; exact hmid
                        have hP := hmid.done
                        have hRu := hR.up hRa HB3.out
                        clear hmid hown
                        go_wp2_with fail
                        go_roundw
                        case rel => exact ⟨k + 1, _, _, by omega, by go_num, rfl, hRu, hP⟩
                        case measure => simp [intOf]; omega
        · obtain rfl : k = N := by omega
          cases mo with
          | true =>
            have hlt := hP.lt rfl
            have hrn := hP.rnd
            clear hP
            go_wp2_with fail
            go_roundg (cntF b1 + 1)
            case measure => have := HGK.out; omega
            case rel => exact ⟨b1, true, rfl, hR, .inl ⟨rfl, hrn, rfl⟩⟩
          | false =>
            have hrc := hP.done
            clear hP
            go_wp2_with fail
            go_roundg 0
            case measure => have := HGK.out; omega
            case rel => exact ⟨b1, false, rfl, hR, .inr ⟨rfl, hrc, rfl⟩⟩
    · have hsn := hR.seen
      have hbl := hR.below
      clear hR hgk
      go_wp2_with fail
      go_ret
      exact ⟨b, _, rfl, hrc, hsn, by omega, hbl⟩
end Go.Proofs.YtoihoackmkapaaaDoor
