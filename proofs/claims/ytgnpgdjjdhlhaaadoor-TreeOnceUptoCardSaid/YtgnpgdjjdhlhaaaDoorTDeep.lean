/- tree.Deep. -/
import Derived.Test.YtgnpgdjjdhlhaaaDoorTD
import Derived.OwnWalk
import Derived.Laws.OwnMore
namespace Go.Proofs.YtgnpgdjjdhlhaaaDoor
open Go.RowKit
set_option maxHeartbeats 2000000
set_option maxRecDepth 100000
attribute [local go_sem] Oper.semAt_some store_floatK

attribute [local go_sem ↓] run_max_named

theorem Tryd.info_int : (Tryd.prog.info? 3).map (fun i => (i.zero, i.size, i.bytes)) = some (some (.int .i64 0), 1, 8) := by kernel_rfl
theorem make_intsK (w : World) (n : Int) (hn : 0 ≤ n ∧ n ≤ 10000) : (Instr.makeSlice 30 (.int .i64 n) (.int .i64 n)).run Tryd.prog w = .ok (.slice (some ⟨w.heap.size, 0, none⟩) n.toNat n.toNat) (w.alloc (.cells (List.replicate n.toNat (Value.int .i64 0)).toArray 3)) := by
  obtain ⟨i0, hi, hz0, hz1, hz2⟩ := info_parts Tryd.info_int
  have h := run_make (P := Tryd.prog) w 30 3 i0 (.int .i64 0) Tryd.underlying30 hi hz0 .i64 .i64 n n (by omega) (Int.le_refl _) (by rw [hz2]; omega) (by omega)
  rw [h, hz1]
  simp only [Nat.mul_one]
  congr 3
  apply Array.toList_inj.1
  rw [show (Value.int .i64 0).cells = #[.int .i64 0] from rfl, toList_madeCells_one]

def dmax (D : List Nat) (n : Nat) : List Int → Nat → Nat
  | [], d => d
  | k :: r, d => dmax D n r (if 0 ≤ k ∧ k < (n : Nat) then max d (D.getD k.toNat 0) else d)
def deepGo : List Nd → List Nat → List Nat
  | [], D => D
  | x :: r, D => deepGo r (D ++ [dmax D D.length x.kids 0 + 1])
/-- how deep a list of nodes is -/
def deepB (l : List Nd) : Nat := (deepGo l []).getLastD 0
theorem dmax_at {D : List Nat} {n : Nat} {l : List Int} {k : Nat} {x : Int} {d : Nat} (h : l[k]? = some x) : dmax D n (l.drop k) d = dmax D n (l.drop (k + 1)) (if 0 ≤ x ∧ x < (n : Nat) then max d (D.getD x.toNat 0) else d) := by
  rw [List.drop_eq_getElem_cons (List.getElem?_eq_some_iff.1 h).1, (List.getElem?_eq_some_iff.1 h).2]
  rfl
theorem deepGo_at {D : List Nat} {l : List Nd} {k : Nat} {x : Nd} (h : l[k]? = some x) : deepGo (l.drop k) D = deepGo (l.drop (k + 1)) (D ++ [dmax D D.length x.kids 0 + 1]) := by
  rw [List.drop_eq_getElem_cons (List.getElem?_eq_some_iff.1 h).1, (List.getElem?_eq_some_iff.1 h).2]
  rfl
/-- depths in memory -/
structure Dp (w : World) (b N : Nat) (D : List Nat) : Prop where
  block : ∃ cs : Array Value, w.heap[b]? = some (.cells cs 3 (0, 0)) ∧ cs.size = N ∧ ∀ k d : Nat, D[k]? = some d → cs[k]? = some (.int .i64 (d : Nat))
theorem Dp.keep {w w' : World} {b N : Nat} {D : List Nat} (h : Dp w b N D) (hk : w'.heap[b]? = w.heap[b]?) : Dp w' b N D := ⟨by rw [hk]; exact h.block⟩
theorem Dp.lt {w : World} {b N : Nat} {D : List Nat} (h : Dp w b N D) : b < w.heap.size := by
  obtain ⟨cs, h1, _⟩ := h.block
  exact (Array.getElem?_eq_some_iff.1 h1).1
theorem Dp.get {w : World} {b N : Nat} {D : List Nat} (h : Dp w b N D) {k d : Nat} (hk : D[k]? = some d) : w.cell? ⟨b, k, none⟩ = some (.int .i64 (d : Nat)) := by
  obtain ⟨cs, h1, _, h3⟩ := h.block
  rw [cell_blockK h1]
  exact h3 k d hk
theorem Dp.room {w : World} {b N : Nat} {D : List Nat} (h : Dp w b N D) {k : Nat} (hk : k < N) : ∃ v, w.cell? ⟨b, k, none⟩ = some v := by
  obtain ⟨cs, h1, h2, h3⟩ := h.block
  rw [cell_blockK h1]
  exact ⟨_, Array.getElem?_eq_getElem (by omega)⟩
theorem Dp.free {w : World} {b N : Nat} {D : List Nat} (h : Dp w b N D) (k : Nat) : w.frozen? ⟨b, k, none⟩ = false := by
  obtain ⟨cs, h1, h2, h3⟩ := h.block
  exact frozen_blockK h1 k
theorem Dp.set {w : World} {b N : Nat} {D : List Nat} (h : Dp w b N D) {k : Nat} (hk : D.length = k) (hN : k < N) (d : Nat) : Dp (w.setCell ⟨b, k, none⟩ (.int .i64 (d : Nat))) b N (D ++ [d]) := by
  obtain ⟨cs, h1, h2, h3⟩ := h.block
  refine ⟨⟨_, setCell_blockK h1 _, by simpa using h2, fun j e he => ?_⟩⟩
  by_cases hj : j < k
  · rw [List.getElem?_append_left (by omega)] at he
    rw [Array.getElem?_setIfInBounds_ne (by omega)]
    exact h3 j e he
  · have hj2 : j < D.length + 1 := by simpa using (List.getElem?_eq_some_iff.1 he).1
    obtain rfl : j = k := by omega
    rw [List.getElem?_append_right (by omega), hk, Nat.sub_self] at he
    obtain rfl : d = e := by simpa using he
    rw [Array.getElem?_setIfInBounds_self_of_lt (by omega)]
theorem Dp.new (w : World) (N : Nat) : Dp (w.alloc (.cells (List.replicate N (Value.int .i64 0)).toArray 3)) w.heap.size N [] :=
  ⟨⟨_, heap_alloc_new w _, by simp, fun k d h => by simp at h⟩⟩
theorem dmax_le {D : List Nat} {n B : Nat} (hD : ∀ d ∈ D, d ≤ B) : ∀ (l : List Int) (d : Nat), d ≤ B → dmax D n l d ≤ B
  | [], d, h => h
  | k :: r, d, h => by
    unfold dmax
    apply dmax_le hD r
    split
    · have : D.getD k.toNat 0 ≤ B := by
        rw [List.getD_eq_getElem?_getD]
        cases hk : D[k.toNat]? with
        | none => simp
        | some v => exact hD v (List.mem_of_getElem? hk)
      omega
    · exact h
theorem imax_nat (a b : Nat) : imax (a : Int) (b : Int) = ((max a b : Nat) : Int) := by unfold imax; split <;> omega
theorem deep_any {w : World} {A : Option Addr} {n c : Nat} {l : List Nd} (h : Nds w w.heap.size A l) (hn : l.length = n) :
    Calls Tryd.prog 9 #[.slice A n c] w fun e w' => e = .returned (.int .i64 (deepB l : Nat)) ∧ Below w.heap.size w w' := by
  have hs := h.small.1
  rw [hn] at hs
  have Hn := Lib.hid hn
  clear hn
  have hmk := make_intsK w ((n : Int) + 1) (by omega)
  rw [show ((n : Int) + 1).toNat = n + 1 from by omega] at hmk
  have hd0 := Dp.new w (n + 1)
  have hb0 : Below w.heap.size w (w.alloc (.cells (List.replicate (n + 1) (Value.int .i64 0)).toArray 3)) := (Below.refl _ _).alloc (Nat.le_refl _) _
  obtain ⟨w0, hw0⟩ : ∃ w0, w.alloc (.cells (List.replicate (n + 1) (Value.int .i64 0)).toArray 3) = w0 := ⟨_, rfl⟩
  rw [hw0] at hd0 hb0 hmk
  go_enter Tryd.func9, Tryd.ntmps9
  go_wp2_with fail
  go_loopw [4, 16] (fun v i wr => ∃ (k : Nat) (D : List Nat), k ≤ n ∧ i = .int .i64 k ∧ v = .int .i64 (D.getLastD 0 : Nat) ∧ D.length = k ∧ (∀ d ∈ D, d ≤ k) ∧ deepGo l [] = deepGo (l.drop k) D ∧ Below w.heap.size w wr ∧ Dp wr w.heap.size (n + 1) D) (fun _ i _ => n - (intOf i).toNat)
  case atStart => exact ⟨0, [], Nat.zero_le _, rfl, rfl, rfl, fun d hd => (by cases hd), rfl, hb0, hd0⟩
  case round =>
    obtain ⟨k, D, hk, rfl, rfl, hDl, hDb, hgo, hb, hD⟩ := hrel
    have HGO := Lib.hid hgo
    have HDL := Lib.hid hDl
    have HDB := Lib.hid hDb
    clear hgo hDl hDb
    by_cases hlt : k < n
    · obtain ⟨x, hx⟩ : ∃ x, l[k]? = some x := ⟨l[k]'(by have := Hn.out; omega), List.getElem?_eq_getElem _⟩
      have hxm := List.mem_of_getElem? hx
      obtain ⟨b, off, rfl, hbl, d0, d1, d2, d3, d4, d5⟩ := (h.below hb hb.size).rows.nd hx
      have hks := h.small.2 x hxm
      have HKR := Lib.hid (h.each x hxm)
      have HAT := Lib.hid (deepGo_at (D := D) hx)
      clear hx
      obtain ⟨kn, hkn⟩ : ∃ m, x.kids.length = m := ⟨_, rfl⟩
      rw [hkn] at d4 hks
      have HKN := Lib.hid hkn
      clear hkn
      have ba : Below wr.heap.size wr (wr.alloc (.cells #[.int .i64 x.kind, .string x.text, .string x.str, .float .f64 x.num, .slice x.kA kn x.kC, .int .i64 x.at_] 39)) := (Below.refl _ _).alloc (Nat.le_refl _) _
      have za := heap_alloc_new wr (.cells #[.int .i64 x.kind, .string x.text, .string x.str, .float .f64 x.num, .slice x.kA kn x.kC, .int .i64 x.at_] 39)
      obtain ⟨w1, hw1⟩ : ∃ w1, wr.alloc (.cells #[.int .i64 x.kind, .string x.text, .string x.str, .float .f64 x.num, .slice x.kA kn x.kC, .int .i64 x.at_] 39) = w1 := ⟨_, rfl⟩
      rw [hw1] at ba za
      have e4 := cell_blockK za 4
      simp at e4
      have hb1 := hb.trans (ba.mono hb.size)
      have hD1 := hD.keep (ba.block _ hD.lt)
      go_wp2_with fail
      go_loopw [7, 24] (fun v i wq => ∃ (j d : Nat), j ≤ kn ∧ i = .int .i64 j ∧ v = .int .i64 d ∧ wq = w1 ∧ dmax D k x.kids 0 = dmax D k (x.kids.drop j) d) (fun _ i _ => kn - (intOf i).toNat)
      case atStart => exact ⟨0, 0, Nat.zero_le _, rfl, rfl, rfl, rfl⟩
      case round =>
        obtain ⟨j, d, hj, rfl, rfl, rfl, hdm⟩ := hrel
        have HDM := Lib.hid hdm
        clear hdm
        by_cases hjt : j < kn
        · obtain ⟨y, hy⟩ : ∃ y, x.kids[j]? = some y := ⟨x.kids[j]'(by have := HKN.out; omega), List.getElem?_eq_getElem _⟩
          obtain ⟨b2, off2, hkA, _, hc⟩ := (HKR.out.below hb1 hb1.size).kid hy
          have HDA := Lib.hid (dmax_at (D := D) (n := k) (d := d) hy)
          clear hy
          rw [hkA]
          by_cases hin : 0 ≤ y ∧ y < (k : Int)
          · obtain ⟨q, rfl⟩ : ∃ q : Nat, y = q := ⟨y.toNat, by omega⟩
            obtain ⟨e, he⟩ : ∃ e, D[q]? = some e := ⟨D[q]'(by have := HDL.out; omega), List.getElem?_eq_getElem _⟩
            have hce := hD1.get he
            have hqk : q < k := by omega
            have hfin : dmax D k x.kids 0 = dmax D k (x.kids.drop (j + 1)) (max d e) := by
              rw [HDM.out, HDA.out, if_pos hin, Int.toNat_natCast, List.getD_eq_getElem?_getD, he]
              rfl
            have HFIN := Lib.hid hfin
            clear he hfin
            go_wp2_with fail
            go_roundw
            case rel => exact ⟨j + 1, max d e, by omega, by go_num, by rw [← imax_nat], trivial, HFIN.out⟩
            case measure => simp [intOf]; omega
          · have hfin : dmax D k x.kids 0 = dmax D k (x.kids.drop (j + 1)) d := by rw [HDM.out, HDA.out, if_neg hin]
            have HFIN := Lib.hid hfin
            by_cases hy0 : 0 ≤ y
            · have hy1 : (k : Int) ≤ y := by omega
              go_wp2_with fail
              go_roundw
              case rel => exact ⟨j + 1, d, by omega, by go_num, rfl, trivial, HFIN.out⟩
              case measure => simp [intOf]; omega
            · have g0 : decide (y ≥ 0) = false := by simp; omega
              go_wp2_with fail
              go_roundw
              case rel => exact ⟨j + 1, d, by omega, by go_num, rfl, trivial, HFIN.out⟩
              case measure => simp [intOf]; omega
        · obtain rfl : j = kn := by omega
          have hfin : dmax D k x.kids 0 = d := by rw [HDM.out, List.drop_of_length_le (by have := HKN.out; omega)]; rfl
          have hdk : d ≤ k := by rw [← hfin]; exact dmax_le HDB.out _ _ (Nat.zero_le _)
          obtain ⟨ov, hov⟩ := hD1.room (k := k) (by omega)
          have hfr := hD1.free k
          have hD2 := hD1.set HDL.out (by omega) (d + 1)
          have hb2 : Below w.heap.size w (wr.setCell ⟨w.heap.size, k, none⟩ (.int .i64 ((d : Int) + 1))) := hb1.setCell (p := ⟨w.heap.size, k, none⟩) (Nat.le_refl _) _
          have hgo2 : deepGo l [] = deepGo (l.drop (k + 1)) (D ++ [d + 1]) := by rw [HGO.out, HAT.out, HDL.out, hfin]
          have HG2 := Lib.hid hgo2
          clear hgo2
          go_wp2_with fail
          go_roundw
          case rel => exact ⟨k + 1, D ++ [d + 1], by omega, by go_num, by simp, by simp [HDL.out], fun e he => (by
            rcases List.mem_append.1 he with he | he
            · have := HDB.out e he; omega
            · simp at he; omega), HG2.out, hb2, hD2⟩
          case measure => simp [intOf]; omega
    · obtain rfl : k = n := by omega
      have hfin : D.getLastD 0 = deepB l := by unfold deepB; rw [HGO.out, List.drop_of_length_le (by have := Hn.out; omega)]; rfl
      rw [hfin]
      go_wp2_with fail
      go_ret
      exact ⟨rfl, hb⟩
end Go.Proofs.YtgnpgdjjdhlhaaaDoor
