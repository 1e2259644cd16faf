/- check.Targets: the iterator. -/
import Derived.Test.YtoihoackmkapaaaDoorKRch
import Derived.Test.YtoihoackmkapaaaDoorRound
import Derived.OwnWalkIn
import Derived.TacticsInMore
import Derived.LoopNIn
import Derived.LoopIn
namespace Go.Proofs.YtoihoackmkapaaaDoor
open Go.RowKit
set_option maxHeartbeats 4000000
set_option maxRecDepth 100000

abbrev TgP (p : Nat × Int → Prop) := { x : Nat × Int // p x }
def encTg {p : Nat × Int → Prop} (x : TgP p) : Array Value := #[.int .i64 (x.1.1 : Nat), .int .i64 x.1.2]
theorem grown_of_below {w w' : World} (h : Below w.heap.size w w') : w.grownBy w' none := ⟨h.os, h.tape, h.output, h.size, fun k hk _ => h.block k hk⟩
theorem take_snocK {α : Type} (xs : List α) (k : Nat) (x : α) (h : xs[k]? = some x) : xs.take (k + 1) = xs.take k ++ [x] := by
  rw [List.take_add_one, h]; rfl

theorem targets_any (f : FnT) (w : World) :
    Calls Tryd.prog 14 #[.agg (fnC f).toArray] w fun e w' => e = .returned (.func (.func 29) #[] #[.pointer (some ⟨w.heap.size, 0, none⟩)]) ∧
      w' = w.alloc (.cells (fnC f).toArray 38) := by
  simp only [fnC]
  go_enter Tryd.func14, Tryd.ntmps14
  go_wp2_with fail
  go_ret
  exact ⟨rfl, rfl⟩

theorem targets_in {p : Nat × Int → Prop} (n : Nat) {l Bs : Nat} {w0 : World} (f : FnT) (hF : FnIn w0 w0.heap.size f) (hT : Tb w0) (hlen : f.code.length ≤ 1000) (xs : List (TgP p)) (hxs : xs.map (·.1) = TG 0 f.code) (J Jx : List (TgP p) → World → Prop) (W : World)
    (hW : Below w0.heap.size w0 W) (hJ : ∀ pre W W', J pre W → W.grownBy W' none → J pre W')
    (hY : ∀ pre x W, J pre W → pre.length < xs.length → YieldAt Fence.wide (n - 1) Tryd.prog l (encTg x) W fun e W' =>
      (e = .returned (.bool true) ∧ J (pre ++ [x]) W' ∧ Below w0.heap.size W W') ∨ (e = .returned (.bool false) ∧ Jx (pre ++ [x]) W'))
    (ht : W.cell? ⟨Bs, 6, none⟩ = some (.slice f.kA f.code.length f.kC)) (h0 : J [] W) :
    CallsIn Fence.wide n Tryd.prog 29 #[.func (.yield l) #[] #[], .pointer (some ⟨Bs, 0, none⟩)] W fun e W' => (∃ v, e = .returned v) ∧
      ((∃ ys, ys = xs ∧ J ys W') ∨ (∃ pre, pre <+: xs ∧ Jx pre W')) := by
  obtain ⟨N, hN⟩ : ∃ n, f.code.length = n := ⟨_, rfl⟩
  rw [hN] at ht hlen
  have HXS := Lib.hid hxs
  have HN := Lib.hid hN
  clear hxs hN
  refine callsIn_of_wp Tryd.func29 rfl trivial ?_ rfl
  simp only [Tryd.ntmps29, List.size_toArray, List.length_cons, List.length_nil, Nat.reduceAdd, Nat.reduceSub, Array.replicate_succ, Array.replicate_zero, List.push_toArray, List.append_toArray, List.nil_append, List.cons_append]
  gi_wp2
  gi_loopw [10] (fun i wr => ∃ k m : Nat, k ≤ N ∧ i = .int .i64 k ∧ J (xs.take m) wr ∧ TG k (f.code.drop k) = (TG 0 f.code).drop m ∧ Below w0.heap.size w0 wr)
    (fun i _ => N - (intOf i).toNat)
  case atStart => exact ⟨0, 0, Nat.zero_le _, rfl, by simpa using h0, by simp, hW⟩
  case round =>
    obtain ⟨k, m, hk, rfl, hJs, hpf, hb⟩ := hrel
    have HPF := Lib.hid hpf
    clear hpf
    by_cases hlt : k < N
    · obtain ⟨i, hi⟩ : ∃ i, f.code[k]? = some i := ⟨f.code[k]'(by have := HN.out; omega), List.getElem?_eq_getElem _⟩
      obtain ⟨b, off, hA, hbl, d0, d1, d2, d3, d4⟩ := (hF.kr.below hb hb.size).ins hi
      have HAT := Lib.hid (TG_at hi)
      obtain ⟨o, a1, a2, a3, a4⟩ := i
      simp only at d0 d1 d2 d3 d4
      obtain ⟨tg, htg⟩ : ∃ tg, tgtOf (o, a1, a2, a3, a4) = tg := ⟨_, rfl⟩
      have HTG := Lib.hid htg
      clear hi htg
      have hba : Below w0.heap.size w0 (wr.alloc (.cells #[.int .i64 o, .int .i64 a1, .int .i64 a2, .int .i64 a3, .int .i64 a4] 50)) := hb.alloc hb.size _
      have hJa := hJ _ _ _ hJs (World.grownBy_alloc wr (.cells #[.int .i64 o, .int .i64 a1, .int .i64 a2, .int .i64 a3, .int .i64 a4] 50) none)
      rw [hA]
      gi_wp2
      refine ⟨trivial, fun h => (by cases h), ?_⟩
      refine (callsIn_wide.2 (target12_any (o, a1, a2, a3, a4) (hT.below hba (Nat.le_refl _)))).mono ?_
      rintro e w1 ⟨rfl, b1⟩
      rw [HTG.out]
      have hb1 : Below w0.heap.size w0 w1 := hba.trans (b1.mono hba.size)
      have hJ1 := hJ _ _ _ hJa (grown_of_below b1)
      cases tg with
      | none =>
        have HST : TG k (f.code.drop k) = TG (k + 1) (f.code.drop (k + 1)) := by rw [HAT.out, HTG.out]
        have HST := Lib.hid HST
        simp only [Option.getD_none, Option.isSome_none]
        gi_wp2
        refine ⟨fun f h => (by cases h), ?_⟩
        gi_wp2
        go_roundw
        case rel => exact ⟨k + 1, m, by omega, by go_num, hJ1, by rw [← HPF.out, HST.out], hb1⟩
        case measure => simp [intOf]; omega
      | some t =>
        have HST : TG k (f.code.drop k) = (k, t) :: TG (k + 1) (f.code.drop (k + 1)) := by rw [HAT.out, HTG.out]
        have hm : m < xs.length := by
          have h1 := congrArg List.length HXS.out
          have h2 := congrArg List.length HPF.out
          rw [HST] at h2
          simp only [List.length_map] at h1
          simp only [List.length_drop, List.length_cons] at h2
          omega
        have HST := Lib.hid HST
        obtain ⟨x, hx⟩ : ∃ x, xs[m]? = some x := ⟨xs[m]'(by omega), List.getElem?_eq_getElem _⟩
        have hx1 : x.1 = (k, t) := by
          have := congrArg (fun l => l[m]?) HXS.out
          simp only [List.getElem?_map, hx, Option.map_some] at this
          have h0 := congrArg List.head? HPF.out
          rw [HST.out] at h0
          simp only [List.head?_cons, List.head?_drop] at h0
          rw [← h0] at this
          exact Option.some.inj this
        obtain ⟨⟨x1, x2⟩, hxp⟩ := x
        simp only [Prod.mk.injEq] at hx1
        obtain ⟨rfl, rfl⟩ := hx1
        have hnx : TG (x1 + 1) (f.code.drop (x1 + 1)) = (TG 0 f.code).drop (m + 1) := by
          have h := congrArg (List.drop 1) (HST.out.symm.trans HPF.out)
          rw [List.drop_drop] at h
          simpa using h
        have HNX := Lib.hid hnx
        clear hnx
        have htk := take_snocK xs m _ hx
        obtain ⟨fn, tmps, assign, body, hy, hR⟩ := hY (xs.take m) ⟨(x1, x2), hxp⟩ w1 hJ1 (by rw [List.length_take]; omega)
        simp only [encTg] at hy
        have HTK := Lib.hid htk
        clear htk hx
        simp only [Option.getD_some, Option.isSome_some]
        gi_wp2
        refine ⟨fun h => (by cases h), hR.mono ?_⟩
        rintro e W3 (⟨rfl, hJ3, hk3⟩ | ⟨rfl, hJx3⟩)
        · gi_wp2
          go_roundw
          case rel => exact ⟨x1 + 1, m + 1, by omega, by go_num, by rw [HTK.out]; exact hJ3, HNX.out, hb1.trans hk3⟩
          case measure => simp [intOf]; omega
        · gi_wp2
          refine bodyPost_ret (results_none rfl _ _ _) rfl ?_
          exact ⟨⟨_, rfl⟩, .inr ⟨_, by rw [← HTK.out]; exact List.take_prefix _ _, hJx3⟩⟩
    · obtain rfl : k = N := by omega
      have hend : xs.take m = xs := by
        have h1 := congrArg List.length HXS.out
        have h2 := congrArg List.length HPF.out
        rw [TG_end (by have := HN.out; omega)] at h2
        simp only [List.length_map] at h1
        simp only [List.length_nil, List.length_drop] at h2
        exact List.take_of_length_le (by omega)
      gi_wp2
      go_end0
      exact ⟨⟨_, rfl⟩, .inl ⟨_, rfl, by rw [← hend]; exact hJs⟩⟩

theorem targets_stops {p : Nat × Int → Prop} (n : Nat) {Bs : Nat} {w0 w : World} (f : FnT) (hF : FnIn w0 w0.heap.size f) (hT : Tb w0) (hlen : f.code.length ≤ 1000) (xs : List (TgP p)) (hxs : xs.map (·.1) = TG 0 f.code) (hw : Below w0.heap.size w0 w)
    (ht : w.cell? ⟨Bs, 6, none⟩ = some (.slice f.kA f.code.length f.kC)) :
    SeqStopsK Fence.wide n Tryd.prog 29 #[.pointer (some ⟨Bs, 0, none⟩)] encTg (Below w0.heap.size) (fun ys => ys = xs) (fun pre => pre <+: xs) xs.length w := fun l J Jx W hW hJ _ hY h0 =>
  targets_in n f hF hT hlen xs hxs J Jx W (hw.trans (hW.mono hw.size)) (fun pre W W' hj hg => hJ pre W W' none hj hg (fun r e => by cases e)) hY
    ((hW.cell (World.block_lt_of_cell? _ _ ht)).trans ht) h0
end Go.Proofs.YtoihoackmkapaaaDoor
