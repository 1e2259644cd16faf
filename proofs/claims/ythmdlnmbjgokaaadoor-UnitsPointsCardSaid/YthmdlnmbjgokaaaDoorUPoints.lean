/- units.Points: the iterator. -/
import Derived.Test.YthmdlnmbjgokaaaDoorUPts
import Derived.Test.YthmdlnmbjgokaaaDoorRound
import Derived.OwnWalkIn
import Derived.TacticsInMore
import Derived.LoopNIn
import Derived.LoopIn
namespace Go.Proofs.YthmdlnmbjgokaaaDoor
open Go.RowKit
set_option maxHeartbeats 4000000
set_option maxRecDepth 100000

abbrev PtP (p : Nat × Int → Prop) := { x : Nat × Int // p x }
def encPt {p : Nat × Int → Prop} (x : PtP p) : Array Value := #[.int .i64 (x.1.1 : Nat), .int .i32 x.1.2]

theorem points_any (s : ByteArray) (w : World) :
    Calls Tryd.prog 19 #[.string s] w fun e w' => e = .returned (.func (.func 43) #[] #[.pointer (some ⟨w.heap.size, 0, none⟩)]) ∧
      w' = w.alloc (.cells #[.string s] 22) := by
  go_enter Tryd.func19, Tryd.ntmps19
  go_wp2_with fail
  go_ret
  exact ⟨rfl, rfl⟩

theorem take_snoc2 {α : Type} (xs : List α) (k : Nat) (x : α) (h : xs[k]? = some x) : xs.take (k + 1) = xs.take k ++ [x] := by
  rw [List.take_add_one, h]; rfl


theorem points_in {p : Nat × Int → Prop} (n : Nat) {l Bs : Nat} (s : ByteArray) (hs : s.size ≤ 1048576) (xs : List (PtP p)) (hxs : xs.map (·.1) = PF s 0) (J Jx : List (PtP p) → World → Prop) (W : World)
    (hJ : ∀ pre W W', J pre W → W.grownBy W' none → J pre W')
    (hY : ∀ pre x W, J pre W → pre.length < xs.length → YieldAt Fence.wide (n - 1) Tryd.prog l (encPt x) W fun e W' =>
      (e = .returned (.bool true) ∧ J (pre ++ [x]) W' ∧ True) ∨ (e = .returned (.bool false) ∧ Jx (pre ++ [x]) W'))
    (ht : W.cell? ⟨Bs, 0, none⟩ = some (.string s)) (h0 : J [] W) :
    CallsIn Fence.wide n Tryd.prog 43 #[.func (.yield l) #[] #[], .pointer (some ⟨Bs, 0, none⟩)] W fun e W' => (∃ v, e = .returned v) ∧
      ((∃ ys, ys = xs ∧ J ys W') ∨ (∃ pre, pre <+: xs ∧ Jx pre W')) := by
  obtain ⟨N, hN⟩ : ∃ n, n = s.size / 2 := ⟨_, rfl⟩
  have hes : (evenB s).size = N * 2 := by rw [evenB_size, hN]
  have hes2 : ((evenB s).size : Int) / 2 = N := by omega
  have hml : (evenB s).size ≤ maxLen := by unfold maxLen; omega
  have HXS := Lib.hid hxs
  have HN := Lib.hid hN
  have HES := Lib.hid hes
  have hN1 : N ≤ 524288 := by omega
  clear hxs hN hes
  refine callsIn_of_wp Tryd.func43 rfl trivial ?_ rfl
  simp only [Tryd.ntmps43, List.size_toArray, List.length_cons, List.length_nil, Nat.reduceAdd, Nat.reduceSub, Array.replicate_succ, Array.replicate_zero, List.push_toArray, List.append_toArray, List.nil_append, List.cons_append]
  gi_wp2
  refine ⟨trivial, fun h => (by cases h), ?_⟩
  refine (callsIn_wide.2 (even_any s _ (by unfold maxLen; omega))).mono ?_
  rintro e w' ⟨rfl, rfl⟩
  simp only
  gi_wp2
  gi_loopw [5] (fun i wr => ∃ k m : Nat, k ≤ N ∧ i = .int .i64 k ∧ J (xs.take m) wr ∧ PF s k = (PF s 0).drop m)
    (fun i _ => N - (intOf i).toNat)
  case atStart => exact ⟨0, 0, Nat.zero_le _, rfl, by simpa using h0, by simp⟩
  case round =>
    obtain ⟨k, m, hk, rfl, hJs, hpf⟩ := hrel
    have HPF := Lib.hid hpf
    clear hpf
    by_cases hlt : k < N
    · have hub := unitAt_bd s k
      have a1 := andNot_i32 _ hub.1 hub.2
      have hm : m < xs.length := by
        have h1 := congrArg List.length HXS.out
        have h2 := congrArg List.length HPF.out
        simp only [List.length_map] at h1
        simp only [List.length_drop] at h2
        have h3 : 0 < (PF s k).length := by
          have hlt' : k < s.size / 2 := by have := HN.out; omega
          by_cases hc : k + 1 < s.size / 2 ∧ unitAt s k / 1024 = 54 ∧ unitAt s (k + 1) / 1024 = 55
          · rw [PF_pair hc.1 hc.2.1 hc.2.2]; simp
          · rw [PF_one hlt' hc]; simp
        omega
      obtain ⟨u, hu⟩ : ∃ u, unitAt s k = u := ⟨_, rfl⟩
      obtain ⟨v, hv⟩ : ∃ v, unitAt s (k + 1) = v := ⟨_, rfl⟩
      have hvb := unitAt_bd s (k + 1)
      have a2 := andNot_u16 _ hvb.1 hvb.2
      have hone := fun hn => PF_one (s := s) (i := k) (by have := HN.out; omega) hn
      have hpair := fun h0 => PF_pair (s := s) (i := k) h0
      have e1 := unitAt_even s k (by have := HN.out; omega)
      have e2 := fun h => unitAt_even s (k + 1) h
      rw [hu] at hub a1 hone hpair e1
      rw [hv] at hvb a2 hone hpair e2
      have HONE := Lib.hid hone
      have HPAIR := Lib.hid hpair
      have E1 := Lib.hid e1
      have E2 := Lib.hid e2
      clear hone hpair hu hv e1 e2
      gi_wp2
      refine ⟨trivial, fun h => (by cases h), ?_⟩
      refine (callsIn_wide.2 (unit_any (evenB s) (k) _ (by have := HES.out; omega) hml)).mono ?_
      rintro e w1 ⟨rfl, rfl⟩
      rw [E1.out]
      simp only
      by_cases c1 : k + 1 < N
      · have z1 : (k : Int) + 1 < N := by omega
        by_cases c2 : u / 1024 * 1024 = 55296
        · have c2' : u / 1024 = 54 := by omega
          by_cases c3 : v / 1024 * 1024 = 56320
          · have HST := Lib.hid (HPAIR.out (by have := HN.out; omega) c2' (by omega))
            have hval : (u - 55296) * 1024 + (v - 56320) + 65536 = u % 1024 * 1024 + v % 1024 + 65536 := by omega
            have HST := Lib.hid (hval ▸ HST.out)
            clear hval c2'
            have b1 := and_i32 u hub.1 hub.2
            have b2 := and_u16 v hvb.1 hvb.2
            gi_wp2
            refine ⟨trivial, fun h => (by cases h), ?_⟩
            refine (callsIn_wide.2 (unit_any (evenB s) (k + 1) _ (by have := HES.out; omega) hml)).mono ?_
            rintro e w1 ⟨rfl, rfl⟩
            rw [E2.out (by have := HN.out; omega)]
            simp only
            gi_wp2
            refine ⟨trivial, fun h => (by cases h), ?_⟩
            refine (callsIn_wide.2 (unit_any (evenB s) (k + 1) _ (by have := HES.out; omega) hml)).mono ?_
            rintro e w1 ⟨rfl, rfl⟩
            rw [E2.out (by have := HN.out; omega)]
            simp only
            obtain ⟨x, hx⟩ : ∃ x, xs[m]? = some x := ⟨xs[m]'(by omega), List.getElem?_eq_getElem _⟩
            have hx1 : x.1 = (k, u % 1024 * 1024 + v % 1024 + 65536) := by
              have := congrArg (fun l => l[m]?) HXS.out
              simp only [List.getElem?_map, hx, Option.map_some] at this
              have h0 := congrArg List.head? HPF.out
              rw [HST.out] at h0
              simp only [List.head?_cons, List.head?_drop] at h0
              rw [← h0] at this
              exact Option.some.inj this
            obtain ⟨⟨x1, x2⟩, hxp⟩ := x
            simp only [Prod.mk.injEq] at hx1
            obtain ⟨rfl, hx2⟩ := hx1
            have htk := take_snoc2 xs m _ hx
            obtain ⟨fn, tmps, assign, body, hy, hR⟩ := hY (xs.take m) ⟨(x1, x2), hxp⟩ wr.drew.drew.drew (hJ _ _ _ hJs ⟨rfl, rfl, rfl, Nat.le_refl _, fun _ _ _ => rfl⟩) (by rw [List.length_take]; omega)
            simp only [encPt] at hy
            rw [hx2] at hy
            have HTK := Lib.hid htk
            clear htk hx hx2
            gi_wp2
            refine ⟨fun h => (by cases h), hR.mono ?_⟩
            rintro e W3 (⟨rfl, hJ3, _⟩ | ⟨rfl, hJx3⟩)
            · gi_wp2
              go_roundw
              case rel => exact ⟨x1 + 2, m + 1, by omega, by go_num, by rw [HTK.out]; exact hJ3, by rw [← List.drop_drop, ← HPF.out, HST.out]; rfl⟩
              case measure => simp [intOf]; omega
            · gi_wp2
              refine bodyPost_ret (results_none rfl _ _ _) rfl ?_
              exact ⟨⟨_, rfl⟩, .inr ⟨_, by rw [← HTK.out]; exact List.take_prefix _ _, hJx3⟩⟩
          · have HST := Lib.hid (HONE.out (by omega))
            clear c2'
            gi_wp2
            refine ⟨trivial, fun h => (by cases h), ?_⟩
            refine (callsIn_wide.2 (unit_any (evenB s) (k + 1) _ (by have := HES.out; omega) hml)).mono ?_
            rintro e w1 ⟨rfl, rfl⟩
            rw [E2.out (by have := HN.out; omega)]
            simp only
            obtain ⟨x, hx⟩ : ∃ x, xs[m]? = some x := ⟨xs[m]'(by omega), List.getElem?_eq_getElem _⟩
            have hx1 : x.1 = (k, u) := by
              have := congrArg (fun l => l[m]?) HXS.out
              simp only [List.getElem?_map, hx, Option.map_some] at this
              have h0 := congrArg List.head? HPF.out
              rw [HST.out] at h0
              simp only [List.head?_cons, List.head?_drop] at h0
              rw [← h0] at this
              exact Option.some.inj this
            obtain ⟨⟨x1, x2⟩, hxp⟩ := x
            simp only [Prod.mk.injEq] at hx1
            obtain ⟨rfl, hx2⟩ := hx1
            have htk := take_snoc2 xs m _ hx
            obtain ⟨fn, tmps, assign, body, hy, hR⟩ := hY (xs.take m) ⟨(x1, x2), hxp⟩ wr.drew.drew (hJ _ _ _ hJs ⟨rfl, rfl, rfl, Nat.le_refl _, fun _ _ _ => rfl⟩) (by rw [List.length_take]; omega)
            simp only [encPt] at hy
            rw [hx2] at hy
            have HTK := Lib.hid htk
            clear htk hx hx2
            gi_wp2
            refine ⟨fun h => (by cases h), hR.mono ?_⟩
            rintro e W3 (⟨rfl, hJ3, _⟩ | ⟨rfl, hJx3⟩)
            · gi_wp2
              go_roundw
              case rel => exact ⟨x1 + 1, m + 1, by omega, by go_num, by rw [HTK.out]; exact hJ3, by rw [← List.drop_drop, ← HPF.out, HST.out]; rfl⟩
              case measure => simp [intOf]; omega
            · gi_wp2
              refine bodyPost_ret (results_none rfl _ _ _) rfl ?_
              exact ⟨⟨_, rfl⟩, .inr ⟨_, by rw [← HTK.out]; exact List.take_prefix _ _, hJx3⟩⟩
        · have HST := Lib.hid (HONE.out (by omega))
          gi_wp2
          obtain ⟨x, hx⟩ : ∃ x, xs[m]? = some x := ⟨xs[m]'(by omega), List.getElem?_eq_getElem _⟩
          have hx1 : x.1 = (k, u) := by
            have := congrArg (fun l => l[m]?) HXS.out
            simp only [List.getElem?_map, hx, Option.map_some] at this
            have h0 := congrArg List.head? HPF.out
            rw [HST.out] at h0
            simp only [List.head?_cons, List.head?_drop] at h0
            rw [← h0] at this
            exact Option.some.inj this
          obtain ⟨⟨x1, x2⟩, hxp⟩ := x
          simp only [Prod.mk.injEq] at hx1
          obtain ⟨rfl, hx2⟩ := hx1
          have htk := take_snoc2 xs m _ hx
          obtain ⟨fn, tmps, assign, body, hy, hR⟩ := hY (xs.take m) ⟨(x1, x2), hxp⟩ wr.drew (hJ _ _ _ hJs ⟨rfl, rfl, rfl, Nat.le_refl _, fun _ _ _ => rfl⟩) (by rw [List.length_take]; omega)
          simp only [encPt] at hy
          rw [hx2] at hy
          have HTK := Lib.hid htk
          clear htk hx hx2
          gi_wp2
          refine ⟨trivial, ?_⟩
          gi_wp2
          refine ⟨fun h => (by cases h), hR.mono ?_⟩
          rintro e W3 (⟨rfl, hJ3, _⟩ | ⟨rfl, hJx3⟩)
          · gi_wp2
            go_roundw
            case rel => exact ⟨x1 + 1, m + 1, by omega, by go_num, by rw [HTK.out]; exact hJ3, by rw [← List.drop_drop, ← HPF.out, HST.out]; rfl⟩
            case measure => simp [intOf]; omega
          · gi_wp2
            refine bodyPost_ret (results_none rfl _ _ _) rfl ?_
            exact ⟨⟨_, rfl⟩, .inr ⟨_, by rw [← HTK.out]; exact List.take_prefix _ _, hJx3⟩⟩
      · have HST := Lib.hid (HONE.out (by have := HN.out; omega))
        gi_wp2
        obtain ⟨x, hx⟩ : ∃ x, xs[m]? = some x := ⟨xs[m]'(by omega), List.getElem?_eq_getElem _⟩
        have hx1 : x.1 = (k, u) := by
          have := congrArg (fun l => l[m]?) HXS.out
          simp only [List.getElem?_map, hx, Option.map_some] at this
          have h0 := congrArg List.head? HPF.out
          rw [HST.out] at h0
          simp only [List.head?_cons, List.head?_drop] at h0
          rw [← h0] at this
          exact Option.some.inj this
        obtain ⟨⟨x1, x2⟩, hxp⟩ := x
        simp only [Prod.mk.injEq] at hx1
        obtain ⟨rfl, hx2⟩ := hx1
        have htk := take_snoc2 xs m _ hx
        obtain ⟨fn, tmps, assign, body, hy, hR⟩ := hY (xs.take m) ⟨(x1, x2), hxp⟩ wr.drew (hJ _ _ _ hJs ⟨rfl, rfl, rfl, Nat.le_refl _, fun _ _ _ => rfl⟩) (by rw [List.length_take]; omega)
        simp only [encPt] at hy
        rw [hx2] at hy
        have HTK := Lib.hid htk
        clear htk hx hx2
        gi_wp2
        refine ⟨trivial, ?_⟩
        gi_wp2
        refine ⟨fun h => (by cases h), hR.mono ?_⟩
        rintro e W3 (⟨rfl, hJ3, _⟩ | ⟨rfl, hJx3⟩)
        · gi_wp2
          go_roundw
          case rel => exact ⟨x1 + 1, m + 1, by omega, by go_num, by rw [HTK.out]; exact hJ3, by rw [← List.drop_drop, ← HPF.out, HST.out]; rfl⟩
          case measure => simp [intOf]; omega
        · gi_wp2
          refine bodyPost_ret (results_none rfl _ _ _) rfl ?_
          exact ⟨⟨_, rfl⟩, .inr ⟨_, by rw [← HTK.out]; exact List.take_prefix _ _, hJx3⟩⟩
    · gi_wp2
      go_end0
      have hl : xs.length ≤ m := by
        have h1 := congrArg List.length HXS.out
        have h2 := congrArg List.length HPF.out
        rw [PF_end (by have := HN.out; omega)] at h2
        simp only [List.length_map] at h1
        simp only [List.length_drop, List.length_nil] at h2
        omega
      exact ⟨⟨_, rfl⟩, .inl ⟨_, rfl, by rw [List.take_of_length_le hl] at hJs; exact hJs⟩⟩

theorem points_stops {p : Nat × Int → Prop} (n : Nat) {Bs : Nat} {w : World} (s : ByteArray) (hs : s.size ≤ 1048576) (xs : List (PtP p)) (hxs : xs.map (·.1) = PF s 0)
    (ht : w.cell? ⟨Bs, 0, none⟩ = some (.string s)) :
    SeqStopsK Fence.wide n Tryd.prog 43 #[.pointer (some ⟨Bs, 0, none⟩)] encPt (fun _ _ => True) (fun ys => ys = xs) (fun pre => pre <+: xs) xs.length w := fun l J Jx W hW hJ _ hY h0 =>
  points_in n s hs xs hxs J Jx W (fun pre W W' hj hg => hJ pre W W' none hj hg (fun r e => by cases e)) hY
    ((hW.cell (World.block_lt_of_cell? _ _ ht)).trans ht) h0
end Go.Proofs.YthmdlnmbjgokaaaDoor
