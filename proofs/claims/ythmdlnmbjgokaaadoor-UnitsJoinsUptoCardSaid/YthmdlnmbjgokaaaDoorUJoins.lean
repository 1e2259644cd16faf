/- The walk of UnitsJoins. -/
import Derived.Test.YthmdlnmbjgokaaaDoorUAwake
import Derived.Test.YthmdlnmbjgokaaaDoorUJoinsA
import Derived.Test.YthmdlnmbjgokaaaDoorApp
namespace Go.Proofs.YthmdlnmbjgokaaaDoor
open Go.RowKit
set_option maxHeartbeats 4000000
set_option maxRecDepth 100000

theorem Tryd.info_str : (Tryd.prog.info? 22).map (fun i => (i.zero, i.size, i.bytes)) = some (some (.string ⟨#[]⟩), 1, 16) := by kernel_rfl
/-- the bytes of texts, counted -/
def totS (l : List ByteArray) : Nat := (l.map (·.size)).sum
theorem totS_append (a b : List ByteArray) : totS (a ++ b) = totS a + totS b := by simp [totS]
theorem totS_take {l : List ByteArray} {k : Nat} {s : ByteArray} (h : l[k]? = some s) : totS (l.take (k + 1)) = totS (l.take k) + s.size := by
  rw [take_snocB l k s h, totS_append]
  simp [totS]
theorem totS_le (l : List ByteArray) (k : Nat) : totS (l.take k) ≤ totS l := by
  conv => rhs; rw [← List.take_append_drop k l]
  rw [totS_append]
  omega
theorem totS_mem {l : List ByteArray} {s : ByteArray} (h : s ∈ l) : s.size ≤ totS l := by
  induction l with
  | nil => cases h
  | cons x r ih =>
    have e : totS (x :: r) = x.size + totS r := by simp [totS]
    rw [e]
    rcases List.mem_cons.1 h with rfl | h
    · omega
    · have := ih h; omega
theorem totU_size : ∀ (l : List ByteArray), (totU l).length * 2 ≤ totS l
  | [] => by simp [totU, totS]
  | x :: r => by
    have ih := totU_size r
    have e1 : totS (x :: r) = x.size + totS r := by simp [totS]
    have e2 : totU (x :: r) = U x ++ totU r := by simp [totU]
    rw [e1, e2, List.length_append, U_length]
    omega
theorem totS_rep (k : Nat) (s : ByteArray) : totS (List.replicate k s) = k * s.size := by
  induction k with
  | zero => simp [totS]
  | succ k ih =>
    rw [List.replicate_succ', totS_append, ih]
    simp [totS, Nat.succ_mul]
theorem own_cap {w : World} {b : Nat} {e : TypeId} {sz n c : Nat} {A : Option Addr} {xs : List Value} (h : w.ownsRow b e sz (.slice A n c) n xs) : n ≤ c ∧ (A = none → n = 0 ∧ c = 0) := by
  rcases h.2 with ⟨hv, h0⟩ | ⟨g, cap, cur, hv, _, _, hc, _⟩
  · injection hv with h1 h2 h3
    exact ⟨by omega, fun _ => ⟨by omega, by omega⟩⟩
  · injection hv with h1 h2 h3
    exact ⟨by omega, fun h => by rw [h1] at h; cases h⟩
theorem rep_snoc (l : List ByteArray) (j : Nat) (s : ByteArray) : (l ++ List.replicate (j + 1) s).map Value.string = (l ++ List.replicate j s).map Value.string ++ [.string s] := by
  rw [List.replicate_succ', ← List.append_assoc, List.map_append]
  rfl
theorem joinR_form (l : List ByteArray) : ∃ x y, joinR l = #[.string x, .int .i64 y] := by
  unfold joinR
  split
  · exact ⟨_, _, rfl⟩
  · exact ⟨_, _, rfl⟩

theorem joins_any (l : List ByteArray) (A : Option Addr) (n c : Nat) (long : ByteArray) (many : Int) (w : World) (hrd : Rd w w.heap.size A (l.map Value.string)) (hl : l.length = n) (hnc : n ≤ c) (hnone : A = none → n = 0 ∧ c = 0)
    (hS : totS l ≤ 1048576) (hn : n ≤ 1048576) (hlong : long.size ≤ 1048576) (hT : Lib.Utf8Tabs 0 1 w) :
    Calls Tryd.prog 6 #[.slice A n c, .string long, .int .i64 many] w fun e w' => e = .returned (.bool true) ∧ Below w.heap.size w w' := by
  obtain ⟨i0, hi, hz0, hz1, hz2⟩ := info_parts Tryd.info_str
  have Hl := Lib.hid hl
  have HS := Lib.hid hS
  have HNC := Lib.hid hnc
  have HNONE := Lib.hid hnone
  clear hl hS hnc hnone
  go_enter Tryd.func6, Tryd.ntmps6
  go_wp2_with fail
  refine (awake_any _ hT).mono ?_
  rintro e w1 ⟨rfl, b1⟩
  have hrd1 := (hrd.below b1).more b1.size
  clear hrd hT
  simp only
  go_wp2_with fail
  go_loopw [7, 19] (fun nv i wr => ∃ k : Nat, k ≤ n ∧ i = .int .i64 k ∧ (∃ T : Nat, totS (l.take k) = T ∧ nv = .int .i64 T) ∧ w1 = wr)
    (fun _ i _ => n - (intOf i).toNat)
  case atStart => exact ⟨0, Nat.zero_le _, rfl, ⟨0, rfl, rfl⟩, rfl⟩
  case round =>
    obtain ⟨k, hk, rfl, ⟨T, hTT, rfl⟩, rfl⟩ := hrel
    have HTT := Lib.hid hTT
    have hT1 : T ≤ 1048576 := by have h1 := totS_le l k; have h2 := HS.out; omega
    clear hTT
    by_cases hlt : k < n
    · obtain ⟨s, hs⟩ : ∃ s, l[k]? = some s := ⟨l[k]'(by have := Hl.out; omega), List.getElem?_eq_getElem _⟩
      have hs4 := Nat.le_trans (totS_mem (List.mem_of_getElem? hs)) HS.out
      have hrdk := hrd1
      obtain ⟨ad, rfl, _, hc⟩ := hrdk.at_ (k := k) (u := .string s) (by rw [List.getElem?_map, hs]; rfl)
      have HTK := Lib.hid (totS_take hs)
      clear hs hrdk
      go_wp2_with fail
      go_roundw
      case rel => exact ⟨k + 1, by omega, by go_num, ⟨T + s.size, by rw [HTK.out, HTT.out], by go_num⟩, trivial⟩
      case measure => simp [intOf]; omega
    · obtain rfl : k = n := by omega
      have htk : l.take k = l := List.take_of_length_le (by have := Hl.out; omega)
      have hTS := HTT.out
      rw [htk] at hTS
      have HTS := Lib.hid hTS
      clear htk hTS
      have bw := b1
      by_cases c1 : (4000 : Int) < T
      · go_wp2_with fail
        go_ret
        exact ⟨rfl, bw⟩
      by_cases c2 : (100 : Int) < k
      · go_wp2_with fail
        go_ret
        exact ⟨rfl, bw⟩
      by_cases c3 : (2000 : Int) < long.size
      · go_wp2_with fail
        go_ret
        exact ⟨rfl, bw⟩
      by_cases c4 : 200 < many
      · go_wp2_with fail
        go_ret
        exact ⟨rfl, bw⟩
      obtain ⟨M, hM⟩ : ∃ M, many.toNat = M := ⟨_, rfl⟩
      have hM2 : M ≤ 200 := by omega
      have hM3 : ∀ j : Nat, (j : Int) < many ↔ j < M := by intro j; omega
      have HM := Lib.hid hM
      clear hM
      go_wp2_with fail
      go_loopw [0, 10] (fun lv iv wr => ∃ j A' c', j ≤ M ∧ iv = .int .i64 (j : Nat) ∧ lv = .slice A' (k + j) c' ∧ k + j ≤ c' ∧ (A' = none → k + j = 0 ∧ c' = 0) ∧ Rd wr wr.heap.size A' ((l ++ List.replicate j long).map Value.string) ∧ Below w1.heap.size w1 wr)
        (fun _ i _ => M - (intOf i).toNat)
      case atStart => exact ⟨0, A, c, Nat.zero_le _, rfl, rfl, HNC.out, HNONE.out, by simpa using hrd1, Below.refl _ _⟩
      case round =>
        obtain ⟨j, A', c', hj, rfl, rfl, hjc, hjn, hrj, hbj⟩ := hrel
        have HJN := Lib.hid hjn
        have hsj := hbj.size
        clear hjn
        by_cases hlt2 : j < M
        · have hmj : (j : Int) < many := by have := HM.out; omega
          have hrj1 := hrj.below (w' := wr.alloc (.cells #[.string long] 22)) ((Below.refl _ _).alloc (Nat.le_refl _) _)
          have hll : ((l ++ List.replicate j long).map Value.string).length = (k + j) * 1 := by rw [List.length_map, List.length_append, List.length_replicate, Hl.out, Nat.mul_one]
          have HLL := Lib.hid hll
          clear hll hrd1
          rcases A' with _ | ad
          · obtain ⟨z1, z2⟩ := HJN.out rfl
            obtain rfl : k = 0 := by omega
            obtain rfl : j = 0 := by omega
            subst z2
            go_wp2_with (at_builtin; go_loud (refine wpList_append_grows _ rfl _ _ _ rfl 22 i0 _ 1 16 Tryd.underlying45 hi hz0 hz1 hz2 rfl (by omega) none 0 0 [] rfl (fun _ => ⟨rfl, rfl⟩) rfl (fun b hb => by cases hb) ⟨wr.heap.size, 0, none⟩ 1 1 [.string long] rfl rfl (World.news_of_block (cs := #[.string long]) (t := 22) (fr := (0, 0)) (heap_alloc_new wr _)) (by simp [Value.oneCell']) (by omega) (by unfold maxLen; omega) (by omega) ?_))
            intro v2 w2 hown2 hg2
            obtain ⟨A2, c2', rfl⟩ := own_form hown2
            obtain ⟨hc2, hn2⟩ := own_cap hown2
            have hrd2 := Rd.of_own hown2
            have hl0 : l = [] := List.eq_nil_of_length_eq_zero Hl.out
            have HL0 := Lib.hid hl0
            have hbn : Below w1.heap.size w1 w2 := (hbj.alloc hsj _).grown hg2 (by simp; omega) (fun k e => by cases e)
            have HN2 := Lib.hid hn2
            clear hl0 hn2
            go_wp2_with fail
            go_roundw
            case rel =>
              have hrd3 : Rd w2 w2.heap.size A2 ((l ++ List.replicate 1 long).map Value.string) := by rw [HL0.out]; exact hrd2
              first | exact ⟨1, A2, c2', by omega, by go_num, by go_num, hc2, HN2.out, hrd3, hbn⟩ | ((repeat apply Exists.intro); exact ⟨⟨1, A2, c2', by omega, by go_num, by go_num, hc2, HN2.out, hrd3, hbn⟩, rfl⟩)
            case measure => simp [intOf]; omega
          · go_wp2_with (at_builtin; go_loud (refine wpList_append_grows _ rfl _ _ _ rfl 22 i0 _ 1 16 Tryd.underlying45 hi hz0 hz1 hz2 rfl (by omega) (some ad) (k + j) (k + j) ((l ++ List.replicate j long).map Value.string) rfl (fun h => by cases h) HLL.out (fun b hb i u hu => by cases hb; obtain ⟨_, he, _, hc⟩ := hrj1 i u hu; cases he; exact hc) ⟨wr.heap.size, 0, none⟩ 1 1 [.string long] rfl rfl (World.news_of_block (cs := #[.string long]) (t := 22) (fr := (0, 0)) (heap_alloc_new wr _)) (by simp [Value.oneCell']) (by omega) (by unfold maxLen; omega) (by omega) ?_))
            intro v2 w2 hown2 hg2
            obtain ⟨A2, c2', rfl⟩ := own_form hown2
            obtain ⟨hc2, hn2⟩ := own_cap hown2
            have hrd2 := Rd.of_own hown2
            have hbn : Below w1.heap.size w1 w2 := (hbj.alloc hsj _).grown hg2 (by simp; omega) (fun k e => by cases e)
            have HN2 := Lib.hid hn2
            clear hn2
            go_wp2_with fail
            go_roundw
            case rel =>
              refine ⟨j + 1, A2, c2', by omega, by go_num, rfl, hc2, HN2.out, ?_, hbn⟩
              rw [rep_snoc, List.map_append, List.map_replicate, List.append_assoc]
              exact hrd2
            case measure => simp [intOf]; omega
        · have hmj : ¬ ((j : Int) < many) := by have := HM.out; omega
          have hs4 : ∀ s ∈ l ++ List.replicate j long, s.size ≤ 4000 := by
            intro s hs
            rcases List.mem_append.1 hs with h | h
            · have h1 := totS_mem h
              have h2 := HTS.out
              omega
            · have := List.eq_of_mem_replicate h
              subst this
              omega
          have htu : (totU (l ++ List.replicate j long)).length ≤ 1048576 := by
            have h1 := totU_size (l ++ List.replicate j long)
            rw [totS_append, totS_rep, HTS.out] at h1
            have h3 : j * long.size ≤ 200 * 2000 := Nat.mul_le_mul (by omega) (by omega)
            omega
          have hll : (l ++ List.replicate j long).length = k + j := by rw [List.length_append, List.length_replicate, Hl.out]
          have f1 := fun w h => unitsJoin_any (l ++ List.replicate j long) A' (k + j) c' w h hll (by omega) hs4
          have f2 := fun w h => refJoin_any (l ++ List.replicate j long) A' (k + j) c' w h hll (by omega) hs4 htu
          obtain ⟨x, y, hxy⟩ := joinR_form (l ++ List.replicate j long)
          rw [hxy] at f1 f2
          clear hxy hll htu hs4 hrd1
          go_wp2_with fail
          refine (f1 _ hrj).mono ?_
          rintro e w2 ⟨rfl, b2⟩
          simp only
          go_wp2_with fail
          refine (f2 _ ((hrj.below b2).more b2.size)).mono ?_
          rintro e w3 ⟨rfl, b3⟩
          simp only
          go_wp2_with fail
          go_ret
          exact ⟨rfl, b1.trans ((hbj.trans ((b2.trans (b3.mono b2.size)).mono hbj.size)).mono b1.size)⟩
end Go.Proofs.YthmdlnmbjgokaaaDoor
