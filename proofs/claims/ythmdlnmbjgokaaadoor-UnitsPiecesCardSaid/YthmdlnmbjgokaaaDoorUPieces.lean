/- The walk of UnitsPieces. -/
import Derived.Test.YthmdlnmbjgokaaaDoorUAwake
import Derived.Test.YthmdlnmbjgokaaaDoorURefCut
namespace Go.Proofs.YthmdlnmbjgokaaaDoor
open Go.RowKit
set_option maxHeartbeats 4000000
set_option maxRecDepth 100000

theorem pieces_any (s : ByteArray) (i f t : Int) (w : World) (hsm : s.size ≤ maxLen) (hT : Lib.Utf8Tabs 0 1 w) :
    Calls Tryd.prog 7 #[.string s, .int .i64 i, .int .i64 f, .int .i64 t] w fun e w' => e = .returned (.bool true) ∧ Below w.heap.size w w' := by
  have hs := hsm
  unfold maxLen at hs
  by_cases hsz : 4000 < s.size
  · go_enter Tryd.func7, Tryd.ntmps7
    go_wp2_with fail
    refine (awake_any _ hT).mono ?_
    rintro e w1 ⟨rfl, b1⟩
    simp only
    go_wp2_with fail
    go_ret
    exact ⟨rfl, b1⟩
  have hs : s.size ≤ 1048576 := by omega
  obtain ⟨N, hN⟩ : ∃ n, n = s.size / 2 := ⟨_, rfl⟩
  have hN1 : N ≤ 2000 := by omega
  have hN2 : (s.size : Int) / 2 = N := by omega
  have HN := Lib.hid hN
  have hmk := makeB_U s
  have HMK := Lib.hid hmk
  have h1 := fun w => unitsUnits_any s w hs
  have h2 := fun w => units_any s w hs
  have h3 := fun w => len_any s w hsm
  have h4 := fun w => evenD_any s w hsm
  have h5 := fun w => cut_any s f t w hsm
  have h6 := fun w => refcut_any s f t w hs
  obtain ⟨ev, hev⟩ : ∃ ev, evenB s = ev := ⟨_, rfl⟩
  obtain ⟨cu, hcu⟩ : ∃ cu, cutB s f t = cu := ⟨_, rfl⟩
  rw [hev] at h4 HMK
  rw [hcu] at h5 h6
  rw [← hN] at h1 h2
  rw [hN2] at h3
  clear hev hcu hmk hN
  go_enter Tryd.func7, Tryd.ntmps7
  go_wp2_with fail
  refine (awake_any _ hT).mono ?_
  rintro e w1 ⟨rfl, b1⟩
  simp only
  go_wp2_with fail
  refine (h1 _).mono ?_
  rintro e w2 ⟨v1, rfl, o1, b2⟩
  have b12 := b1.trans (b2.mono b1.size)
  simp only
  go_wp2_with fail
  refine (h2 _).mono ?_
  rintro e w3 ⟨v2, rfl, o2, b3⟩
  have o2 : w3.ownsRow w2.heap.size 54 1 v2 N ((U s).map (Value.int .u16)) := by unfold U; rw [← HN.out]; exact o2
  have b13 := b12.trans (b3.mono b12.size)
  obtain ⟨A, c, rfl⟩ := own_form o1
  obtain ⟨A', c', rfl⟩ := own_form o2
  have r1 := ((Rd.of_own o1).below b3).more b3.size
  have r2 := Rd.of_own o2
  clear o1 o2
  simp only
  go_wp2_with fail
  refine (h3 _).mono ?_
  rintro e w4 ⟨rfl, rfl⟩
  simp only
  go_wp2_with fail
  refine (makeUnits_any (U s) A' N c' _ r2 (by rw [U_length, HN.out]) (U_ok s) (by omega)).mono ?_
  rintro e w4 ⟨rfl, b4⟩
  rw [HMK.out]
  have b34 := b4
  simp only
  go_wp2_with fail
  refine (h4 _).mono ?_
  rintro e w5 ⟨rfl, rfl⟩
  simp only
  go_wp2_with fail
  refine (h5 _).mono ?_
  rintro e w5 ⟨rfl, rfl⟩
  simp only
  go_wp2_with fail
  refine (h6 _).mono ?_
  rintro e w5 ⟨rfl, b5⟩
  have b35 := b34.trans (b5.mono b34.size)
  simp only
  go_wp2_with fail
  go_loopw [55] (fun j wr => ∃ k : Nat, k ≤ N ∧ j = .int .i64 k ∧ Below w3.heap.size w3 wr)
    (fun j _ => N - (intOf j).toNat)
  case atStart => exact ⟨0, Nat.zero_le _, rfl, b35⟩
  case round =>
    obtain ⟨k, hk, rfl, hbr⟩ := hrel
    by_cases hlt : k < N
    · obtain ⟨u, hu⟩ : ∃ u, (U s)[k]? = some u := ⟨_, U_get s k (by have := HN.out; omega)⟩
      have q1 := r1.below hbr
      have q2 := r2.below hbr
      obtain ⟨ad, rfl, _, c1⟩ := q1.at_ (k := k) (u := .int .u16 u) (by rw [List.getElem?_map, hu]; rfl)
      obtain ⟨ad', rfl, _, c2⟩ := q2.at_ (k := k) (u := .int .u16 u) (by rw [List.getElem?_map, hu]; rfl)
      clear q1 q2 hu
      go_wp2_with fail
      refine wp_region_lin (fun w' => w' = wr.drew) [] (.block 0 (.block 1 (.block 2 (.block 3 (.block 4 (.block 5 (.block 6 (.block 7 (.block 8 (.skip)))))))))) (by kernel_rfl) (by kernel_rfl) (by kernel_rfl) (by kernel_rfl) (by kernel_rfl) rfl ?_
      repeat
        (refine lin_light (A1 := ?_) rfl rfl rfl rfl rfl (fun w' hS K hK => ?_) ?_ ?_
         rotate_left
         · obtain rfl := hS; go_step; exact hK
         · rfl)
      refine lin_end ?_
      go_wp2_with fail
      go_roundw
      case rel => first | exact ⟨k + 1, by omega, by go_num, hbr.drew⟩ | ((repeat apply Exists.intro); exact ⟨⟨k + 1, by omega, by go_num, hbr.drew⟩, rfl⟩)
      case measure => simp [intOf]; omega
    · by_cases hi0 : i < 0
      · have HAT : Hid ((if 0 ≤ i ∧ i < (s.size : Int) / 2 then #[Value.int .u16 (unitAt s i.toNat), .bool true] else #[.int .u16 0, .bool false]) = #[.int .u16 0, .bool false]) := Lib.hid (if_neg (by omega))
        have hbz : Below w.heap.size w wr := b13.trans (hbr.mono b13.size)
        go_wp2_with fail
        refine (at_any s i _ hsm).mono ?_
        rintro e w6 ⟨rfl, b6⟩
        rw [HAT.out]
        have hbz6 := hbz.trans (b6.mono hbz.size)
        simp only
        go_wp2_with fail
        go_ret
        exact ⟨rfl, hbz6⟩
      · by_cases hi1 : (N : Int) ≤ i
        · have HAT : Hid ((if 0 ≤ i ∧ i < (s.size : Int) / 2 then #[Value.int .u16 (unitAt s i.toNat), .bool true] else #[.int .u16 0, .bool false]) = #[.int .u16 0, .bool false]) := Lib.hid (if_neg (by omega))
          have hbz : Below w.heap.size w wr := b13.trans (hbr.mono b13.size)
          go_wp2_with fail
          refine (at_any s i _ hsm).mono ?_
          rintro e w6 ⟨rfl, b6⟩
          rw [HAT.out]
          have hbz6 := hbz.trans (b6.mono hbz.size)
          simp only
          go_wp2_with fail
          go_ret
          exact ⟨rfl, hbz6⟩
        · obtain ⟨m, rfl⟩ : ∃ m : Nat, i = m := ⟨i.toNat, by omega⟩
          have hgetm := U_get s m (by have := HN.out; omega)
          obtain ⟨u, hu⟩ : ∃ u, unitAt s m = u := ⟨_, rfl⟩
          rw [hu] at hgetm
          have HAT : Hid ((if 0 ≤ (m : Int) ∧ (m : Int) < (s.size : Int) / 2 then #[Value.int .u16 (unitAt s (m : Int).toNat), .bool true] else #[.int .u16 0, .bool false]) = #[.int .u16 u, .bool true]) := Lib.hid (by rw [if_pos (by omega), Int.toNat_natCast, hu])
          have q2 := r2.below hbr
          obtain ⟨ad', rfl, hadl, c2⟩ := q2.at_ (k := m) (u := .int .u16 u) (by rw [List.getElem?_map, hgetm]; rfl)
          clear q2 hgetm hu
          have hbz : Below w.heap.size w wr := b13.trans (hbr.mono b13.size)
          have hsz3 := hbr.size
          go_wp2_with fail
          refine (at_any s m _ hsm).mono ?_
          rintro e w6 ⟨rfl, b6⟩
          rw [HAT.out]
          have hbz6 := hbz.trans (b6.mono hbz.size)
          have c3 : w6.cell? (ad'.add m) = some (.int .u16 u) := (b6.cell (World.block_lt_of_cell? _ _ c2)).trans c2
          simp only
          clear c2
          go_wp2_with fail
          go_ret
          exact ⟨rfl, hbz6⟩
end Go.Proofs.YthmdlnmbjgokaaaDoor
