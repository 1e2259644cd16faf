/- The walks of lintelref01.Find, Last. -/
import Derived.Test.YthmdlnmbjgokaaaDoorUFind
namespace Go.Proofs.YthmdlnmbjgokaaaDoor
open Go.RowKit
set_option maxHeartbeats 4000000
set_option maxRecDepth 100000

theorem findR_nil (s t : ByteArray) (f : Int) (h : t.size / 2 = 0) : findR s t f = clampI f ((s.size / 2 : Nat) : Int) := by
  unfold findR
  by_cases hf : ((s.size / 2 : Nat) : Int) < f
  · rw [if_pos hf, if_pos h]
    unfold clampI imin imax
    repeat' split
    all_goals omega
  · rw [if_neg hf, U_nil t h]
    obtain ⟨k0, hk0⟩ : ∃ k0 : Nat, imax f 0 = k0 := ⟨(imax f 0).toNat, by unfold imax; split <;> omega⟩
    have hk1 : k0 ≤ s.size / 2 := by unfold imax at hk0; split at hk0 <;> omega
    rw [hk0, Int.toNat_natCast, fnd_step _ _ _ (by omega), if_pos (st_nil _ _)]
    unfold clampI
    rw [hk0]
    unfold imin
    split
    · omega
    · rfl
theorem findR_one (s t : ByteArray) (f : Int) (h : t.size / 2 ≠ 0) : findR s t f = fnd (stU (U s) (U t)) (s.size / 2 - (imax f 0).toNat) (imax f 0).toNat := by
  unfold findR
  by_cases hf : ((s.size / 2 : Nat) : Int) < f
  · rw [if_pos hf, if_neg h, fnd_none]
    unfold imax
    split <;> omega
  · rw [if_neg hf]
    obtain ⟨k0, hk0⟩ : ∃ k0 : Nat, imax f 0 = k0 := ⟨(imax f 0).toNat, by unfold imax; split <;> omega⟩
    have hk1 : k0 ≤ s.size / 2 := by unfold imax at hk0; split at hk0 <;> omega
    rw [hk0, Int.toNat_natCast, show s.size / 2 + 1 - k0 = (s.size / 2 - k0) + 1 by omega]
    exact fnd_last _ _ _ (st_end _ _ (U_ne t h) _ (by rw [U_length]; omega))

theorem reffind_any (s t : ByteArray) (f : Int) (w : World) (hs : s.size ≤ 1048576) (ht : t.size ≤ 1048576) :
    Calls Tryd.prog 33 #[.string s, .string t, .int .i64 f] w fun e w' => e = .returned (.int .i64 (findR s t f)) ∧ Below w.heap.size w w' := by
  obtain ⟨N, hN⟩ : ∃ n, n = s.size / 2 := ⟨_, rfl⟩
  obtain ⟨M, hM⟩ : ∃ n, n = t.size / 2 := ⟨_, rfl⟩
  have hnil := findR_nil s t f
  have hone := findR_one s t f
  have hcl := clamp_any f ((N : Nat) : Int)
  obtain ⟨p, hp⟩ : ∃ p, stU (U s) (U t) = p := ⟨_, rfl⟩
  rw [hp] at hone
  obtain ⟨R, hR⟩ : ∃ R, findR s t f = R := ⟨_, rfl⟩
  rw [hR] at hnil hone ⊢
  rw [← hM, ← hN] at hnil hone
  have hN1 : N ≤ 524288 := by omega
  have hM1 : M ≤ 524288 := by omega
  have HN := Lib.hid hN
  have HM := Lib.hid hM
  have HP := Lib.hid hp
  have HNIL := Lib.hid hnil
  have HONE := Lib.hid hone
  clear hnil hone hR hp
  go_enter Tryd.func33, Tryd.ntmps33
  go_wp2_with fail
  refine (units_any s _ hs).mono ?_
  rintro e w1 ⟨v1, rfl, hown1, hb1⟩
  have hown1 : w1.ownsRow w.heap.size 54 1 v1 (s.size / 2) ((U s).map (Value.int .u16)) := hown1
  rw [← hN] at hown1
  clear hN
  obtain ⟨A, c, rfl⟩ := own_form hown1
  have hrd1 := Rd.of_own hown1
  simp only
  go_wp2_with fail
  refine (units_any t _ ht).mono ?_
  rintro e w2 ⟨v2, rfl, hown2, hb2⟩
  have hown2 : w2.ownsRow w1.heap.size 54 1 v2 (t.size / 2) ((U t).map (Value.int .u16)) := hown2
  rw [← hM] at hown2
  clear hM
  obtain ⟨A', c', rfl⟩ := own_form hown2
  have hrd2 := Rd.of_own hown2
  have hrd1 := (hrd1.below hb2).more hb2.size
  have hb12 : Below w.heap.size w w2 := hb1.trans (hb2.mono hb1.size)
  clear hown1 hown2
  simp only
  by_cases hz : M = 0
  · obtain rfl := HNIL.out hz
    subst hz
    go_wp2_with fail
    refine (hcl _ (by omega)).mono ?_
    rintro e w3 ⟨rfl, rfl⟩
    simp only
    go_wp2_with fail
    go_ret
    exact ⟨rfl, hb12⟩
  · have hone := HONE.out hz
    have hz2 : ¬ ((M : Int) = 0) := by omega
    have key : ∀ (k0 : Nat), (imax f 0).toNat = k0 → fnd p (N - k0) k0 = R := fun k0 h => by rw [hone, h]
    have KEY := Lib.hid key
    clear hone key
    by_cases hf : f < 0
    · have hk0 : (imax f 0).toNat = 0 := by unfold imax; split <;> omega
      have HK := Lib.hid hk0
      clear hk0
      go_wp2_with fail
      go_loopw [9] (fun j wr => ∃ k : Nat, j = .int .i64 k ∧ Below w2.heap.size w2 wr ∧ fnd p (N - k) k = R)
        (fun j _ => N - (intOf j).toNat)
      case atStart => exact ⟨0, rfl, Below.refl _ _, KEY.out 0 HK.out⟩
      case round =>
        obtain ⟨k, rfl, hbr, hfn⟩ := hrel
        have HFN := Lib.hid hfn
        clear hfn
        by_cases hlt : k < N
        · have HST := Lib.hid (fnd_step p N k hlt)
          have r1 := (hrd1.below hbr).more hbr.size
          have r2 := (hrd2.below hbr).more hbr.size
          go_wp2_with fail
          refine (refstands_any (U s) (U t) A A' N M c c' k _ r1 r2 (by rw [U_length, HN.out]) (by rw [U_length, HM.out]) (by omega) (by omega) (by omega) (U_ok s) (U_ok t)).mono ?_
          rintro e w3 ⟨rfl, b3⟩
          rw [HP.out]
          have hbr3 := hbr.trans (b3.mono hbr.size)
          simp only
          cases hpk : p k with
          | true =>
            go_wp2_with fail
            go_ret
            refine ⟨?_, hb12.trans (hbr3.mono hb12.size)⟩
            rw [← HFN.out, HST.out, if_pos hpk]
            rfl
          | false =>
            go_wp2_with fail
            go_roundw
            case rel =>
              have RR : fnd p (N - (k + 1)) (k + 1) = R := by rw [← HFN.out, HST.out, hpk]; rfl
              exact ⟨k + 1, by go_num, hbr3, RR⟩
            case measure => simp [intOf]; omega
        · go_wp2_with fail
          go_ret
          refine ⟨?_, hb12.trans (hbr.mono hb12.size)⟩
          rw [← HFN.out, fnd_none _ _ _ (by omega)]
          rfl
    · obtain ⟨k0, rfl⟩ : ∃ k0 : Nat, f = k0 := ⟨f.toNat, by omega⟩
      have hk0 : (imax (k0 : Int) 0).toNat = k0 := by unfold imax; split <;> omega
      have HK := Lib.hid hk0
      clear hk0
      go_wp2_with fail
      go_loopw [9] (fun j wr => ∃ k : Nat, j = .int .i64 k ∧ Below w2.heap.size w2 wr ∧ fnd p (N - k) k = R)
        (fun j _ => N - (intOf j).toNat)
      case atStart => exact ⟨k0, rfl, Below.refl _ _, KEY.out k0 HK.out⟩
      case round =>
        obtain ⟨k, rfl, hbr, hfn⟩ := hrel
        have HFN := Lib.hid hfn
        clear hfn
        by_cases hlt : k < N
        · have HST := Lib.hid (fnd_step p N k hlt)
          have r1 := (hrd1.below hbr).more hbr.size
          have r2 := (hrd2.below hbr).more hbr.size
          go_wp2_with fail
          refine (refstands_any (U s) (U t) A A' N M c c' k _ r1 r2 (by rw [U_length, HN.out]) (by rw [U_length, HM.out]) (by omega) (by omega) (by omega) (U_ok s) (U_ok t)).mono ?_
          rintro e w3 ⟨rfl, b3⟩
          rw [HP.out]
          have hbr3 := hbr.trans (b3.mono hbr.size)
          simp only
          cases hpk : p k with
          | true =>
            go_wp2_with fail
            go_ret
            refine ⟨?_, hb12.trans (hbr3.mono hb12.size)⟩
            rw [← HFN.out, HST.out, if_pos hpk]
            rfl
          | false =>
            go_wp2_with fail
            go_roundw
            case rel =>
              have RR : fnd p (N - (k + 1)) (k + 1) = R := by rw [← HFN.out, HST.out, hpk]; rfl
              exact ⟨k + 1, by go_num, hbr3, RR⟩
            case measure => simp [intOf]; omega
        · go_wp2_with fail
          go_ret
          refine ⟨?_, hb12.trans (hbr.mono hb12.size)⟩
          rw [← HFN.out, fnd_none _ _ _ (by omega)]
          rfl

theorem reflast_any (s t : ByteArray) (f : Int) (w : World) (hs : s.size ≤ 1048576) (ht : t.size ≤ 1048576) :
    Calls Tryd.prog 35 #[.string s, .string t, .int .i64 f] w fun e w' => e = .returned (.int .i64 (lastR s t f)) ∧ Below w.heap.size w w' := by
  obtain ⟨N, hN⟩ : ∃ n, n = s.size / 2 := ⟨_, rfl⟩
  obtain ⟨M, hM⟩ : ∃ n, n = t.size / 2 := ⟨_, rfl⟩
  unfold lastR
  rw [← hN]
  obtain ⟨p, hp⟩ : ∃ p, stU (U s) (U t) = p := ⟨_, rfl⟩
  rw [hp]
  obtain ⟨k0, hk0⟩ : ∃ k0 : Nat, (imin f (N : Int) + 1).toNat = k0 := ⟨_, rfl⟩
  obtain ⟨R, hR⟩ : ∃ R, lst p k0 = R := ⟨_, rfl⟩
  rw [hk0, hR]
  have hN1 : N ≤ 524288 := by omega
  have hM1 : M ≤ 524288 := by omega
  have HR := Lib.hid hR
  have HN := Lib.hid hN
  have HM := Lib.hid hM
  have HP := Lib.hid hp
  have HK0 := Lib.hid hk0
  clear hR hp hk0
  go_enter Tryd.func35, Tryd.ntmps35
  go_wp2_with fail
  refine (units_any s _ hs).mono ?_
  rintro e w1 ⟨v1, rfl, hown1, hb1⟩
  have hown1 : w1.ownsRow w.heap.size 54 1 v1 (s.size / 2) ((U s).map (Value.int .u16)) := hown1
  rw [← hN] at hown1
  clear hN
  obtain ⟨A, c, rfl⟩ := own_form hown1
  have hrd1 := Rd.of_own hown1
  simp only
  go_wp2_with fail
  refine (units_any t _ ht).mono ?_
  rintro e w2 ⟨v2, rfl, hown2, hb2⟩
  have hown2 : w2.ownsRow w1.heap.size 54 1 v2 (t.size / 2) ((U t).map (Value.int .u16)) := hown2
  rw [← hM] at hown2
  clear hM
  obtain ⟨A', c', rfl⟩ := own_form hown2
  have hrd2 := Rd.of_own hown2
  have hrd1 := (hrd1.below hb2).more hb2.size
  have hb12 : Below w.heap.size w w2 := hb1.trans (hb2.mono hb1.size)
  clear hown1 hown2
  simp only
  by_cases hf : (N : Int) < f
  · have HIM : Hid (imin f (N : Int) = N) := Lib.hid (by unfold imin; split <;> omega)
    go_wp2_with fail
    go_loopw [9] (fun j wr => ∃ k : Nat, k ≤ N + 1 ∧ (j = .int .i64 ((k : Int) - 1) ∨ (k = 0 ∧ ∃ g : Int, g < 0 ∧ j = .int .i64 g)) ∧ Below w2.heap.size w2 wr ∧ lst p k = R)
      (fun j _ => (intOf j + 1).toNat)
    case atStart =>
      have hk := HK0.out
      have HI := HIM.out
      rw [HI] at hk
      refine ⟨k0, by omega, ?_, Below.refl _ _, HR.out⟩
      first | exact .inl (by congr 1; omega) | exact (if h0 : f < 0 then .inr ⟨by omega, f, h0, rfl⟩ else .inl (by congr 1; omega))
    case round =>
      obtain ⟨k, hk, hj, hbr, hfn⟩ := hrel
      have HFN := Lib.hid hfn
      clear hfn
      rcases hj with rfl | ⟨rfl, g1, hg1, rfl⟩
      · cases k with
        | succ k =>
          have e1 : ((k + 1 : Nat) : Int) - 1 = k := by omega
          rw [e1]
          have r1 := (hrd1.below hbr).more hbr.size
          have r2 := (hrd2.below hbr).more hbr.size
          go_wp2_with fail
          refine (refstands_any (U s) (U t) A A' N M c c' k _ r1 r2 (by rw [U_length, HN.out]) (by rw [U_length, HM.out]) (by omega) (by omega) (by omega) (U_ok s) (U_ok t)).mono ?_
          rintro e w3 ⟨rfl, b3⟩
          rw [HP.out]
          have hbr3 := hbr.trans (b3.mono hbr.size)
          simp only
          cases hpk : p k with
          | true =>
            go_wp2_with fail
            go_ret
            refine ⟨?_, hb12.trans (hbr3.mono hb12.size)⟩
            rw [← HFN.out, lst, if_pos hpk]
            rfl
          | false =>
            go_wp2_with fail
            go_roundw
            case rel =>
              have RR : lst p k = R := by rw [← HFN.out, lst, hpk]; rfl
              exact ⟨k, by omega, .inl (by go_num), hbr3, RR⟩
            case measure => simp [intOf] <;> omega
        | zero =>
          go_wp2_with fail
          go_ret
          refine ⟨?_, hb12.trans (hbr.mono hb12.size)⟩
          rw [← HFN.out]
          rfl
      · go_wp2_with fail
        go_ret
        refine ⟨?_, hb12.trans (hbr.mono hb12.size)⟩
        rw [← HFN.out]
        rfl
  · have HIM : Hid (imin f (N : Int) = f) := Lib.hid (by unfold imin; split <;> omega)
    go_wp2_with fail
    go_loopw [9] (fun j wr => ∃ k : Nat, k ≤ N + 1 ∧ (j = .int .i64 ((k : Int) - 1) ∨ (k = 0 ∧ ∃ g : Int, g < 0 ∧ j = .int .i64 g)) ∧ Below w2.heap.size w2 wr ∧ lst p k = R)
      (fun j _ => (intOf j + 1).toNat)
    case atStart =>
      have hk := HK0.out
      have HI := HIM.out
      rw [HI] at hk
      refine ⟨k0, by omega, ?_, Below.refl _ _, HR.out⟩
      first | exact .inl (by congr 1; omega) | exact (if h0 : f < 0 then .inr ⟨by omega, f, h0, rfl⟩ else .inl (by congr 1; omega))
    case round =>
      obtain ⟨k, hk, hj, hbr, hfn⟩ := hrel
      have HFN := Lib.hid hfn
      clear hfn
      rcases hj with rfl | ⟨rfl, g1, hg1, rfl⟩
      · cases k with
        | succ k =>
          have e1 : ((k + 1 : Nat) : Int) - 1 = k := by omega
          rw [e1]
          have r1 := (hrd1.below hbr).more hbr.size
          have r2 := (hrd2.below hbr).more hbr.size
          go_wp2_with fail
          refine (refstands_any (U s) (U t) A A' N M c c' k _ r1 r2 (by rw [U_length, HN.out]) (by rw [U_length, HM.out]) (by omega) (by omega) (by omega) (U_ok s) (U_ok t)).mono ?_
          rintro e w3 ⟨rfl, b3⟩
          rw [HP.out]
          have hbr3 := hbr.trans (b3.mono hbr.size)
          simp only
          cases hpk : p k with
          | true =>
            go_wp2_with fail
            go_ret
            refine ⟨?_, hb12.trans (hbr3.mono hb12.size)⟩
            rw [← HFN.out, lst, if_pos hpk]
            rfl
          | false =>
            go_wp2_with fail
            go_roundw
            case rel =>
              have RR : lst p k = R := by rw [← HFN.out, lst, hpk]; rfl
              exact ⟨k, by omega, .inl (by go_num), hbr3, RR⟩
            case measure => simp [intOf] <;> omega
        | zero =>
          go_wp2_with fail
          go_ret
          refine ⟨?_, hb12.trans (hbr.mono hb12.size)⟩
          rw [← HFN.out]
          rfl
      · go_wp2_with fail
        go_ret
        refine ⟨?_, hb12.trans (hbr.mono hb12.size)⟩
        rw [← HFN.out]
        rfl
end Go.Proofs.YthmdlnmbjgokaaaDoor
