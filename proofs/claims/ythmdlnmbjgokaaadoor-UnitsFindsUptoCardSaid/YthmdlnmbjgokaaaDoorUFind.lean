/- The walks of units.stands, Find, Last and lintelref01.stands, Find, Last. -/
import Derived.Test.YthmdlnmbjgokaaaDoorULawD
import Derived.Test.YthmdlnmbjgokaaaDoorURefCut
namespace Go.Proofs.YthmdlnmbjgokaaaDoor
open Go.RowKit
set_option maxHeartbeats 4000000
set_option maxRecDepth 100000
attribute [local go_sem ↓] run_max_named run_min_named

theorem stands_any (s t : ByteArray) (i : Nat) (w : World) (hs : s.size ≤ 1048576) (hi : i ≤ s.size / 2) :
    Calls Tryd.prog 48 #[.string (evenB s), .string (evenB t), .int .i64 i] w fun e w' => e = .returned (.bool (stU (U s) (U t) i)) ∧ w = w' := by
  have hes := evenB_size s
  have h := stands_eq s t i hi
  obtain ⟨a, ha⟩ : ∃ a, evenB s = a := ⟨_, rfl⟩
  obtain ⟨r, hr⟩ : ∃ r, stU (U s) (U t) i = r := ⟨_, rfl⟩
  rw [ha] at hes h ⊢
  rw [hr] at h ⊢
  have hle : 2 * i ≤ a.size := by omega
  have hle2 : 2 * (i : Int) ≤ (a.size : Int) := by omega
  have hmx : (a.size : Int) ≤ 1048576 := by omega
  have H := Lib.hid h
  clear hr ha hes h
  go_enter Tryd.func48, Tryd.ntmps48
  go_wp2_with fail
  refine (Tryd.strings_HasPrefix _ _ _).mono ?_
  rintro e w1 ⟨rfl, rfl⟩
  simp only
  go_wp2_with fail
  go_ret
  refine ⟨?_, rfl⟩
  rw [← H.out]
  first | rfl | (congr 1; done) | skip

theorem refstands_any (us vs : List Int) (A A' : Option Addr) (n m c c' i : Nat) (w : World) (h1 : Rd w w.heap.size A (us.map (Value.int .u16))) (h2 : Rd w w.heap.size A' (vs.map (Value.int .u16))) (hn : us.length = n) (hm : vs.length = m) (hn1 : n ≤ 1048576) (hm1 : m ≤ 1048576) (hi : i ≤ n) (hu : okU us) (hv : okU vs) :
    Calls Tryd.prog 49 #[.slice A n c, .slice A' m c', .int .i64 i] w fun e w' => e = .returned (.bool (stU us vs i)) ∧ Below w.heap.size w w' := by
  by_cases hlong : n < i + m
  · have hsh := st_short us vs i (by omega) (by omega)
    rw [hsh]
    have hl2 : (n : Int) < i + m := by omega
    go_enter Tryd.func49, Tryd.ntmps49
    go_wp2_with fail
    go_ret
    exact ⟨rfl, Below.refl _ _⟩
  have hl2 : ¬ ((n : Int) < i + m) := by omega
  obtain ⟨r, hr⟩ : ∃ r, stU us vs i = r := ⟨_, rfl⟩
  rw [hr]
  have HR := Lib.hid hr
  have Hn := Lib.hid hn
  have Hm := Lib.hid hm
  clear hn hm hr
  go_enter Tryd.func49, Tryd.ntmps49
  go_wp2_with fail
  go_loopw [17] (fun j wr => ∃ k : Nat, k ≤ m ∧ j = .int .i64 k ∧ Below w.heap.size w wr ∧ (vs.drop k).isPrefixOf (us.drop (i + k)) = r)
    (fun j _ => m - (intOf j).toNat)
  case atStart => exact ⟨0, Nat.zero_le _, rfl, Below.refl _ _, HR.out⟩
  case round =>
    obtain ⟨k, hk, rfl, hbr, hst⟩ := hrel
    have HST := Lib.hid hst
    clear hst
    by_cases hlt : k < m
    · obtain ⟨b, hb⟩ : ∃ b, vs[k]? = some b := ⟨vs[k]'(by have := Hm.out; omega), List.getElem?_eq_getElem _⟩
      obtain ⟨a, ha⟩ : ∃ a, us[i + k]? = some a := ⟨us[i + k]'(by have := Hn.out; omega), List.getElem?_eq_getElem _⟩
      have hab := hu a (List.mem_of_getElem? ha)
      have hbb := hv b (List.mem_of_getElem? hb)
      have r1 := h1.below hbr
      have r2 := h2.below hbr
      obtain ⟨ad, rfl, _, c1⟩ := r1.at_ (k := i + k) (u := .int .u16 a) (by rw [List.getElem?_map, ha]; rfl)
      obtain ⟨ad', rfl, _, c2⟩ := r2.at_ (k := k) (u := .int .u16 b) (by rw [List.getElem?_map, hb]; rfl)
      have HSTEP := Lib.hid (st_step us vs i k a b ha hb)
      have hik : (i : Int) + k < n := by omega
      have tk1 : ((i : Int) + (k : Int)).toNat = i + k := by omega
      clear r1 r2 ha hb
      go_wp2_with fail
      refine wp_region_lin (fun w' => w' = wr.drew) [] (.block 0 (.block 1 (.block 2 (.block 3 (.block 4 (.block 5 (.block 6 (.block 7 (.block 8 (.block 9 (.block 10 (.skip)))))))))))) (by kernel_rfl) (by kernel_rfl) (by kernel_rfl) (by kernel_rfl) (by kernel_rfl) rfl ?_
      repeat
        (refine lin_light (A1 := ?_) rfl rfl rfl rfl rfl (fun w' hS K hK => ?_) ?_ ?_
         rotate_left
         · obtain rfl := hS; go_step; exact hK
         · rfl)
      refine lin_end ?_
      by_cases g : a = b
      · subst g
        go_wp2_with fail
        go_roundw
        case rel =>
          have R : ((vs.drop (k + 1)).isPrefixOf (us.drop (i + (k + 1)))) = r := by have := HSTEP.out; rw [HST.out] at this; rw [this]; simp
          first | exact ⟨k + 1, by omega, by go_num, hbr.drew, R⟩ | ((repeat apply Exists.intro); exact ⟨⟨k + 1, by omega, by go_num, hbr.drew, R⟩, rfl⟩)
        case measure => simp [intOf]; omega
      · have g2 : (a != b) = true := by simp [bne, g]
        go_wp2_with fail
        go_ret
        refine ⟨?_, hbr.drew⟩
        rw [← HST.out, HSTEP.out, show (b == a) = false by simpa using (fun h : b = a => g h.symm)]
        rfl
    · obtain rfl : k = m := by omega
      go_wp2_with fail
      go_ret
      refine ⟨?_, hbr⟩
      rw [← HST.out, st_done _ _ _ _ (by have := Hm.out; omega)]
      rfl

theorem find_any (s t : ByteArray) (f : Int) (w : World) (hs : s.size ≤ 1048576) (ht : t.size ≤ 1048576) :
    Calls Tryd.prog 32 #[.string s, .string t, .int .i64 f] w fun e w' => e = .returned (.int .i64 (findR s t f)) ∧ Below w.heap.size w w' := by
  obtain ⟨N, hN⟩ : ∃ n, n = s.size / 2 := ⟨_, rfl⟩
  have hes : (evenB s).size = N * 2 := by rw [evenB_size, hN]
  have hes2 : ((evenB s).size : Int) / 2 = N := by omega
  have hemp : ∀ ty, binOp .eql ty (.string (evenB t)) (.string ⟨#[]⟩) = pure (.bool (decide (t.size / 2 = 0))) := fun ty => by
    rw [binOp_string_eql]
    congr 2
    have e1 : (evenB t).toList = (evenB t).data.toList := ByteArray.toList_eq _
    have e2 : (⟨#[]⟩ : ByteArray).toList = [] := by rw [ByteArray.toList_eq]
    rw [e1, e2, Bool.eq_iff_iff, beq_iff_eq, decide_eq_true_eq]
    have e3 := evenB_size t
    constructor
    · intro h
      have h4 := congrArg List.length h
      rw [Array.length_toList] at h4
      have h5 : (evenB t).size = 0 := h4
      omega
    · intro h
      apply List.eq_nil_of_length_eq_zero
      rw [Array.length_toList]
      show (evenB t).size = 0
      omega
  have hst := fun i w hi => stands_any s t i w hs hi
  unfold findR
  rw [← hN] at hst ⊢
  obtain ⟨p, hp⟩ : ∃ p, stU (U s) (U t) = p := ⟨_, rfl⟩
  rw [hp] at hst ⊢
  obtain ⟨z, hz⟩ : ∃ z, (t.size / 2 = 0) = z := ⟨_, rfl⟩
  have hN1 : N ≤ 524288 := by omega
  have hsm : s.size ≤ maxLen := by unfold maxLen; omega
  have htm : t.size ≤ maxLen := by unfold maxLen; omega
  clear hp hN hes
  by_cases hf : (N : Int) < f
  · rw [if_pos hf]
    by_cases hz : t.size / 2 = 0
    · rw [if_pos hz]
      simp only [hz, decide_true] at hemp
      go_enter Tryd.func32, Tryd.ntmps32
      go_wp2_with fail
      refine (even_any s _ hsm).mono ?_
      rintro e w1 ⟨rfl, rfl⟩
      simp only
      go_wp2_with fail
      refine (even_any t _ htm).mono ?_
      rintro e w1 ⟨rfl, rfl⟩
      simp only
      go_wp2_with fail
      go_ret
      exact ⟨rfl, Below.refl _ _⟩
    · rw [if_neg hz]
      simp only [hz, decide_false] at hemp
      go_enter Tryd.func32, Tryd.ntmps32
      go_wp2_with fail
      refine (even_any s _ hsm).mono ?_
      rintro e w1 ⟨rfl, rfl⟩
      simp only
      go_wp2_with fail
      refine (even_any t _ htm).mono ?_
      rintro e w1 ⟨rfl, rfl⟩
      simp only
      go_wp2_with fail
      go_ret
      exact ⟨rfl, Below.refl _ _⟩
  · rw [if_neg hf]
    obtain ⟨k0, hk0⟩ : ∃ k0 : Nat, imax f 0 = k0 := ⟨(imax f 0).toNat, by unfold imax; split <;> omega⟩
    have hk1 : k0 ≤ N := by unfold imax at hk0; split at hk0 <;> omega
    rw [hk0, Int.toNat_natCast]
    obtain ⟨R, hR⟩ : ∃ R, fnd p (N + 1 - k0) k0 = R := ⟨_, rfl⟩
    rw [hR]
    have HR := Lib.hid hR
    clear hR hemp
    go_enter Tryd.func32, Tryd.ntmps32
    go_wp2_with fail
    refine (even_any s _ hsm).mono ?_
    rintro e w1 ⟨rfl, rfl⟩
    simp only
    go_wp2_with fail
    refine (even_any t _ htm).mono ?_
    rintro e w1 ⟨rfl, rfl⟩
    simp only
    go_wp2_with fail
    go_loopw [10] (fun j wr => ∃ k : Nat, k ≤ N + 1 ∧ j = .int .i64 k ∧ wr = w1 ∧ fnd p (N + 1 - k) k = R)
      (fun j _ => N + 1 - (intOf j).toNat)
    case atStart => exact ⟨k0, by omega, rfl, rfl, HR.out⟩
    case round =>
      obtain ⟨k, hk, rfl, rfl, hfn⟩ := hrel
      have HFN := Lib.hid hfn
      clear hfn
      by_cases hlt : k < N + 1
      · have hle : (k : Int) ≤ N := by omega
        have HST := Lib.hid (fnd_step p (N + 1) k hlt)
        go_wp2_with fail
        refine (hst k _ (by omega)).mono ?_
        rintro e w2 ⟨rfl, rfl⟩
        simp only
        cases hpk : p k with
        | true =>
          go_wp2_with fail
          go_ret
          refine ⟨?_, Below.refl _ _⟩
          rw [← HFN.out, HST.out, if_pos hpk]
          rfl
        | false =>
          go_wp2_with fail
          go_roundw
          case rel =>
            have RR : fnd p (N + 1 - (k + 1)) (k + 1) = R := by rw [← HFN.out, HST.out, hpk]; rfl
            exact ⟨k + 1, by omega, by go_num, trivial, RR⟩
          case measure => simp [intOf]; omega
      · have hgt : ¬ ((k : Int) ≤ N) := by omega
        go_wp2_with fail
        go_ret
        refine ⟨?_, Below.refl _ _⟩
        rw [← HFN.out, fnd_none _ _ _ (by omega)]
        rfl

theorem last_any (s t : ByteArray) (f : Int) (w : World) (hs : s.size ≤ 1048576) (ht : t.size ≤ 1048576) :
    Calls Tryd.prog 34 #[.string s, .string t, .int .i64 f] w fun e w' => e = .returned (.int .i64 (lastR s t f)) ∧ Below w.heap.size w w' := by
  obtain ⟨N, hN⟩ : ∃ n, n = s.size / 2 := ⟨_, rfl⟩
  have hes : (evenB s).size = N * 2 := by rw [evenB_size, hN]
  have hes2 : ((evenB s).size : Int) / 2 = N := by omega
  have hst := fun i w hi => stands_any s t i w hs hi
  unfold lastR
  rw [← hN] at hst ⊢
  obtain ⟨p, hp⟩ : ∃ p, stU (U s) (U t) = p := ⟨_, rfl⟩
  rw [hp] at hst ⊢
  have hN1 : N ≤ 524288 := by omega
  have hsm : s.size ≤ maxLen := by unfold maxLen; omega
  have htm : t.size ≤ maxLen := by unfold maxLen; omega
  clear hp hN hes
  obtain ⟨k0, hk0⟩ : ∃ k0 : Nat, (imin f (N : Int) + 1).toNat = k0 := ⟨_, rfl⟩
  obtain ⟨R, hR⟩ : ∃ R, lst p k0 = R := ⟨_, rfl⟩
  rw [hk0, hR]
  have HR := Lib.hid hR
  clear hR
  have hmn : imin f (N : Int) ≤ N := by unfold imin; split <;> omega
  obtain ⟨g, hg⟩ : ∃ g, imin f (N : Int) = g := ⟨_, rfl⟩
  have HK0 := Lib.hid hk0
  rw [hg] at hmn
  clear hk0
  go_enter Tryd.func34, Tryd.ntmps34
  go_wp2_with fail
  refine (even_any s _ hsm).mono ?_
  rintro e w1 ⟨rfl, rfl⟩
  simp only
  go_wp2_with fail
  refine (even_any t _ htm).mono ?_
  rintro e w1 ⟨rfl, rfl⟩
  simp only
  go_wp2_with fail
  go_loopw [9] (fun j wr => ∃ k : Nat, k ≤ N + 1 ∧ (j = .int .i64 ((k : Int) - 1) ∨ (k = 0 ∧ ∃ g : Int, g < 0 ∧ j = .int .i64 g)) ∧ wr = w1 ∧ lst p k = R)
    (fun j _ => (intOf j + 1).toNat)
  case atStart =>
    have hk := HK0.out
    rw [hg] at hk
    refine ⟨k0, by omega, ?_, rfl, HR.out⟩
    by_cases h0 : g < 0
    · exact .inr ⟨by omega, g, h0, rfl⟩
    · exact .inl (by congr 1; omega)
  case round =>
    obtain ⟨k, hk, hj, rfl, hfn⟩ := hrel
    have HFN := Lib.hid hfn
    clear hfn
    rcases hj with rfl | ⟨rfl, g1, hg1, rfl⟩
    · cases k with
      | succ k =>
        have e1 : ((k + 1 : Nat) : Int) - 1 = k := by omega
        rw [e1]
        go_wp2_with fail
        refine (hst k _ (by omega)).mono ?_
        rintro e w2 ⟨rfl, rfl⟩
        simp only
        cases hpk : p k with
        | true =>
          go_wp2_with fail
          go_ret
          refine ⟨?_, Below.refl _ _⟩
          rw [← HFN.out, lst, if_pos hpk]
          rfl
        | false =>
          go_wp2_with fail
          go_roundw
          case rel =>
            have RR : lst p k = R := by rw [← HFN.out, lst, hpk]; rfl
            exact ⟨k, by omega, .inl (by go_num), trivial, RR⟩
          case measure => simp [intOf] <;> omega
      | zero =>
        go_wp2_with fail
        go_ret
        refine ⟨?_, Below.refl _ _⟩
        rw [← HFN.out]
        rfl
    · go_wp2_with fail
      go_ret
      refine ⟨?_, Below.refl _ _⟩
      rw [← HFN.out]
      rfl
end Go.Proofs.YthmdlnmbjgokaaaDoor
