/- lintelref06.more at parameters, declarations, a try. -/
import Derived.Test.YtgnpgdjjdhlhaaaDoorTPostM
namespace Go.Proofs.YtgnpgdjjdhlhaaaDoor
open Go.RowKit
set_option maxHeartbeats 40000000
set_option maxRecDepth 100000
attribute [local go_sem] Oper.semAt_some store_floatK

theorem params_at {l : List Int} {k : Nat} {t : Int} (h : l[k]? = some t) : paramsB (l.drop k) = if k + 1 = l.length then (t == 6) || (t == 31) else (t == 6) && paramsB (l.drop (k + 1)) := by
  have hk := (List.getElem?_eq_some_iff.1 h).1
  rw [List.drop_eq_getElem_cons hk, (List.getElem?_eq_some_iff.1 h).2]
  by_cases h1 : k + 1 = l.length
  · rw [if_pos h1, List.drop_of_length_le (by omega)]
    rfl
  · rw [if_neg h1]
    obtain ⟨a, r, ha⟩ : ∃ a r, l.drop (k + 1) = a :: r := ⟨_, _, List.drop_eq_getElem_cons (by omega)⟩
    rw [ha]
    rfl
section
variable {w : World} {A : Option Addr} {n c f : Nat} {l : List Nd}
theorem more_params (hN : Nds w w.heap.size A l) (hn : l.length = n) {i : Nat} {x : Nd} (hx : l[i]? = some x) (hk : x.kind = 30)
    {A' : Option Addr} {c' : Nat} (hr : Rd w w.heap.size A' (ints (ksOf l x))) (hca : x.kids.length ≤ c' ∧ (x.kids.length ≠ 0 → ∃ g, A' = some ⟨g, 0, none⟩)) :
    Calls Tryd.prog 32 #[.slice A n c, .int .i64 (i : Nat), .slice A' x.kids.length c'] w fun e w' => e = .returned (.bool (paramsB (ksOf l x))) ∧ Below w.heap.size w w' := by
  have hs := hN.small.1
  rw [hn] at hs
  have hi2 : i < n := by rw [← hn]; exact (List.getElem?_eq_some_iff.1 hx).1
  have hxm := List.mem_of_getElem? hx
  have hkx := hN.small.2 x hxm
  have y1 := heap_alloc_new w (.cells #[.int .i64 x.kind, .string x.text, .string x.str, .float .f64 x.num, .slice x.kA x.kids.length x.kC, .int .i64 x.at_] 39)
  have b1 : Below w.heap.size w (w.alloc (.cells #[.int .i64 x.kind, .string x.text, .string x.str, .float .f64 x.num, .slice x.kA x.kids.length x.kC, .int .i64 x.at_] 39)) := (Below.refl _ _).alloc (Nat.le_refl _) _
  have hkl : (ksOf l x).length = x.kids.length := by unfold ksOf; rw [List.length_map]
  obtain ⟨kn, hkn⟩ : ∃ m, x.kids.length = m := ⟨_, rfl⟩
  obtain ⟨b, off, rfl, hbl, d0, d1, d2, d3, d4, d5⟩ := hN.rows.nd hx
  rw [hkn] at hkl d4 y1 b1 hkx hca ⊢
  rw [hk] at d0 y1 b1
  obtain ⟨ks, hks⟩ : ∃ ks, ksOf l x = ks := ⟨_, rfl⟩
  rw [hks] at hkl hr
  have HKL := Lib.hid hkl
  have HKS := Lib.hid hks
  have HKN := Lib.hid hkn
  clear hx hn hkn hxm hN hks hkl hk
  obtain ⟨T, hT⟩ : ∃ T, paramsB ks = T := ⟨_, rfl⟩
  have hpost : paramsB (ksOf l x) = T := by rw [HKS.out, hT]
  rw [hpost]
  have HT := Lib.hid hT
  clear hT hpost
  obtain ⟨w1, hw1⟩ : ∃ w1, w.alloc (.cells #[.int .i64 30, .string x.text, .string x.str, .float .f64 x.num, .slice x.kA kn x.kC, .int .i64 x.at_] 39) = w1 := ⟨_, rfl⟩
  rw [hw1] at y1 b1
  have l1 := (Array.getElem?_eq_some_iff.1 y1).1
  have g0 := cell_blockK y1 0
  have g1 := cell_blockK y1 1
  have g2 := cell_blockK y1 2
  have g3 := cell_blockK y1 3
  have g4 := cell_blockK y1 4
  have g5 := cell_blockK y1 5
  simp at g0 g1 g2 g3 g4 g5
  have hr1 := (hr.below b1).more b1.size
  clear y1 hr
  go_enter Tryd.func32, Tryd.ntmps32
  go_wp2_with fail
  go_loopw [30] (fun i wr => ∃ k : Nat, k ≤ kn ∧ i = .int .i64 k ∧ wr = w1 ∧ T = paramsB (ks.drop k)) (fun i _ => kn - (intOf i).toNat)
  case atStart => exact ⟨0, Nat.zero_le _, rfl, rfl, HT.out.symm⟩
  case round =>
    obtain ⟨k, hk, rfl, rfl, hf⟩ := hrel
    have HF := Lib.hid hf
    clear hf
    by_cases hlt : k < kn
    · obtain ⟨t, ht⟩ : ∃ t, ks[k]? = some t := ⟨ks[k]'(by have := HKL.out; omega), List.getElem?_eq_getElem _⟩
      obtain ⟨ad, rfl, hc⟩ := rd_int hr1 ht
      have ha := params_at ht
      rw [HKL.out] at ha
      have HA := Lib.hid ha
      clear ht ha
      by_cases h6 : t = 6
      · subst h6
        have hfin : T = paramsB (ks.drop (k + 1)) := by
          rw [HF.out, HA.out]
          split
          · rw [List.drop_of_length_le (by have := HKL.out; omega)]; rfl
          · rfl
        have HFIN := Lib.hid hfin
        clear hfin
        go_wp2_with fail
        go_roundw
        case rel => exact ⟨k + 1, by omega, by go_num, trivial, HFIN.out⟩
        case measure => simp [intOf] <;> omega
      · have g6 : (t == 6) = false := by rw [beq_eq_false_iff_ne]; exact h6
        have g6' : (t != 6) = true := by rw [bne, g6]; rfl
        by_cases h31 : t = 31
        · by_cases hl : k + 1 = kn
          · have hfin : T = paramsB (ks.drop (k + 1)) := by
              rw [HF.out, HA.out, if_pos hl, h31, List.drop_of_length_le (by have := HKL.out; omega)]; rfl
            have HFIN := Lib.hid hfin
            have g31 : (t == 31) = true := by rw [h31]; rfl
            have gl : ((k : Int) == (kn : Int) - 1) = true := by rw [beq_iff_eq]; omega
            clear hfin h31 h6
            go_wp2_with fail
            go_roundw
            case rel => exact ⟨k + 1, by omega, by go_num, trivial, HFIN.out⟩
            case measure => simp [intOf] <;> omega
          · have hfin : T = false := by rw [HF.out, HA.out, if_neg hl, g6]; rfl
            have HFIN := Lib.hid hfin
            have g31 : (t == 31) = true := by rw [h31]; rfl
            have gl : ((k : Int) == (kn : Int) - 1) = false := by rw [beq_eq_false_iff_ne]; omega
            clear hfin h31 h6
            go_wp2_with fail
            go_ret
            exact ⟨by rw [HFIN.out]; rfl, b1⟩
        · have g31 : (t == 31) = false := by rw [beq_eq_false_iff_ne]; exact h31
          have hfin : T = false := by rw [HF.out, HA.out, g6, g31]; split <;> rfl
          have HFIN := Lib.hid hfin
          clear hfin h31 h6
          go_wp2_with fail
          go_ret
          exact ⟨by rw [HFIN.out]; rfl, b1⟩
    · obtain rfl : k = kn := by omega
      have hfin : T = true := by rw [HF.out, List.drop_of_length_le (by have := HKL.out; omega)]; rfl
      have HFIN := Lib.hid hfin
      clear hfin
      go_wp2_with fail
      go_ret
      exact ⟨by rw [HFIN.out]; rfl, b1⟩
theorem more_let (hN : Nds w w.heap.size A l) (hn : l.length = n) {i : Nat} {x : Nd} (hx : l[i]? = some x) {kk : Int} (hkk : kk = 33 ∨ kk = 34) (hk : x.kind = kk)
    {A' : Option Addr} {c' : Nat} (hr : Rd w w.heap.size A' (ints (ksOf l x))) (hca : x.kids.length ≤ c' ∧ (x.kids.length ≠ 0 → ∃ g, A' = some ⟨g, 0, none⟩)) :
    Calls Tryd.prog 32 #[.slice A n c, .int .i64 (i : Nat), .slice A' x.kids.length c'] w fun e w' => e = .returned (.bool (((ksOf l x).all fun k => k == 35) && decide (x.kids.length ≥ 1))) ∧ Below w.heap.size w w' := by
  have hs := hN.small.1
  rw [hn] at hs
  have hi2 : i < n := by rw [← hn]; exact (List.getElem?_eq_some_iff.1 hx).1
  have hxm := List.mem_of_getElem? hx
  have hkx := hN.small.2 x hxm
  have y1 := heap_alloc_new w (.cells #[.int .i64 x.kind, .string x.text, .string x.str, .float .f64 x.num, .slice x.kA x.kids.length x.kC, .int .i64 x.at_] 39)
  have b1 : Below w.heap.size w (w.alloc (.cells #[.int .i64 x.kind, .string x.text, .string x.str, .float .f64 x.num, .slice x.kA x.kids.length x.kC, .int .i64 x.at_] 39)) := (Below.refl _ _).alloc (Nat.le_refl _) _
  have hkl : (ksOf l x).length = x.kids.length := by unfold ksOf; rw [List.length_map]
  obtain ⟨kn, hkn⟩ : ∃ m, x.kids.length = m := ⟨_, rfl⟩
  obtain ⟨b, off, rfl, hbl, d0, d1, d2, d3, d4, d5⟩ := hN.rows.nd hx
  rw [hkn] at hkl d4 y1 b1 hkx hca ⊢
  rw [hk] at d0 y1 b1
  obtain ⟨ks, hks⟩ : ∃ ks, ksOf l x = ks := ⟨_, rfl⟩
  rw [hks] at hkl hr
  have HKL := Lib.hid hkl
  have HKS := Lib.hid hks
  have HKN := Lib.hid hkn
  clear hx hn hkn hxm hN hks hkl hk
  obtain ⟨f, hff⟩ : ∃ f : Int → Bool, (fun k => k == 35) = f := ⟨_, rfl⟩
  obtain ⟨T, hT⟩ : ∃ T, ks.all f = T := ⟨_, rfl⟩
  have hpost : ((ksOf l x).all fun k => k == 35) = T := by rw [HKS.out, hff, hT]
  rw [hpost]
  have HT := Lib.hid hT
  have HFF := Lib.hid hff
  clear hT hpost hff
  obtain ⟨w1, hw1⟩ : ∃ w1, w.alloc (.cells #[.int .i64 kk, .string x.text, .string x.str, .float .f64 x.num, .slice x.kA kn x.kC, .int .i64 x.at_] 39) = w1 := ⟨_, rfl⟩
  rw [hw1] at y1 b1
  have l1 := (Array.getElem?_eq_some_iff.1 y1).1
  have g0 := cell_blockK y1 0
  have g1 := cell_blockK y1 1
  have g2 := cell_blockK y1 2
  have g3 := cell_blockK y1 3
  have g4 := cell_blockK y1 4
  have g5 := cell_blockK y1 5
  simp at g0 g1 g2 g3 g4 g5
  have hr1 := (hr.below b1).more b1.size
  clear y1 hr
  go_enter Tryd.func32, Tryd.ntmps32
  rcases hkk with rfl | rfl
  all_goals
    go_wp2_with fail
    go_loopw [60] (fun i wr => ∃ k : Nat, k ≤ kn ∧ i = .int .i64 k ∧ wr = w1 ∧ T = (ks.drop k).all f) (fun i _ => kn - (intOf i).toNat)
    case atStart => exact ⟨0, Nat.zero_le _, rfl, rfl, HT.out.symm⟩
    case round =>
      obtain ⟨k, hk, rfl, rfl, hf⟩ := hrel
      have HF := Lib.hid hf
      clear hf
      by_cases hlt : k < kn
      · obtain ⟨t, ht⟩ : ∃ t, ks[k]? = some t := ⟨ks[k]'(by have := HKL.out; omega), List.getElem?_eq_getElem _⟩
        obtain ⟨ad, rfl, hc⟩ := rd_int hr1 ht
        have HA := Lib.hid (all_at (f := f) ht)
        clear ht
        obtain ⟨v, hv⟩ : ∃ v, (t == 35) = v := ⟨_, rfl⟩
        have hfx : f t = v := by rw [← HFF.out, ← hv]
        have hv' : (t != 35) = !v := by rw [bne, hv]
        cases v with
        | true =>
          have hfin : T = (ks.drop (k + 1)).all f := by rw [HF.out, HA.out, hfx]; rfl
          have HFIN := Lib.hid hfin
          clear hfin hfx
          go_wp2_with fail
          go_roundw
          case rel => exact ⟨k + 1, by omega, by go_num, trivial, HFIN.out⟩
          case measure => simp [intOf] <;> omega
        | false =>
          have hfin : T = false := by rw [HF.out, HA.out, hfx]; rfl
          have HFIN := Lib.hid hfin
          clear hfin hfx
          go_wp2_with fail
          go_ret
          exact ⟨by rw [HFIN.out]; rfl, b1⟩
      · obtain rfl : k = kn := by omega
        have hfin : T = true := by rw [HF.out, List.drop_of_length_le (by have := HKL.out; omega)]; rfl
        have HFIN := Lib.hid hfin
        clear hfin
        by_cases h0 : k = 0
        · subst h0
          go_wp2_with fail
          go_ret
          exact ⟨by rw [HFIN.out]; rfl, b1⟩
        · have h1 : k ≥ 1 := by omega
          have hd : decide ((k : Int) ≥ 1) = true := decide_eq_true (by omega)
          have HD := Lib.hid (show decide (k ≥ 1) = true from decide_eq_true h1)
          go_wp2_with fail
          go_ret
          exact ⟨by rw [HFIN.out, HD.out]; rfl, b1⟩
theorem more_tryN (hN : Nds w w.heap.size A l) (hn : l.length = n) {i : Nat} {x : Nd} (hx : l[i]? = some x) (hk : x.kind = 48) (h3 : x.kids.length ≠ 3)
    {A' : Option Addr} {c' : Nat} (hr : Rd w w.heap.size A' (ints (ksOf l x))) (hca : x.kids.length ≤ c' ∧ (x.kids.length ≠ 0 → ∃ g, A' = some ⟨g, 0, none⟩)) :
    Calls Tryd.prog 32 #[.slice A n c, .int .i64 (i : Nat), .slice A' x.kids.length c'] w fun e w' => e = .returned (.bool false) ∧ Below w.heap.size w w' := by
  have hs := hN.small.1
  rw [hn] at hs
  have hi2 : i < n := by rw [← hn]; exact (List.getElem?_eq_some_iff.1 hx).1
  have hxm := List.mem_of_getElem? hx
  have hkx := hN.small.2 x hxm
  have y1 := heap_alloc_new w (.cells #[.int .i64 x.kind, .string x.text, .string x.str, .float .f64 x.num, .slice x.kA x.kids.length x.kC, .int .i64 x.at_] 39)
  have b1 : Below w.heap.size w (w.alloc (.cells #[.int .i64 x.kind, .string x.text, .string x.str, .float .f64 x.num, .slice x.kA x.kids.length x.kC, .int .i64 x.at_] 39)) := (Below.refl _ _).alloc (Nat.le_refl _) _
  have hkl : (ksOf l x).length = x.kids.length := by unfold ksOf; rw [List.length_map]
  obtain ⟨kn, hkn⟩ : ∃ m, x.kids.length = m := ⟨_, rfl⟩
  obtain ⟨b, off, rfl, hbl, d0, d1, d2, d3, d4, d5⟩ := hN.rows.nd hx
  rw [hkn] at hkl d4 y1 b1 hkx hca ⊢
  rw [hk] at d0 y1 b1
  obtain ⟨ks, hks⟩ : ∃ ks, ksOf l x = ks := ⟨_, rfl⟩
  rw [hks] at hkl hr
  have HKL := Lib.hid hkl
  have HKS := Lib.hid hks
  have HKN := Lib.hid hkn
  clear hx hn hkn hxm hN hks hkl hk
  have hk3 : kn ≠ 3 := by rw [← HKN.out]; exact h3
  have g3 : ((kn : Int) == 3) = false := by rw [beq_eq_false_iff_ne]; omega
  have g3' : ((kn : Int) != 3) = true := by rw [bne, g3]; rfl
  clear h3
  obtain ⟨w1, hw1⟩ : ∃ w1, w.alloc (.cells #[.int .i64 48, .string x.text, .string x.str, .float .f64 x.num, .slice x.kA kn x.kC, .int .i64 x.at_] 39) = w1 := ⟨_, rfl⟩
  rw [hw1] at y1 b1
  have c0 := cell_blockK y1 0
  have c1 := cell_blockK y1 1
  have c2 := cell_blockK y1 2
  have c3 := cell_blockK y1 3
  have c4 := cell_blockK y1 4
  have c5 := cell_blockK y1 5
  simp at c0 c1 c2 c3 c4 c5
  clear y1 hr
  go_enter Tryd.func32, Tryd.ntmps32
  go_wp2_with fail
  go_ret
  exact ⟨rfl, b1⟩
end
end Go.Proofs.YtgnpgdjjdhlhaaaDoor
