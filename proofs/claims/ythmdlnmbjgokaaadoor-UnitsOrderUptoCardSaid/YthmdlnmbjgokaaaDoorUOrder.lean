/- The walk of UnitsOrder. -/
import Derived.Test.YthmdlnmbjgokaaaDoorUAwake
import Derived.Test.YthmdlnmbjgokaaaDoorUCmpA
import Derived.Test.YthmdlnmbjgokaaaDoorULawC
namespace Go.Proofs.YthmdlnmbjgokaaaDoor
open Go.RowKit
set_option maxHeartbeats 4000000
set_option maxRecDepth 100000

theorem cmpS_even (s t : ByteArray) : cmpS (evenB s) (evenB t) = cmpL (U s) (U t) := by
  unfold cmpS
  rw [even_less, even_eq]
  rcases cmpL_three (U s) (U t) with h | h | h <;> rw [h] <;> rfl

theorem order_any (s t : ByteArray) (w : World) (hs : s.size ≤ 1048576) (ht : t.size ≤ 1048576) (hT : Lib.Utf8Tabs 0 1 w) :
    Calls Tryd.prog 8 #[.string s, .string t] w fun e w' => e = .returned (.bool true) ∧ Below w.heap.size w w' := by
  by_cases hsz : 4000 < s.size + t.size
  · go_enter Tryd.func8, Tryd.ntmps8
    go_wp2_with fail
    refine (awake_any _ hT).mono ?_
    rintro e w1 ⟨rfl, b1⟩
    simp only
    go_wp2_with fail
    go_ret
    exact ⟨rfl, b1⟩
  have hsm : s.size ≤ maxLen := by unfold maxLen; omega
  have htm : t.size ≤ maxLen := by unfold maxLen; omega
  have h1 := fun w => cmpU_any s t w hsm htm
  have h2 := fun w => compare_any s t w hs ht
  have h3 := fun w => cmpU_any t s w htm hsm
  have hl : ∀ ty, binOp .lss ty (.string (evenB s)) (.string (evenB t)) = pure (.bool (decide (cmpL (U s) (U t) < 0))) := fun ty => by
    have e1 : (evenB s).toList = (evenB s).data.toList := ByteArray.toList_eq _
    have e2 : (evenB t).toList = (evenB t).data.toList := ByteArray.toList_eq _
    rw [binOp_string_lss, e1, e2, even_less]
  have he : ∀ ty, binOp .eql ty (.string (evenB s)) (.string (evenB t)) = pure (.bool (decide (cmpL (U s) (U t) = 0))) := fun ty => by
    have e1 : (evenB s).toList = (evenB s).data.toList := ByteArray.toList_eq _
    have e2 : (evenB t).toList = (evenB t).data.toList := ByteArray.toList_eq _
    rw [binOp_string_eql, e1, e2, even_eq]
  simp only [cmpS_even] at h1 h3
  have h2 : ∀ w, Calls Tryd.prog 31 #[.string s, .string t] w fun e w' => e = .returned (.int .i64 (cmpL (U s) (U t))) ∧ Below w.heap.size w w' := h2
  rw [cmpL_flip (U s) (U t)] at h3
  have h4 := fun w => evenD_any s w hsm
  have h5 := fun w => evenD_any t w htm
  obtain ⟨a, ha⟩ : ∃ a, evenB s = a := ⟨_, rfl⟩
  obtain ⟨b, hb⟩ : ∃ b, evenB t = b := ⟨_, rfl⟩
  have h3c := cmpL_three (U s) (U t)
  obtain ⟨c, hc⟩ : ∃ c, cmpL (U s) (U t) = c := ⟨_, rfl⟩
  rw [ha] at hl he h4
  rw [hb] at hl he h5
  rw [hc] at h1 h2 h3 h3c hl he
  clear ha hb hc
  rcases h3c with rfl | rfl | rfl
  · have hl : ∀ ty, binOp .lss ty (.string a) (.string b) = pure (.bool true) := hl
    have he : ∀ ty, binOp .eql ty (.string a) (.string b) = pure (.bool false) := he
    go_enter Tryd.func8, Tryd.ntmps8
    go_wp2_with fail
    refine (awake_any _ hT).mono ?_
    rintro e w1 ⟨rfl, b1⟩
    simp only
    go_wp2_with fail
    refine (h1 _).mono ?_
    rintro e w2 ⟨rfl, rfl⟩
    simp only
    go_wp2_with fail
    refine (h4 _).mono ?_
    rintro e w2 ⟨rfl, rfl⟩
    simp only
    go_wp2_with fail
    refine (h5 _).mono ?_
    rintro e w2 ⟨rfl, rfl⟩
    simp only
    go_wp2_with fail
    refine (h2 _).mono ?_
    rintro e w3 ⟨rfl, b3⟩
    simp only
    go_wp2_with fail
    refine (h3 _).mono ?_
    rintro e w4 ⟨rfl, rfl⟩
    simp only
    go_wp2_with fail
    go_ret
    exact ⟨rfl, b1.trans (b3.mono b1.size)⟩
  · have hl : ∀ ty, binOp .lss ty (.string a) (.string b) = pure (.bool false) := hl
    have he : ∀ ty, binOp .eql ty (.string a) (.string b) = pure (.bool true) := he
    go_enter Tryd.func8, Tryd.ntmps8
    go_wp2_with fail
    refine (awake_any _ hT).mono ?_
    rintro e w1 ⟨rfl, b1⟩
    simp only
    go_wp2_with fail
    refine (h1 _).mono ?_
    rintro e w2 ⟨rfl, rfl⟩
    simp only
    go_wp2_with fail
    refine (h4 _).mono ?_
    rintro e w2 ⟨rfl, rfl⟩
    simp only
    go_wp2_with fail
    refine (h5 _).mono ?_
    rintro e w2 ⟨rfl, rfl⟩
    simp only
    go_wp2_with fail
    refine (h2 _).mono ?_
    rintro e w3 ⟨rfl, b3⟩
    simp only
    go_wp2_with fail
    refine (h3 _).mono ?_
    rintro e w4 ⟨rfl, rfl⟩
    simp only
    go_wp2_with fail
    go_ret
    exact ⟨rfl, b1.trans (b3.mono b1.size)⟩
  · have hl : ∀ ty, binOp .lss ty (.string a) (.string b) = pure (.bool false) := hl
    have he : ∀ ty, binOp .eql ty (.string a) (.string b) = pure (.bool false) := he
    go_enter Tryd.func8, Tryd.ntmps8
    go_wp2_with fail
    refine (awake_any _ hT).mono ?_
    rintro e w1 ⟨rfl, b1⟩
    simp only
    go_wp2_with fail
    refine (h1 _).mono ?_
    rintro e w2 ⟨rfl, rfl⟩
    simp only
    go_wp2_with fail
    refine (h4 _).mono ?_
    rintro e w2 ⟨rfl, rfl⟩
    simp only
    go_wp2_with fail
    refine (h5 _).mono ?_
    rintro e w2 ⟨rfl, rfl⟩
    simp only
    go_wp2_with fail
    refine (h2 _).mono ?_
    rintro e w3 ⟨rfl, b3⟩
    simp only
    go_wp2_with fail
    refine (h3 _).mono ?_
    rintro e w4 ⟨rfl, rfl⟩
    simp only
    go_wp2_with fail
    go_ret
    exact ⟨rfl, b1.trans (b3.mono b1.size)⟩
end Go.Proofs.YthmdlnmbjgokaaaDoor
