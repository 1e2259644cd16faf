/- The plain law of UnitsOrder: texts compare unit by unit, which is as their bytes do. -/
import Derived.Test.YthmdlnmbjgokaaaDoorULawB
import Derived.Test.YthmdlnmbjgokaaaDoorCmp
namespace Go.Proofs.YthmdlnmbjgokaaaDoor
open Go.RowKit
set_option maxHeartbeats 4000000
set_option maxRecDepth 100000

/-- the bytes of units, as bytes -/
def byts (us : List Int) : List UInt8 := (bytesOf us).map fun n => UInt8.ofNat n.toNat
theorem byts_cons (u : Int) (us : List Int) : byts (u :: us) = UInt8.ofNat (u / 256).toNat :: UInt8.ofNat (u % 256).toNat :: byts us := rfl
theorem makeB_list (us : List Int) : (makeB us).data.toList = byts us := strOfNums_data _
theorem u8_lt (a b : Int) (ha : 0 ≤ a ∧ a < 256) (hb : 0 ≤ b ∧ b < 256) : (UInt8.ofNat a.toNat < UInt8.ofNat b.toNat) ↔ a < b := by
  rw [UInt8.lt_iff_toNat_lt, UInt8.toNat_ofNat', UInt8.toNat_ofNat']
  omega
theorem u8_eq (a b : Int) (ha : 0 ≤ a ∧ a < 256) (hb : 0 ≤ b ∧ b < 256) : (UInt8.ofNat a.toNat = UInt8.ofNat b.toNat) ↔ a = b := by
  rw [← UInt8.toNat_inj, UInt8.toNat_ofNat', UInt8.toNat_ofNat']
  omega
theorem byts_inj : ∀ (us vs : List Int), okU us → okU vs → byts us = byts vs → us = vs
  | [], [], _, _, _ => rfl
  | [], _ :: _, _, _, h => by cases h
  | _ :: _, [], _, _, h => by cases h
  | a :: x, b :: y, h1, h2, h => by
    rw [byts_cons, byts_cons] at h
    injection h with e1 h
    injection h with e2 h
    have ha := h1 a (by simp)
    have hb := h2 b (by simp)
    have f1 := (u8_eq _ _ (by omega) (by omega)).1 e1
    have f2 := (u8_eq _ _ (by omega) (by omega)).1 e2
    rw [byts_inj x y (fun u hu => h1 u (by simp [hu])) (fun u hu => h2 u (by simp [hu])) h, show a = b by omega]
theorem byts_less : ∀ (us vs : List Int), okU us → okU vs → ((Op.bytesLess (byts us) (byts vs) = true) ↔ cmpL us vs < 0)
  | [], [], _, _ => ⟨fun h => (by cases h), fun h => absurd h (by decide)⟩
  | [], b :: y, _, _ => ⟨fun _ => (by decide : (-1 : Int) < 0), fun _ => rfl⟩
  | a :: x, [], _, _ => ⟨fun h => (by rw [byts_cons] at h; cases h), fun h => absurd (show (1 : Int) < 0 from h) (by decide)⟩
  | a :: x, b :: y, h1, h2 => by
    have hc : cmpL (a :: x) (b :: y) = if a < b then -1 else if b < a then 1 else cmpL x y := rfl
    have ha := h1 a (by simp)
    have hb := h2 b (by simp)
    have ih := byts_less x y (fun u hu => h1 u (by simp [hu])) (fun u hu => h2 u (by simp [hu]))
    have l1 := u8_lt (a / 256) (b / 256) (by omega) (by omega)
    have l2 := u8_lt (a % 256) (b % 256) (by omega) (by omega)
    have e1 := u8_eq (a / 256) (b / 256) (by omega) (by omega)
    have e2 := u8_eq (a % 256) (b % 256) (by omega) (by omega)
    rw [byts_cons, byts_cons, hc]
    simp only [Op.bytesLess, Bool.or_eq_true, Bool.and_eq_true, decide_eq_true_eq, beq_iff_eq, l1, l2, e1, e2, ih]
    by_cases c1 : a < b
    · rw [if_pos c1]
      constructor
      · intro _; omega
      · intro _; omega
    · rw [if_neg c1]
      by_cases c2 : b < a
      · rw [if_pos c2]
        constructor
        · rintro (h | ⟨h, h' | ⟨h', _⟩⟩) <;> omega
        · intro h; omega
      · rw [if_neg c2]
        constructor
        · rintro (h | ⟨h, h' | ⟨_, h'⟩⟩)
          · omega
          · omega
          · exact h'
        · intro h; exact .inr ⟨by omega, .inr ⟨by omega, h⟩⟩
theorem cmpL_three : ∀ (us vs : List Int), cmpL us vs = -1 ∨ cmpL us vs = 0 ∨ cmpL us vs = 1
  | [], [] => .inr (.inl rfl)
  | [], _ :: _ => .inl rfl
  | _ :: _, [] => .inr (.inr rfl)
  | a :: x, b :: y => by
    simp only [cmpL]
    split
    · exact .inl rfl
    · split
      · exact .inr (.inr rfl)
      · exact cmpL_three x y
theorem cmpL_flip : ∀ (us vs : List Int), cmpL vs us = - cmpL us vs
  | [], [] => rfl
  | [], _ :: _ => rfl
  | _ :: _, [] => rfl
  | a :: x, b :: y => by
    have ih := cmpL_flip x y
    have e1 : cmpL (a :: x) (b :: y) = if a < b then -1 else if b < a then 1 else cmpL x y := rfl
    have e2 : cmpL (b :: y) (a :: x) = if b < a then -1 else if a < b then 1 else cmpL y x := rfl
    rw [e1, e2, ih]
    by_cases c1 : a < b
    · rw [if_pos c1, if_neg (by omega), if_pos c1]; rfl
    · by_cases c2 : b < a
      · rw [if_pos c2, if_neg c1, if_pos c2]
      · rw [if_neg c1, if_neg c2, if_neg c1, if_neg c2]
theorem evenB_list (s : ByteArray) : (evenB s).data.toList = byts (U s) := by rw [← makeB_U, makeB_list]
theorem even_eq (s t : ByteArray) : ((evenB s).data.toList == (evenB t).data.toList) = decide (cmpL (U s) (U t) = 0) := by
  rw [evenB_list, evenB_list, Bool.eq_iff_iff, beq_iff_eq, decide_eq_true_eq]
  constructor
  · intro h
    rw [byts_inj _ _ (U_ok s) (U_ok t) h, cmpL_self]
  · intro h
    rw [cmpL_zero _ _ h]
theorem even_less (s t : ByteArray) : Op.bytesLess (evenB s).data.toList (evenB t).data.toList = decide (cmpL (U s) (U t) < 0) := by
  rw [evenB_list, evenB_list, Bool.eq_iff_iff, byts_less _ _ (U_ok s) (U_ok t), decide_eq_true_eq]
end Go.Proofs.YthmdlnmbjgokaaaDoor
