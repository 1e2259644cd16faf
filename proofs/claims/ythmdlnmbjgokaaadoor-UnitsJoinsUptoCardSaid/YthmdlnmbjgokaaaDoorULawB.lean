/- The plain law of UnitsBack and of pieces: UTF-8 that is written is read back; bytes that are made of units are the text's. -/
import Derived.Test.YthmdlnmbjgokaaaDoorULaw
namespace Go.Proofs.YthmdlnmbjgokaaaDoor
open Go.RowKit
set_option maxHeartbeats 4000000
set_option maxRecDepth 100000

theorem ba_ext {a b : ByteArray} (h : a.size = b.size) (h2 : ∀ k, k < a.size → a[k]? = b[k]?) : a = b := by
  apply ByteArray.ext
  apply Array.ext
  · exact h
  · intro i h3 h4
    have h5 := h2 i h3
    rw [getElem?_pos a i h3, getElem?_pos b i h4] at h5
    exact Option.some.inj h5
/-- bytes made of units from a place up to another are the text's bytes there -/
theorem makeB_cut (s : ByteArray) (f t : Nat) (h1 : f ≤ t) (h2 : t ≤ s.size / 2) : makeB (((U s).take t).drop f) = s.extract (2 * f) (2 * t) := by
  have hl : (((U s).take t).drop f).length = t - f := by rw [List.length_drop, List.length_take, U_length]; omega
  have hsz : (s.extract (2 * f) (2 * t)).size = (t - f) * 2 := by rw [ByteArray.size_extract]; omega
  apply ba_ext
  · rw [makeB_size, hl, hsz]
  · intro k hk
    rw [makeB_size, hl] at hk
    have hb := unitAt_bd s (f + k / 2)
    have hg : (((U s).take t).drop f)[k / 2]? = some (unitAt s (f + k / 2)) := by
      rw [List.getElem?_drop, List.getElem?_take_of_lt (by omega), U_get s _ (by omega)]
    obtain ⟨g0, g1⟩ := bytesOf_get (((U s).take t).drop f) (k / 2)
    rw [hg] at g0 g1
    rw [getElem?_pos (s.extract (2 * f) (2 * t)) k (by omega), ByteArray.getElem_extract]
    unfold makeB
    rw [strOfNums_get]
    have hx : ∀ j (hj : j < s.size), (s[j]?.getD 0) = s[j] := fun j hj => by rw [getElem?_pos s j hj]; rfl
    have hu : unitAt s (f + k / 2) = ((s[2 * (f + k / 2)]'(by omega)).toNat : Int) * 256 + ((s[2 * (f + k / 2) + 1]'(by omega)).toNat : Int) := by
      unfold unitAt
      rw [hx _ (by omega), hx _ (by omega)]
    have l0 := UInt8.toNat_lt (s[2 * (f + k / 2)]'(by omega))
    have l1 := UInt8.toNat_lt (s[2 * (f + k / 2) + 1]'(by omega))
    rcases Nat.mod_two_eq_zero_or_one k with hm | hm
    · have e : k = 2 * (k / 2) := by omega
      rw [show (bytesOf (((U s).take t).drop f))[k]? = (bytesOf (((U s).take t).drop f))[2 * (k / 2)]? by rw [← e], g0]
      simp only [Option.map_some, Option.some.injEq]
      have e2 : 2 * f + k = 2 * (f + k / 2) := by omega
      simp only [e2]
      apply UInt8.toNat.inj
      rw [UInt8.toNat_ofNat', hu]
      omega
    · have e : k = 2 * (k / 2) + 1 := by omega
      rw [show (bytesOf (((U s).take t).drop f))[k]? = (bytesOf (((U s).take t).drop f))[2 * (k / 2) + 1]? by rw [← e], g1]
      simp only [Option.map_some, Option.some.injEq]
      have e2 : 2 * f + k = 2 * (f + k / 2) + 1 := by omega
      simp only [e2]
      apply UInt8.toNat.inj
      rw [UInt8.toNat_ofNat', hu]
      omega
theorem makeB_U (s : ByteArray) : makeB (U s) = evenB s := by
  have h := makeB_cut s 0 (s.size / 2) (Nat.zero_le _) (Nat.le_refl _)
  rw [List.drop_zero, List.take_of_length_le (by rw [U_length]; exact Nat.le_refl _)] at h
  rw [h]
  unfold evenB
  congr 1
  omega

theorem bys_uncons {B : ByteArray} {pos : Nat} {x : Int} {l : List Int} (h : bys B pos = x :: l) : pos < B.size ∧ byt B pos = x ∧ bys B (pos + 1) = l := by
  have hp : pos < B.size := by
    rcases Nat.lt_or_ge pos B.size with h1 | h1
    · exact h1
    · rw [bys_end h1] at h; cases h
  rw [bys_cons hp] at h
  injection h with h1 h2
  exact ⟨hp, h1, h2⟩
theorem pair_eq {a b : Nat} {c d : Nat} (h : a = b) (k : c = d) : (a, c) = (b, d) := by rw [h, k]
/-- a scalar value's bytes are read as it -/
theorem decode_written (B : ByteArray) (pos : Nat) (r : Int) (rest : List Int) (hr : scalar r) (h : bys B pos = Lib.encodeRuneZ r ++ rest) :
    Utf8.decode B pos = (r.toNat, (Lib.encodeRuneZ r).length) ∧ bys B (pos + (Lib.encodeRuneZ r).length) = rest := by
  unfold scalar at hr
  rw [Lib.decode_at]
  have e0 := byt_get B pos
  have e1 := byt_get B (pos + 1)
  have e2 := byt_get B (pos + 2)
  have e3 := byt_get B (pos + 3)
  generalize (B.get! pos).toNat = b0 at *
  generalize (B.get! (pos + 1)).toNat = b1 at *
  generalize (B.get! (pos + 2)).toNat = b2 at *
  generalize (B.get! (pos + 3)).toNat = b3 at *
  unfold Lib.decodeN
  by_cases c1 : r ≤ 127
  · rw [Lib.encodeRuneZ_one (by omega) c1] at h ⊢
    obtain ⟨p0, q0, h⟩ := bys_uncons h
    rw [if_pos (by omega)]
    exact ⟨pair_eq (by omega) rfl, h⟩
  by_cases c2 : r ≤ 2047
  · rw [Lib.encodeRuneZ_two (by omega) c2] at h ⊢
    obtain ⟨p0, q0, h⟩ := bys_uncons h
    obtain ⟨p1, q1, h⟩ := bys_uncons h
    rw [if_neg (by omega), if_pos (by omega), if_pos (by omega)]
    exact ⟨pair_eq (by omega) rfl, h⟩
  by_cases c3 : r ≤ 65535
  · rw [Lib.encodeRuneZ_three (by omega)] at h ⊢
    obtain ⟨p0, q0, h⟩ := bys_uncons h
    obtain ⟨p1, q1, h⟩ := bys_uncons h
    obtain ⟨p2, q2, h⟩ := bys_uncons h
    have q2 : byt B (pos + 2) = _ := q2
    rw [if_neg (by omega), if_neg (by omega), if_pos (by refine ⟨?_, ⟨?_, ?_⟩, ?_, ?_⟩ <;> omega), if_pos (by omega)]
    exact ⟨pair_eq (by omega) rfl, h⟩
  · rw [Lib.encodeRuneZ_four (by omega) (by omega)] at h ⊢
    obtain ⟨p0, q0, h⟩ := bys_uncons h
    obtain ⟨p1, q1, h⟩ := bys_uncons h
    obtain ⟨p2, q2, h⟩ := bys_uncons h
    have q2 : byt B (pos + 2) = _ := q2
    obtain ⟨p3, q3, h⟩ := bys_uncons h
    have q3 : byt B (pos + 3) = _ := q3
    rw [if_neg (by omega), if_neg (by omega), if_neg (by omega), if_pos (by omega), if_pos (by omega)]
    exact ⟨pair_eq (by omega) rfl, h⟩
theorem bys_str {ns : List Int} (h : okB ns) : bys (strOfNums ns) 0 = ns := by
  unfold bys
  rw [List.drop_zero, strOfNums_data, List.map_map]
  conv => rhs; rw [← List.map_id ns]
  apply List.map_congr_left
  intro n hn
  have := h n hn
  simp only [Function.comp, id]
  rw [UInt8.toNat_ofNat']
  omega
theorem ofU_written (B : ByteArray) : ∀ (rs : List Int), (∀ r ∈ rs, scalar r) → ∀ fuel pos, B.size ≤ pos + fuel → bys B pos = rs.flatMap Lib.encodeRuneZ → ofU B fuel pos = (rs.flatMap pointU, none) := by
  intro rs
  induction rs with
  | nil =>
    intro _ fuel pos _ h
    have hp : ¬ pos < B.size := by
      intro hp
      rw [bys_cons hp] at h
      cases h
    rw [ofU_end _ _ _ hp]; rfl
  | cons r l ih =>
    intro hr fuel pos hf h
    rw [List.flatMap_cons] at h
    have hs := hr r (by simp)
    obtain ⟨h1, h2⟩ := decode_written B pos r _ hs h
    have hl := (Lib.encodeRuneZ_length r).1
    have hp : pos < B.size := by
      rcases Nat.lt_or_ge pos B.size with h3 | h3
      · exact h3
      · rw [bys_end h3] at h
        have := congrArg List.length h
        simp only [List.length_nil, List.length_append] at this
        omega
    obtain ⟨f, rfl⟩ : ∃ f, fuel = f + 1 := ⟨fuel - 1, by omega⟩
    have hne : Utf8.decode B pos ≠ (65533, 1) := by
      rw [h1]
      intro h3
      injection h3 with h3 h4
      unfold scalar at hs
      rw [Lib.encodeRuneZ_three (by omega)] at h4
      cases h4
    rw [ofU_go _ _ _ hp hne, h1]
    have hr0 : ((r.toNat : Nat) : Int) = r := by unfold scalar at hs; omega
    rw [ih (fun x hx => hr x (by simp [hx])) f _ (by omega) h2, List.flatMap_cons]
    simp only [hr0]
/-- WHAT UnitsBack SAYS -/
theorem back_of (s : ByteArray) (h : ∀ x ∈ PF s 0, ¬ (55296 ≤ x.2 ∧ x.2 < 57344)) : ofR (textB s) = #[.string (evenB s), .int .i64 0, .int .i64 0] := by
  have hok : okB ((PF s 0).flatMap fun x => Lib.encodeRuneZ x.2) := by
    intro n hn
    obtain ⟨x, _, h⟩ := List.mem_flatMap.1 hn
    exact Lib.encodeRuneZ_byte _ _ h
  have e : (PF s 0).flatMap (fun x => Lib.encodeRuneZ x.2) = ((PF s 0).map (·.2)).flatMap Lib.encodeRuneZ := by rw [List.flatMap_map]
  have h1 := ofU_written (textB s) ((PF s 0).map (·.2)) (by
    intro r hr
    obtain ⟨x, hx, rfl⟩ := List.mem_map.1 hr
    have h1 := h x hx
    obtain ⟨_, _, h2, h3⟩ := PF_ok s 0 x hx
    unfold scalar
    omega) (textB s).size 0 (by omega) (by unfold textB; rw [bys_str hok, e])
  have h2 : ((PF s 0).map (·.2)).flatMap pointU = U s := by rw [List.flatMap_map, PF_units, List.drop_zero]
  unfold ofR
  rw [h1, h2, makeB_U]
theorem textB_size (s : ByteArray) : (textB s).size ≤ 4 * (s.size / 2) := by
  unfold textB
  rw [strOfNums_size]
  have h := PF_length s 0
  have : ∀ l : List (Nat × Int), (l.flatMap fun x => Lib.encodeRuneZ x.2).length ≤ 4 * l.length := by
    intro l
    induction l with
    | nil => simp
    | cons x r ih =>
      have := (Lib.encodeRuneZ_length x.2).2
      simp only [List.flatMap_cons, List.length_append, List.length_cons] at *
      omega
  have := this (PF s 0)
  omega
end Go.Proofs.YthmdlnmbjgokaaaDoor
