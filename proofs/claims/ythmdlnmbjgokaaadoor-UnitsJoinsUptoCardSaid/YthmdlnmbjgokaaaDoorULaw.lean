/- The plain law of units: UTF-8 is read to code points and written back. -/
import Derived.Test.YthmdlnmbjgokaaaDoorURefText
namespace Go.Proofs.YthmdlnmbjgokaaaDoor
open Go.RowKit
set_option maxHeartbeats 4000000
set_option maxRecDepth 100000

/-- a byte of a text, as a number -/
def byt (s : ByteArray) (k : Nat) : Int := ((s[k]?.getD 0).toNat : Int)
/-- the bytes of a text from a place on -/
def bys (s : ByteArray) (k : Nat) : List Int := (s.data.toList.drop k).map fun b => (b.toNat : Int)
theorem bys_all (s : ByteArray) : strOfNums (bys s 0) = s := by
  unfold bys strOfNums
  rw [List.drop_zero, List.map_map]
  have : (s.data.toList.map ((fun n : Int => UInt8.ofNat n.toNat) ∘ fun b : UInt8 => (b.toNat : Int))) = s.data.toList := by
    conv => rhs; rw [← List.map_id s.data.toList]
    apply List.map_congr_left
    intro b _
    simp
  rw [this]
theorem bys_end {s : ByteArray} {k : Nat} (h : s.size ≤ k) : bys s k = [] := by
  unfold bys
  rw [List.drop_of_length_le (by rw [Array.length_toList]; exact h)]
  rfl
theorem bys_cons {s : ByteArray} {k : Nat} (h : k < s.size) : bys s k = byt s k :: bys s (k + 1) := by
  unfold bys byt
  have h' : k < s.data.toList.length := by rw [Array.length_toList]; exact h
  rw [List.drop_eq_getElem_cons h', List.map_cons, getElem?_pos s k h]
  rfl
theorem byt_get (s : ByteArray) (k : Nat) : ((s.get! k).toNat : Int) = byt s k := by unfold byt; rw [get!_getD]

/-- a decoded rune is no surrogate, and its bytes are what stood there -/
theorem decode_scalar (s : ByteArray) (pos : Nat) (h : Utf8.decode s pos ≠ (65533, 1)) : (Utf8.decode s pos).1 < 55296 ∨ (57344 ≤ (Utf8.decode s pos).1 ∧ (Utf8.decode s pos).1 ≤ 1114111) := by
  rw [Lib.decode_at] at h ⊢
  have h0 := UInt8.toNat_lt (s.get! pos)
  revert h
  unfold Lib.decodeN
  repeat' split
  all_goals (intro h; first | (exact absurd rfl h) | (simp only; omega))
theorem decode_bytes (s : ByteArray) (pos : Nat) (hp : pos < s.size) (h : Utf8.decode s pos ≠ (65533, 1)) :
    Lib.encodeRuneZ ((Utf8.decode s pos).1 : Int) ++ bys s (pos + (Utf8.decode s pos).2) = bys s pos := by
  rw [Lib.decode_at] at h ⊢
  have h0 := UInt8.toNat_lt (s.get! pos)
  have h1 := UInt8.toNat_lt (s.get! (pos + 1))
  have h2 := UInt8.toNat_lt (s.get! (pos + 2))
  have h3 := UInt8.toNat_lt (s.get! (pos + 3))
  have e0 := byt_get s pos
  have e1 := byt_get s (pos + 1)
  have e2 := byt_get s (pos + 2)
  have e3 := byt_get s (pos + 3)
  obtain ⟨b0, hb0⟩ : ∃ x, (s.get! pos).toNat = x := ⟨_, rfl⟩
  obtain ⟨b1, hb1⟩ : ∃ x, (s.get! (pos + 1)).toNat = x := ⟨_, rfl⟩
  obtain ⟨b2, hb2⟩ : ∃ x, (s.get! (pos + 2)).toNat = x := ⟨_, rfl⟩
  obtain ⟨b3, hb3⟩ : ∃ x, (s.get! (pos + 3)).toNat = x := ⟨_, rfl⟩
  rw [hb0] at h h0 e0 ⊢
  rw [hb1] at h h1 e1 ⊢
  rw [hb2] at h h2 e2 ⊢
  rw [hb3] at h h3 e3 ⊢
  clear hb0 hb1 hb2 hb3
  rw [bys_cons hp, ← e0]
  revert h
  unfold Lib.decodeN
  split
  · intro _
    simp only
    rw [Lib.encodeRuneZ_one (by omega) (by omega)]
    rfl
  split
  · rename_i c0 c1
    split
    · intro _
      simp only
      rw [Lib.encodeRuneZ_two (by omega) (by omega), bys_cons (k := pos + 1) (by omega), ← e1]
      simp only [List.cons_append, List.nil_append, List.cons.injEq]
      refine ⟨by omega, by omega, trivial⟩
    · intro h; exact absurd rfl h
  split
  · rename_i c0 c1 c2
    split
    · intro _
      simp only
      rw [Lib.encodeRuneZ_three (by omega), bys_cons (k := pos + 1) (by omega), bys_cons (k := pos + 1 + 1) (by omega), ← e1, ← e2]
      simp only [List.cons_append, List.nil_append, List.cons.injEq]
      refine ⟨by omega, by omega, by omega, trivial⟩
    · intro h; exact absurd rfl h
  split
  · rename_i c0 c1 c2 c3
    split
    · intro _
      simp only
      rw [Lib.encodeRuneZ_four (by omega) (by omega), bys_cons (k := pos + 1) (by omega), bys_cons (k := pos + 1 + 1) (by omega), bys_cons (k := pos + 1 + 1 + 1) (by omega), ← e1, ← e2, ← e3]
      simp only [List.cons_append, List.nil_append, List.cons.injEq]
      refine ⟨by omega, by omega, by omega, by omega, trivial⟩
    · intro h; exact absurd rfl h
  · intro h; exact absurd rfl h

/-- the code points that units.Of reads -/
def runesU (s : ByteArray) : Nat → Nat → List Int
  | 0, _ => []
  | fuel + 1, pos => if pos < s.size then (if (Utf8.decode s pos) = (65533, 1) then [] else ((Utf8.decode s pos).1 : Int) :: runesU s fuel (pos + (Utf8.decode s pos).2)) else []
/-- a scalar value -/
def scalar (r : Int) : Prop := (0 ≤ r ∧ r < 55296) ∨ (57344 ≤ r ∧ r ≤ 1114111)
theorem runes_scalar (s : ByteArray) : ∀ fuel pos, ∀ r ∈ runesU s fuel pos, scalar r := by
  intro fuel
  induction fuel with
  | zero => intro pos r hr; cases hr
  | succ f ih =>
    intro pos r hr
    simp only [runesU] at hr
    split at hr
    · split at hr
      · cases hr
      · rename_i hp hd
        rcases List.mem_cons.1 hr with rfl | hr
        · have := decode_scalar s pos hd
          unfold scalar; omega
        · exact ih _ r hr
    · cases hr
theorem ofU_runes (s : ByteArray) : ∀ fuel pos, (ofU s fuel pos).1 = (runesU s fuel pos).flatMap pointU := by
  intro fuel
  induction fuel with
  | zero => intro pos; rfl
  | succ f ih =>
    intro pos
    simp only [ofU, runesU]
    split
    · split
      · rfl
      · simp only [List.flatMap_cons, ih]
    · rfl
theorem ofU_length (s : ByteArray) : ∀ fuel pos, (ofU s fuel pos).1.length ≤ 2 * fuel := by
  intro fuel
  induction fuel with
  | zero => intro pos; simp [ofU]
  | succ f ih =>
    intro pos
    simp only [ofU]
    split
    · split
      · simp
      · have h4 := bytes_point_le ((Utf8.decode s pos).1 : Int)
        rw [bytesOf_length] at h4
        have := ih (pos + (Utf8.decode s pos).2)
        simp only [List.length_append]
        omega
    · simp
theorem runes_bytes (s : ByteArray) : ∀ fuel pos, s.size ≤ pos + fuel → (ofU s fuel pos).2 = none → (runesU s fuel pos).flatMap Lib.encodeRuneZ = bys s pos := by
  intro fuel
  induction fuel with
  | zero => intro pos h _; rw [bys_end (by omega)]; rfl
  | succ f ih =>
    intro pos h hn
    simp only [ofU, runesU] at hn ⊢
    split
    · rename_i hp
      rw [if_pos hp] at hn
      split
      · rename_i hd
        rw [if_pos hd] at hn
        cases hn
      · rename_i hd
        rw [if_neg hd] at hn
        have hw := Lib.decode_width_pos s pos hp
        rw [List.flatMap_cons, ih _ (by omega) hn, decode_bytes s pos hp hd]
    · rename_i hp
      rw [bys_end (by omega)]; rfl

/-- pts of the units of scalar values are these values -/
theorem pts_scalar : ∀ (rs : List Int), (∀ r ∈ rs, scalar r) → ∀ k, (pts k (rs.flatMap pointU)).map (·.2) = rs := by
  intro rs
  induction rs with
  | nil => intro _ k; rfl
  | cons r l ih =>
    intro h k
    have hr := h r (by simp)
    have ih := ih (fun x hx => h x (by simp [hx]))
    rw [List.flatMap_cons]
    unfold scalar at hr
    by_cases hlow : r < 65536
    · rw [pointU_low (by omega) hlow]
      cases he : l.flatMap pointU with
      | nil =>
        have := ih k
        rw [he] at this
        rw [← this]
        rfl
      | cons v r' =>
        have := ih (k + 1)
        rw [he] at this
        simp only [List.cons_append, List.nil_append]
        rw [pts, if_neg (by omega), List.map_cons, this]
    · rw [pointU_high (by omega) (by omega)]
      simp only [List.cons_append, List.nil_append]
      rw [pts, if_pos (by omega), List.map_cons, ih (k + 2)]
      simp only [List.cons.injEq, and_true]
      omega

/-- the units of a text that was made of units -/
theorem makeB_size (us : List Int) : (makeB us).size = us.length * 2 := by
  unfold makeB; rw [strOfNums_size, bytesOf_length]
theorem bytesOf_get : ∀ (us : List Int) (k : Nat), (bytesOf us)[2 * k]? = us[k]?.map (· / 256) ∧ (bytesOf us)[2 * k + 1]? = us[k]?.map (· % 256) := by
  intro us
  induction us with
  | nil => intro k; simp [bytesOf]
  | cons u r ih =>
    intro k
    cases k with
    | zero => simp [bytesOf]
    | succ k =>
      have e1 : 2 * (k + 1) = (2 * k) + 1 + 1 := by omega
      have h : bytesOf (u :: r) = (u / 256) :: (u % 256) :: bytesOf r := rfl
      rw [h, e1]
      simp only [List.getElem?_cons_succ]
      exact ih k
theorem strOfNums_get (ns : List Int) (k : Nat) : (strOfNums ns)[k]? = ns[k]?.map fun n => UInt8.ofNat n.toNat := by
  by_cases h : k < ns.length
  · rw [getElem?_pos _ _ (by rw [strOfNums_size]; exact h), List.getElem?_eq_getElem h]
    have hk : k < (strOfNums ns).data.size := by show k < (strOfNums ns).size; rw [strOfNums_size]; exact h
    have : (strOfNums ns)[k]'(by rw [strOfNums_size]; exact h) = (strOfNums ns).data[k]'hk := rfl
    rw [this]
    simp [strOfNums]
  · rw [getElem?_neg _ _ (by rw [strOfNums_size]; exact h), List.getElem?_eq_none (by omega)]
    rfl
theorem U_make {us : List Int} (h : okU us) : U (makeB us) = us := by
  apply List.ext_getElem?
  intro k
  by_cases hk : k < us.length
  · rw [U_get _ _ (by rw [makeB_size]; omega), List.getElem?_eq_getElem hk]
    have hu := h us[k] (List.getElem_mem _)
    obtain ⟨g0, g1⟩ := bytesOf_get us k
    unfold unitAt makeB
    rw [strOfNums_get, strOfNums_get, g0, g1, List.getElem?_eq_getElem hk]
    simp only [Option.map_some, Option.getD_some, UInt8.toNat_ofNat']
    congr 1
    omega
  · rw [List.getElem?_eq_none (by rw [U_length, makeB_size]; omega), List.getElem?_eq_none (by omega)]
theorem flat_ok (rs : List Int) : okU (rs.flatMap pointU) := by
  intro u hu
  obtain ⟨r, _, h⟩ := List.mem_flatMap.1 hu
  exact point_ok r u h

/-- WHAT UnitsReads SAYS: UTF-8 that is read is the text again -/
theorem text_of (s : ByteArray) (h : (ofU s s.size 0).2 = none) : textB (makeB (ofU s s.size 0).1) = s := by
  unfold textB PF
  rw [ofU_runes, U_make (flat_ok _), List.drop_zero]
  have h1 := pts_scalar (runesU s s.size 0) (runes_scalar s _ _) 0
  have h2 : (pts 0 ((runesU s s.size 0).flatMap pointU)).flatMap (fun x => Lib.encodeRuneZ x.2) = (runesU s s.size 0).flatMap Lib.encodeRuneZ := by
    conv => rhs; rw [← h1]
    rw [List.flatMap_map]
  rw [h2, runes_bytes s _ _ (by omega) h, bys_all]
end Go.Proofs.YthmdlnmbjgokaaaDoor
