/- The plain law of ShapeShares: the same keys come to the same shapes; no shape has more slots than keys were added. -/
import Derived.Test.YtopepkcmpogdoaaFew
import Derived.Test.YtopepkcmpogdoaaKeysW
namespace Go.Proofs.Ytopepkcmpogdoaa
open Go.RowKit

def shapeLen (m : TM) (s : Int) : Nat := (lM m s).length
def InT (m : TM) (s : Int) : Prop := 0 ≤ s ∧ s < m.1.length
/-- m' has all that m has -/
structure Ext (m m' : TM) : Prop where
  shapes : ∃ X, m'.1 = m.1 ++ X
  ways : ∀ x n, m.2 x = some n → m'.2 x = some n
/-- the ways lead to shapes that are there -/
structure Well (m : TM) : Prop where
  one : 1 ≤ m.1.length
  ways : ∀ x n, m.2 x = some n → InT m n ∧ InT m x.1 ∧ shapeLen m n ≤ shapeLen m x.1 + 1

theorem Ext.refl (m : TM) : Ext m m := ⟨⟨[], by simp⟩, fun _ _ h => h⟩
theorem Ext.trans {a b c : TM} (h : Ext a b) (k : Ext b c) : Ext a c := by
  obtain ⟨X, hX⟩ := h.shapes
  obtain ⟨Y, hY⟩ := k.shapes
  exact ⟨⟨X ++ Y, by rw [hY, hX, List.append_assoc]⟩, fun x n hx => k.ways x n (h.ways x n hx)⟩
theorem Ext.inT {m m' : TM} (h : Ext m m') {s : Int} (hs : InT m s) : InT m' s := by
  obtain ⟨X, hX⟩ := h.shapes
  refine ⟨hs.1, ?_⟩
  have := hs.2
  rw [hX, List.length_append]
  omega
theorem Ext.lM {m m' : TM} (h : Ext m m') {s : Int} (hs : InT m s) : lM m' s = lM m s := by
  obtain ⟨X, hX⟩ := h.shapes
  unfold Proofs.Ytopepkcmpogdoaa.lM
  have h2 : s.toNat < m.1.length := by have := hs.1; have := hs.2; omega
  simp only [hX, List.getD_eq_getElem?_getD]
  rw [List.getElem?_append_left h2]
theorem lM_new (m : TM) (l : List Sl) (g : WK → Option Int) : lM (m.1 ++ [l], g) m.1.length = l := by
  simp [lM]

section
variable (m : TM) (s : Int) (k : KK) (fl : Int)
theorem add_ext : Ext m (addM m s k fl).1 := by
  unfold addM
  split
  · exact Ext.refl m
  split
  · exact Ext.refl m
  split
  · exact Ext.refl m
  split
  · exact Ext.refl m
  cases hf : m.2 (s, false, (plainK k).1, (plainK k).2, fl) with
  | some n => exact Ext.refl m
  | none =>
    refine ⟨⟨_, rfl⟩, fun x n hx => ?_⟩
    simp only [updK]
    split
    · rename_i h
      rw [h, hf] at hx
      cases hx
    · exact hx

theorem add_again {m' : TM} (hs : InT m s) (h : Ext (addM m s k fl).1 m') : addM m' s k fl = (m', (addM m s k fl).2) := by
  have hE : Ext m m' := (add_ext m s k fl).trans h
  have hs' := hE.inT hs
  have hl := hE.lM hs
  have e' : addM m' s k fl = if fl < 0 ∨ 15 < fl then (m', (0 : Int), (1 : Int)) else if (atFn (lM m s) (plainK k)).isSome then (m', 0, 141) else if 128 ≤ (lM m s).length then (m', 0, 2)
      else match m'.2 (s, false, (plainK k).1, (plainK k).2, fl) with
        | some n => (m', n, 0)
        | none => ((m'.1 ++ [lM m' s ++ [(k.1, k.2, fl)]], updK m'.2 (s, false, (plainK k).1, (plainK k).2, fl) m'.1.length), (m'.1.length : Int), 0) := by
    unfold addM
    rw [if_neg (show ¬ ¬ (0 ≤ s ∧ s < (m'.1.length : Int)) from fun h => h hs'), hl]
    rfl
  rw [e']
  clear e'
  unfold addM at h ⊢
  rw [if_neg (show ¬ ¬ (0 ≤ s ∧ s < (m.1.length : Int)) from fun h => h hs)] at h ⊢
  by_cases h1 : fl < 0 ∨ 15 < fl
  · rw [if_pos h1, if_pos h1]
  rw [if_neg h1] at h
  rw [if_neg h1, if_neg h1]
  by_cases h2 : (atFn (lM m s) (plainK k)).isSome = true
  · rw [if_pos h2, if_pos h2]
  rw [if_neg h2] at h
  rw [if_neg h2, if_neg h2]
  by_cases h3 : 128 ≤ (lM m s).length
  · rw [if_pos h3, if_pos h3]
  rw [if_neg h3] at h
  rw [if_neg h3, if_neg h3]
  cases hf : m.2 (s, false, (plainK k).1, (plainK k).2, fl) with
  | some n => rw [hE.ways _ _ hf]
  | none =>
    simp only [hf] at h
    rw [h.ways (s, false, (plainK k).1, (plainK k).2, fl) m.1.length (by simp [updK])]

theorem add_well (hW : Well m) (hs : InT m s) : Well (addM m s k fl).1 ∧ ((addM m s k fl).2.2 = 0 → InT (addM m s k fl).1 (addM m s k fl).2.1 ∧ shapeLen (addM m s k fl).1 (addM m s k fl).2.1 ≤ shapeLen m s + 1) := by
  unfold addM
  rw [if_neg (show ¬ ¬ (0 ≤ s ∧ s < (m.1.length : Int)) from fun h => h hs)]
  split
  · exact ⟨hW, fun h => by cases h⟩
  split
  · exact ⟨hW, fun h => by cases h⟩
  split
  · exact ⟨hW, fun h => by cases h⟩
  cases hf : m.2 (s, false, (plainK k).1, (plainK k).2, fl) with
  | some n => exact ⟨hW, fun _ => ⟨(hW.ways _ _ hf).1, (hW.ways _ _ hf).2.2⟩⟩
  | none =>
    have hE : Ext m (m.1 ++ [lM m s ++ [(k.1, k.2, fl)]], updK m.2 (s, false, (plainK k).1, (plainK k).2, fl) m.1.length) := by
      have := add_ext m s k fl
      refine ⟨⟨_, rfl⟩, fun x n hx => ?_⟩
      simp only [updK]
      split
      · rename_i h
        rw [h, hf] at hx
        cases hx
      · exact hx
    have hnew : InT (m.1 ++ [lM m s ++ [(k.1, k.2, fl)]], updK m.2 (s, false, (plainK k).1, (plainK k).2, fl) m.1.length) (m.1.length : Int) := by
      refine ⟨by omega, ?_⟩
      simp only [List.length_append, List.length_cons, List.length_nil]
      omega
    have hlen : shapeLen (m.1 ++ [lM m s ++ [(k.1, k.2, fl)]], updK m.2 (s, false, (plainK k).1, (plainK k).2, fl) m.1.length) (m.1.length : Int) ≤ shapeLen m s + 1 := by
      unfold shapeLen
      rw [lM_new]
      simp
    refine ⟨⟨by simp, fun x n hx => ?_⟩, fun _ => ⟨hnew, hlen⟩⟩
    simp only [updK] at hx
    split at hx
    · rename_i h
      injection hx with hx
      rw [h, ← hx]
      refine ⟨hnew, hE.inT hs, ?_⟩
      show shapeLen _ _ ≤ shapeLen _ s + 1
      have e : shapeLen (m.1 ++ [lM m s ++ [(k.1, k.2, fl)]], updK m.2 (s, false, (plainK k).1, (plainK k).2, fl) m.1.length) s = shapeLen m s := by
        unfold shapeLen
        rw [hE.lM hs]
      rw [e]
      exact hlen
    · obtain ⟨h1, h2, h3⟩ := hW.ways x n hx
      refine ⟨hE.inT h1, hE.inT h2, ?_⟩
      have e1 : ∀ j, InT m j → shapeLen (m.1 ++ [lM m s ++ [(k.1, k.2, fl)]], updK m.2 (s, false, (plainK k).1, (plainK k).2, fl) m.1.length) j = shapeLen m j := fun j hj => by
        unfold shapeLen
        rw [hE.lM hj]
      rw [e1 _ h1, e1 _ h2]
      exact h3

theorem add_length : (addM m s k fl).1.1.length ≤ m.1.length + 1 := by
  unfold addM
  split
  · simp
  split
  · simp
  split
  · simp
  split
  · simp
  split <;> simp
end

/-- one step of the walk: a key that is not added leaves the shape as it was -/
def stepS (p : TM × Int) (o : OpT) : TM × Int := ((addM p.1 p.2 o.2.2.1 o.2.2.2.1).1, if (addM p.1 p.2 o.2.2.1 o.2.2.2.1).2.2 ≠ 0 then p.2 else (addM p.1 p.2 o.2.2.1 o.2.2.2.1).2.1)
def stS (l : List OpT) (k : Nat) : TM × Int := (l.take k).foldl stepS (([[]], fun _ => none), 0)
theorem stS_succ (l : List OpT) (k : Nat) (o : OpT) (h : l[k]? = some o) : stS l (k + 1) = stepS (stS l k) o := by
  unfold stS
  rw [List.take_add_one, h]
  simp
theorem stS_zero (l : List OpT) : stS l 0 = (([[]], fun _ => none), 0) := by simp [stS]

theorem stS_good (l : List OpT) : ∀ k, k ≤ l.length → Well (stS l k).1 ∧ InT (stS l k).1 (stS l k).2 ∧ shapeLen (stS l k).1 (stS l k).2 ≤ k ∧ (stS l k).1.1.length ≤ k + 1 := by
  intro k
  induction k with
  | zero =>
    intro _
    rw [stS_zero]
    exact ⟨⟨by simp, fun x n h => by cases h⟩, ⟨by simp, by simp⟩, by simp [shapeLen, lM], by simp⟩
  | succ k ih =>
    intro hk
    obtain ⟨h1, h2, h3, h4⟩ := ih (by omega)
    obtain ⟨o, ho⟩ : ∃ o, l[k]? = some o := ⟨l[k], List.getElem?_eq_getElem (by omega)⟩
    rw [stS_succ l k o ho]
    obtain ⟨a1, a2⟩ := add_well (stS l k).1 (stS l k).2 o.2.2.1 o.2.2.2.1 h1 h2
    have hE := add_ext (stS l k).1 (stS l k).2 o.2.2.1 o.2.2.2.1
    have hL := add_length (stS l k).1 (stS l k).2 o.2.2.1 o.2.2.2.1
    unfold stepS
    refine ⟨a1, ?_, ?_, by simp only; omega⟩
    · split
      · exact hE.inT h2
      · rename_i h; exact (a2 (by omega)).1
    · split
      · simp only [shapeLen, hE.lM h2] at h3 ⊢; omega
      · rename_i h; have := (a2 (by omega)).2; simp only at this ⊢; omega

theorem stS_ext (l : List OpT) : ∀ (d k : Nat), k + d ≤ l.length → Ext (stS l k).1 (stS l (k + d)).1 := by
  intro d
  induction d with
  | zero => intro k _; exact Ext.refl _
  | succ d ih =>
    intro k hk
    obtain ⟨o, ho⟩ : ∃ o, l[k + d]? = some o := ⟨l[k + d], List.getElem?_eq_getElem (by omega)⟩
    refine (ih k (by omega)).trans ?_
    rw [← Nat.add_assoc, stS_succ l (k + d) o ho]
    exact add_ext _ _ _ _

/-- the second turn: nothing new; the same answer -/
theorem stS_again (l : List OpT) (k : Nat) (o : OpT) (h : l[k]? = some o) :
    addM (stS l l.length).1 (stS l k).2 o.2.2.1 o.2.2.2.1 = ((stS l l.length).1, (addM (stS l k).1 (stS l k).2 o.2.2.1 o.2.2.2.1).2) := by
  have hk := (List.getElem?_eq_some_iff.1 h).1
  refine add_again _ _ _ _ (stS_good l k (by omega)).2.1 ?_
  have e : (addM (stS l k).1 (stS l k).2 o.2.2.1 o.2.2.2.1).1 = (stS l (k + 1)).1 := by rw [stS_succ l k o h]; rfl
  rw [e]
  have := stS_ext l (l.length - (k + 1)) (k + 1) (by omega)
  rwa [show k + 1 + (l.length - (k + 1)) = l.length from by omega] at this

/-- what is told of the shapes on the way -/
theorem stS_told (l : List OpT) (k : Nat) (hk : k ≤ l.length) : InT (stS l l.length).1 (stS l k).2 ∧ (atShape (stS l l.length).1.1 (stS l k).2).length ≤ k := by
  obtain ⟨h1, h2, h3, h4⟩ := stS_good l k hk
  have hE := stS_ext l (l.length - k) k (by omega)
  rw [show k + (l.length - k) = l.length from by omega] at hE
  have h5 := hE.inT h2
  refine ⟨h5, ?_⟩
  unfold atShape
  rw [if_pos (show 0 ≤ (stS l k).2 ∧ (stS l k).2 < ((stS l l.length).1.1.length : Int) from h5)]
  have := hE.lM h2
  unfold lM at this
  rw [this]
  exact h3
end Go.Proofs.Ytopepkcmpogdoaa
