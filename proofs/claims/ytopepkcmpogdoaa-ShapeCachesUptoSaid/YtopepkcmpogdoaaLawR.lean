/- The plain law of ShapeDoes and ShapeCaches: the tree and the document's tree say the same. -/
import Derived.Test.YtopepkcmpogdoaaTreeCh
import Derived.Test.YtopepkcmpogdoaaLawS
namespace Go.Proofs.Ytopepkcmpogdoaa
open Go.RowKit

/-- no key stands twice in a shape -/
def Dist (l : List Sl) : Prop := (l.map fun s => plainK (slKey s)).Nodup
theorem atFn_none (l : List Sl) (p : KK) (h : ∀ x ∈ l, plainK (slKey x) ≠ p) : atFn l p = none := by
  induction l with
  | nil => rfl
  | cons s r ih =>
    simp only [atFn]
    rw [ih fun x hx => h x (by simp [hx])]
    simp only
    rw [if_neg fun e => h s (by simp) e.symm]
theorem atFn_none' (l : List Sl) (p : KK) (h : atFn l p = none) : ∀ x ∈ l, plainK (slKey x) ≠ p := by
  induction l with
  | nil => simp
  | cons s r ih =>
    simp only [atFn] at h
    cases hr : atFn r p with
    | some i => rw [hr] at h; simp at h
    | none =>
      rw [hr] at h
      simp only at h
      split at h
      · cases h
      · rename_i hne
        intro x hx
        rcases List.mem_cons.1 hx with rfl | hx
        · exact fun e => hne e.symm
        · exact ih hr x hx
theorem at_findF (k : KK) (l : List Sl) (hd : Dist l) : ∀ i : Int, 0 ≤ i → atFn l (plainK k) = if findF k l i < 0 then none else some (findF k l i - i) := by
  induction l with
  | nil => intro i _; simp [atFn, findF]
  | cons s r ih =>
    intro i hi
    unfold Dist at hd
    simp only [List.map_cons, List.nodup_cons] at hd
    simp only [atFn]
    by_cases hs : sameB (slKey s) k = true
    · have ef : findF k (s :: r) i = i := by simp [findF, hs]
      have e := (sameB_iff _ _).1 hs
      rw [ef, atFn_none r (plainK k) fun x hx he => hd.1 (List.mem_map.2 ⟨x, hx, by rw [he, e]⟩)]
      simp only
      rw [if_pos e.symm, if_neg (by omega)]
      congr 1
      omega
    · have ef : findF k (s :: r) i = findF k r (i + 1) := by simp [findF, hs]
      rw [ef, ih hd.2 (i + 1) (by omega)]
      by_cases hn : findF k r (i + 1) < 0
      · rw [if_pos hn, if_pos hn]
        simp only
        rw [if_neg fun e => hs ((sameB_iff _ _).2 e.symm)]
      · rw [if_neg hn, if_neg hn]
        simp only
        congr 1
        omega
theorem at_findR (k : KK) (l : List Sl) (hd : Dist l) : atFn l (plainK k) = if findR l k < 0 then none else some (findR l k) := by
  have := at_findF k l hd 0 (Int.le_refl _)
  rw [this, Int.sub_zero]
  rfl

theorem Dist.snoc {l : List Sl} (hd : Dist l) {k : KK} {fl : Int} (h : atFn l (plainK k) = none) : Dist (l ++ [(k.1, k.2, fl)]) := by
  unfold Dist at hd ⊢
  rw [List.map_append, List.nodup_append]
  refine ⟨hd, by simp, fun a ha b hb e => ?_⟩
  obtain ⟨x, hx, rfl⟩ := List.mem_map.1 ha
  have hb' : b = plainK k := by simpa [slKey] using hb
  exact atFn_none' l _ h x hx (by rw [e, hb'])
theorem setFl_keys (l : List Sl) (i : Nat) (fl : Int) : (setFl l i fl).map (fun s => plainK (slKey s)) = l.map fun s => plainK (slKey s) := by
  induction l generalizing i with
  | nil => rfl
  | cons s r ih =>
    cases i with
    | zero => rfl
    | succ i => simp only [setFl, List.map_cons, ih]
theorem Dist.setFl {l : List Sl} (hd : Dist l) (i : Nat) (fl : Int) : Dist (setFl l i fl) := by
  unfold Dist
  rw [setFl_keys]
  exact hd

/-- the tree m and the document's tree r say the same -/
structure Sim (m : TM) (r : RM) : Prop where
  same : m.1 = r.1
  dist : ∀ l ∈ m.1, Dist l
  pos : ∀ x ∈ r.2, 0 ≤ x.2.2.2.2
  ways : ∀ s c k fl, m.2 (s, c, (plainK k).1, (plainK k).2, fl) = if 0 ≤ wayF s c k fl r.2 then some (wayF s c k fl r.2) else none

theorem Sim.new : Sim ([[]], fun _ => none) ([[]], []) := ⟨rfl, by simp [Dist], by simp, fun s c k fl => by simp [wayF]⟩

theorem wayF_snoc (s : Int) (c : Bool) (k : KK) (fl : Int) (W : List Wy) (hp : ∀ x ∈ W, 0 ≤ x.2.2.2.2) (y : Wy) :
    wayF s c k fl (W ++ [y]) = if 0 ≤ wayF s c k fl W then wayF s c k fl W else wayF s c k fl [y] := by
  induction W with
  | nil => simp [wayF]
  | cons x r ih =>
    by_cases h : ((x.1 == s) && (x.2.1 == c) && (x.2.2.2.1 == fl) && sameB x.2.2.1 k) = true
    · have e1 : wayF s c k fl (x :: r) = x.2.2.2.2 := by rw [wayF, if_pos h]
      have e2 : wayF s c k fl (x :: r ++ [y]) = x.2.2.2.2 := by rw [List.cons_append, wayF, if_pos h]
      rw [e1, e2, if_pos (hp x (by simp))]
    · have e1 : wayF s c k fl (x :: r) = wayF s c k fl r := by rw [wayF, if_neg h]
      have e2 : wayF s c k fl (x :: r ++ [y]) = wayF s c k fl (r ++ [y]) := by rw [List.cons_append, wayF, if_neg h]
      rw [e1, e2]
      exact ih fun x hx => hp x (by simp [hx])

theorem Sim.dist_at {m : TM} {r : RM} (h : Sim m r) (s : Int) : Dist (lM m s) := by
  unfold lM
  rw [List.getD_eq_getElem?_getD]
  cases he : m.1[s.toNat]? with
  | none => simp [Dist]
  | some l => exact h.dist l (List.mem_of_getElem? he)

/-- one way more on both sides -/
theorem Sim.grow {m : TM} {r : RM} (h : Sim m r) (s : Int) (c : Bool) (k : KK) (fl : Int) (l : List Sl) (hl : Dist l) (hn : ¬ 0 ≤ wayF s c k fl r.2) :
    Sim (m.1 ++ [l], updK m.2 (s, c, (plainK k).1, (plainK k).2, fl) m.1.length) (r.1 ++ [l], r.2 ++ [(s, c, k, fl, (r.1.length : Int))]) := by
  refine ⟨by rw [h.same], ?_, ?_, fun s' c' k' fl' => ?_⟩
  · intro x hx
    rcases List.mem_append.1 hx with h1 | h1
    · exact h.dist x h1
    · obtain rfl : x = l := by simpa using h1
      exact hl
  · intro x hx
    rcases List.mem_append.1 hx with h1 | h1
    · exact h.pos x h1
    · obtain rfl : x = (s, c, k, fl, (r.1.length : Int)) := by simpa using h1
      exact Int.natCast_nonneg _
  · simp only [updK, wayF_snoc _ _ _ _ _ h.pos]
    by_cases he : (s', c', (plainK k').1, (plainK k').2, fl') = (s, c, (plainK k).1, (plainK k).2, fl)
    · rw [if_pos he]
      injection he with e1 he
      injection he with e2 he
      injection he with e3 he
      injection he with e4 e5
      subst e1 e2 e5
      have hk : sameB k k' = true := (sameB_iff _ _).2 (by rw [← Prod.eta (plainK k), ← Prod.eta (plainK k'), e3, e4])
      have hw : wayF s' c' k' fl' r.2 = wayF s' c' k fl' r.2 := by
        have hkk : plainK k' = plainK k := by rw [← Prod.eta (plainK k), ← Prod.eta (plainK k'), e3, e4]
        clear hn
        generalize r.2 = W
        induction W with
        | nil => rfl
        | cons x t ih =>
          simp only [wayF, ih]
          have hsb : sameB x.2.2.1 k' = sameB x.2.2.1 k := by
            rw [Bool.eq_iff_iff, sameB_iff, sameB_iff, hkk]
          rw [hsb]
      rw [hw, if_neg hn]
      simp [wayF, hk, h.same]
    · rw [if_neg he, h.ways s' c' k' fl']
      have hw1 : wayF s' c' k' fl' [(s, c, k, fl, (r.1.length : Int))] = -1 := by
        simp only [wayF]
        rw [if_neg]
        intro h1
        simp only [Bool.and_eq_true, beq_iff_eq] at h1
        obtain ⟨⟨⟨q1, q2⟩, q3⟩, q4⟩ := h1
        exact he (by rw [q1, q2, q3, (sameB_iff _ _).1 q4])
      rw [hw1]
      by_cases hp : 0 ≤ wayF s' c' k' fl' r.2
      · rw [if_pos hp, if_pos hp, if_pos hp]
      · rw [if_neg hp, if_neg hp]
        rfl

theorem Sim.find {m : TM} {r : RM} (h : Sim m r) (s : Int) (k : KK) : findM m.1 s k = findD r.1 s k := by
  unfold findM findD
  rw [← h.same]
  by_cases hin : 0 ≤ s ∧ s < (m.1.length : Int)
  · have hnin : ¬ ¬ (0 ≤ s ∧ s < (m.1.length : Int)) := fun hc => hc hin
    rw [if_neg hnin, if_neg hnin]
    have hd := h.dist_at s
    unfold lM at hd
    rw [at_findR k _ hd]
    by_cases hn : findR (m.1.getD s.toNat []) k < 0
    · rw [if_pos hn, if_pos hn]
    · rw [if_neg hn, if_neg hn]
  · rw [if_pos hin, if_pos hin]

theorem Sim.add {m : TM} {r : RM} (h : Sim m r) (s : Int) (k : KK) (fl : Int) : (addM m s k fl).2 = (addD r s k fl).2 ∧ Sim (addM m s k fl).1 (addD r s k fl).1 := by
  have hs := h.same
  unfold addM addD
  rw [← hs]
  by_cases hin : 0 ≤ s ∧ s < (m.1.length : Int)
  · have hnin : ¬ ¬ (0 ≤ s ∧ s < (m.1.length : Int)) := fun hc => hc hin
    rw [if_neg hnin, if_neg hnin]
    by_cases h1 : fl < 0 ∨ 15 < fl
    · rw [if_pos h1, if_pos h1]; exact ⟨rfl, h⟩
    rw [if_neg h1, if_neg h1]
    have hd := h.dist_at s
    have hat := at_findR k _ hd
    have el : m.1.getD s.toNat [] = lM m s := rfl
    rw [el]
    by_cases h2 : findR (lM m s) k < 0
    · rw [if_pos h2] at hat
      rw [hat, if_neg (show ¬ (none : Option Int).isSome = true by simp), if_neg (show ¬ 0 ≤ findR (lM m s) k by omega)]
      by_cases h3 : 128 ≤ (lM m s).length
      · rw [if_pos h3, if_pos h3]; exact ⟨rfl, h⟩
      rw [if_neg h3, if_neg h3, h.ways]
      by_cases h4 : 0 ≤ wayF s false k fl r.2
      · rw [if_pos h4, if_pos h4]; exact ⟨rfl, h⟩
      · rw [if_neg h4, if_neg h4]
        have := h.grow s false k fl (lM m s ++ [(k.1, k.2, fl)]) (hd.snoc hat) h4
        rw [← hs] at this
        exact ⟨rfl, this⟩
    · rw [if_neg h2] at hat
      rw [hat, if_pos (show (some (findR (lM m s) k)).isSome = true from rfl), if_pos (show 0 ≤ findR (lM m s) k by omega)]
      exact ⟨rfl, h⟩
  · rw [if_pos hin, if_pos hin]; exact ⟨rfl, h⟩

theorem Sim.change {m : TM} {r : RM} (h : Sim m r) (s : Int) (k : KK) (fl : Int) : (changeM m s k fl).2 = (changeD r s k fl).2 ∧ Sim (changeM m s k fl).1 (changeD r s k fl).1 := by
  have hs := h.same
  unfold changeM changeD
  rw [← hs]
  by_cases hin : 0 ≤ s ∧ s < (m.1.length : Int)
  · have hnin : ¬ ¬ (0 ≤ s ∧ s < (m.1.length : Int)) := fun hc => hc hin
    rw [if_neg hnin, if_neg hnin]
    by_cases h1 : fl < 0 ∨ 15 < fl
    · rw [if_pos h1, if_pos h1]; exact ⟨rfl, h⟩
    rw [if_neg h1, if_neg h1]
    have hd := h.dist_at s
    have hat := at_findR k _ hd
    have el : m.1.getD s.toNat [] = lM m s := rfl
    rw [el]
    by_cases h2 : findR (lM m s) k < 0
    · rw [if_pos h2] at hat
      rw [hat, if_pos h2]
      exact ⟨rfl, h⟩
    · rw [if_neg h2] at hat
      rw [hat, if_neg h2]
      simp only
      by_cases h3 : flagAt (lM m s) (findR (lM m s) k) = fl
      · rw [if_pos h3, if_pos h3]; exact ⟨rfl, h⟩
      rw [if_neg h3, if_neg h3, h.ways]
      by_cases h4 : 0 ≤ wayF s true k fl r.2
      · rw [if_pos h4, if_pos h4]; exact ⟨rfl, h⟩
      · rw [if_neg h4, if_neg h4]
        have := h.grow s true k fl _ (hd.setFl (findR (lM m s) k).toNat fl) h4
        rw [← hs] at this
        exact ⟨rfl, this⟩
  · rw [if_pos hin, if_pos hin]; exact ⟨rfl, h⟩

theorem change_ext (m : TM) (s : Int) (k : KK) (fl : Int) : Ext m (changeM m s k fl).1 := by
  unfold changeM
  split
  · exact Ext.refl m
  split
  · exact Ext.refl m
  split
  · exact Ext.refl m
  split
  · exact Ext.refl m
  split
  · exact Ext.refl m
  · rename_i hf
    refine ⟨⟨_, rfl⟩, fun x n hx => ?_⟩
    simp only [updK]
    split
    · rename_i h
      rw [h, hf] at hx
      cases hx
    · exact hx
theorem change_length (m : TM) (s : Int) (k : KK) (fl : Int) : (changeM m s k fl).1.1.length ≤ m.1.length + 1 := by
  unfold changeM
  split
  · simp
  split
  · simp
  split
  · simp
  split
  · simp
  split <;> simp
theorem addD_ways (r : RM) (s : Int) (k : KK) (fl : Int) : (addD r s k fl).1.2.length ≤ r.2.length + 1 := by
  unfold addD
  repeat' split
  all_goals simp
theorem changeD_ways (r : RM) (s : Int) (k : KK) (fl : Int) : (changeD r s k fl).1.2.length ≤ r.2.length + 1 := by
  unfold changeD
  repeat' split
  all_goals simp
end Go.Proofs.Ytopepkcmpogdoaa
