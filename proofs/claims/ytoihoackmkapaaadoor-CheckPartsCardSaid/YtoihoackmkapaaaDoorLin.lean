/- A law for regions that draw their order. Light operations (which yield one value in every world that meets S) are taken as soon as they may come up;
   of the others each order that the edges allow is walked. The orders are given as a tree, written as a Code:
   block k t: take the light operation k, then t; scope g: a group of heavy ones, of which g names all that may come up: seq (label k) t: k, then t; cond: both; skip: the end. -/
import Derived.Deep.RegionHeld3
import Derived.WalkKit
namespace Go.Proofs.YtoihoackmkapaaaDoor
open Go.RowKit

section
variable {P : Program} {ops : Array Oper} {Q : Exit → Act → World → Prop} {md : Region.Mode} {S : World → Prop} {lates ls : List Nat}

/-- Whatever order is picked from here on; S holds behind every operation that is carried out, but for the late ones. -/
def wpAnyS (P : Program) (md : Region.Mode) (ops : Array Oper) (Q : Exit → Act → World → Prop) (S : World → Prop) (lates : List Nat) : Nat → Array Bool → Act → World → Prop
  | 0, listed, a, w => Region.ready md ops listed = [] ∧ Q .normal a w
  | fuel + 1, listed, a, w =>
    (Region.ready md ops listed = [] → Q .normal a w) ∧
    ∀ i ∈ Region.ready md ops listed, wpOp P ops Q i (fun a' w' => (lates.contains i = false → S w') ∧ wpAnyS P md ops Q S lates fuel (listed.setIfInBounds i true) a' w') a w

theorem wpAny_of_S : ∀ (fuel : Nat) (listed : Array Bool) (a : Act) (w : World), wpAnyS P md ops Q S lates fuel listed a w → wpAny P md ops Q fuel listed a w
  | 0, _, _, _, h => h
  | fuel + 1, _, _, _, h => ⟨h.1, fun i hi => wpOp_mono (fun a' w' h' => wpAny_of_S fuel _ a' w' h'.2) (h.2 i hi)⟩

theorem wpAnyS_done {listed : Array Bool} {a : Act} {w : World} (hr : Region.ready md ops listed = []) (h : Q .normal a w) : ∀ fuel, wpAnyS P md ops Q S lates fuel listed a w
  | 0 => ⟨hr, h⟩
  | _ + 1 => ⟨fun _ => h, by rw [hr]; simp⟩

/-- whether j waits for k: by an edge, or by way of others -/
def waits (md : Region.Mode) (ops : Array Oper) : Nat → Nat → Nat → Bool
  | 0, _, _ => false
  | f + 1, j, k => match ops[j]? with
    | some oj => oj.after.any (fun e => Region.binds md e && e.on == k) || oj.after.any (fun e => Region.binds md e && waits md ops f e.on k)
    | none => false
/-- each late operation waits for each that is not late -/
def lateOK (md : Region.Mode) (ops : Array Oper) (lates : List Nat) : Bool :=
  lates.all fun j => (List.range ops.size).all fun k => lates.contains k || waits md ops ops.size j k
/-- what is listed has all listed that it waits for -/
def ClosedL (md : Region.Mode) (ops : Array Oper) (listed : Array Bool) : Prop := ∀ (j : Nat) (oj : Oper), ops[j]? = some oj → listed.getD j false = true → ∀ e ∈ oj.after, Region.binds md e = true → listed.getD e.on false = true

theorem waits_spec {listed : Array Bool} (hc : ClosedL md ops listed) {k : Nat} : ∀ (f j : Nat) (oj : Oper), ops[j]? = some oj → (∀ e ∈ oj.after, Region.binds md e = true → listed.getD e.on false = true) → waits md ops f j k = true → listed.getD k false = true := by
  intro f
  induction f with
  | zero => intro j oj _ _ h; cases h
  | succ f ih =>
    intro j oj ho hl h
    simp only [waits, ho, Bool.or_eq_true] at h
    rcases h with h | h
    · obtain ⟨e, he, hb⟩ := Array.any_eq_true'.1 h
      simp only [Bool.and_eq_true, beq_iff_eq] at hb
      rw [← hb.2]
      exact hl e he hb.1
    · obtain ⟨e, he, hb⟩ := Array.any_eq_true'.1 h
      simp only [Bool.and_eq_true] at hb
      have h1 := hl e he hb.1
      cases ho2 : ops[e.on]? with
      | none =>
        cases f with
        | zero => simp [waits] at hb
        | succ f => simp [waits, ho2] at hb
      | some o2 => exact ih e.on o2 ho2 (hc e.on o2 ho2 h1) hb.2
theorem getD_set_true {listed : Array Bool} {i j : Nat} (h : listed.getD j false = true) : (listed.setIfInBounds i true).getD j false = true := by
  by_cases hij : i = j
  · subst hij
    have hlt : i < listed.size := by
      rcases Nat.lt_or_ge i listed.size with h' | h'
      · exact h'
      · simp [Array.getElem?_eq_none h'] at h
    simp [hlt]
  · rw [getD_set_ne false hij]; exact h
theorem ClosedL.set {listed : Array Bool} (hc : ClosedL md ops listed) {i : Nat} (hi : i ∈ Region.ready md ops listed) : ClosedL md ops (listed.setIfInBounds i true) := fun j oj ho hj e he hb => by
  by_cases hij : i = j
  · subst hij
    obtain ⟨_, o, ho', hall⟩ := mem_ready.1 hi
    rw [ho] at ho'
    injection ho' with ho'
    subst ho'
    exact getD_set_true (hall e he hb)
  · rw [getD_set_ne false hij] at hj
    exact getD_set_true (hc j oj ho hj e he hb)
theorem ClosedL.none (n : Nat) : ClosedL md ops (Array.replicate n false) := fun j oj _ hj => by
  rcases Nat.lt_or_ge j n with h | h
  · simp [h] at hj
  · simp [Array.getElem?_eq_none (xs := Array.replicate n false) (by simpa using h)] at hj

theorem lateOK_waits (h : lateOK md ops lates = true) {j k : Nat} (hj : lates.contains j = true) (hk : lates.contains k = false) (hk2 : k < ops.size) : waits md ops ops.size j k = true := by
  have h1 := List.all_eq_true.1 h j (by simpa using hj)
  have h2 := List.all_eq_true.1 h1 k (List.mem_range.2 hk2)
  rw [hk] at h2
  simpa using h2

theorem lateOK_spec (h : lateOK md ops lates = true) {listed : Array Bool} (hc : ClosedL md ops listed) {j k : Nat} (hj : lates.contains j = true) (hk : lates.contains k = false) (hk2 : k < ops.size) (hr : j ∈ Region.ready md ops listed) : listed.getD k false = true := by
  obtain ⟨_, o, ho, hall⟩ := mem_ready.1 hr
  exact waits_spec hc _ j o ho hall (lateOK_waits h hj hk hk2)

theorem ready_listed {i : Nat} {listed : Array Bool} (h : i ∈ Region.ready md ops listed) : listed.getD i false = false := by
  have h0 := (mem_ready.1 h).1
  rcases Nat.lt_or_ge i listed.size with h' | h'
  · simp [h'] at h0 ⊢; exact h0
  · simp [Array.getElem?_eq_none h']

/-- an operation that is not late, and yields its value wherever S holds, may be taken first -/
theorem wpAnyS_first {i : Nat} {oi : Oper} {v : Value} (hi : ops[i]? = some oi) (hsel : ∀ (j : Nat) (o : Oper) cs b, ops[j]? = some o → o.op ≠ .select cs b)
    (hQ : ∀ c a w, Q (.panic c) (a.put oi.dst v) w → Q (.panic c) a w) (hl : lateOK md ops lates = true) (hni : lates.contains i = false) :
    ∀ (fuel : Nat) (listed : Array Bool) (a : Act) (w : World), ClosedL md ops listed →
      (∀ j oj, ops[j]? = some oj → j ≠ i → listed.getD j true = false → (∀ e ∈ oj.after, Region.binds md e = true → e.on ≠ i) → oi.apart ops oj = true) →
      i ∈ Region.ready md ops listed → YieldsIf P ops S oi v a → S w →
      wpAnyS P md ops Q S lates fuel (listed.setIfInBounds i true) (a.put oi.dst v) w → wpAnyS P md ops Q S lates (fuel + 1) listed a w := by
  intro fuel
  induction fuel with
  | zero =>
    intro listed a w _ _ hr hy hS H
    refine ⟨fun h => (by rw [h] at hr; cases hr), fun j hj => ?_⟩
    by_cases hji : j = i
    · rw [hji]; exact hy.wpOp hi hS ⟨fun _ => hS, H⟩
    · have := ready_mono hj hji
      rw [H.1] at this
      cases this
  | succ fuel ih =>
    intro listed a w hcl hfree hr hy hS H
    refine ⟨fun h => (by rw [h] at hr; cases hr), fun j hj => ?_⟩
    by_cases hji : j = i
    · rw [hji]; exact hy.wpOp hi hS ⟨fun _ => hS, H⟩
    · have h1 := H.2 j (ready_mono hj hji)
      obtain ⟨hjun, oj, hoj, hall⟩ := mem_ready.1 hj
      have hil := ready_listed hr
      have hnot : ∀ e ∈ oj.after, Region.binds md e = true → e.on ≠ i := fun e he hb heq => by
        have h0 := hall e he hb
        rw [heq, hil] at h0
        cases h0
      have hjn : lates.contains j = false := by
        cases hc : lates.contains j with
        | false => rfl
        | true =>
          have h0 := lateOK_spec hl hcl hc hni (Array.getElem?_eq_some_iff.1 hi).1 hj
          rw [hil] at h0
          cases h0
      have h2 := wpOp_putIf hoj (hfree j oj hoj hji hjun hnot) (fun cs b => hsel i oi cs b hi) (fun cs b => hsel j oj cs b hoj) hQ hy h1
      refine wpOp_mono (fun a' w' h3 => ⟨fun _ => h3.2.1 hjn, ih (listed.setIfInBounds j true) a' w' (hcl.set hj) (fun k ok hk hki hun hno => ?_) (ready_mono hr (Ne.symm hji)) h3.1 (h3.2.1 hjn) ?_⟩) h2
      · refine hfree k ok hk hki ?_ hno
        by_cases hjk : j = k
        · rw [← hjk]; exact hjun
        · rw [getD_set_ne true hjk] at hun; exact hun
      · rw [Array.setIfInBounds_comm _ _ hji]
        exact h3.2.2

theorem wpAnyS_take {i : Nat} {oi : Oper} {v : Value} {fuel : Nat} {listed : Array Bool} {a : Act} {w : World} (hcl : ClosedL md ops listed) (hi : ops[i]? = some oi)
    (hs : Region.noSelect ops = true) (hf : Region.free md ops listed i = true) (hr : (Region.ready md ops listed).contains i = true)
    (hQ : ∀ c a w, Q (.panic c) (a.put oi.dst v) w → Q (.panic c) a w) (hl : lateOK md ops lates = true) (hni : lates.contains i = false) (hy : YieldsIf P ops S oi v a) (hS : S w)
    (h : wpAnyS P md ops Q S lates fuel (listed.setIfInBounds i true) (a.put oi.dst v) w) : wpAnyS P md ops Q S lates (fuel + 1) listed a w :=
  wpAnyS_first hi (Region.noSelect_spec hs) hQ hl hni fuel listed a w hcl (Region.free_spec hi hf) (by simpa using hr) hy hS h

/-- once none is left but late ones, nothing is asked of the world -/
theorem wpAnyS_late : ∀ (fuel : Nat) (listed : Array Bool) (a : Act) (w : World),
    (∀ i ∈ Region.ready md ops listed, lates.contains i = true) → (∀ k, k < ops.size → lates.contains k = false → listed.getD k true = true) →
    wpAnyS P md ops Q (fun _ => True) [] fuel listed a w → wpAnyS P md ops Q S lates fuel listed a w
  | 0, _, _, _, _, _, h => h
  | fuel + 1, listed, _, _, hr, hk, h => ⟨h.1, fun i hi => wpOp_mono (fun a' w' h' => ⟨fun hc => (by rw [hr i hi] at hc; cases hc),
      wpAnyS_late fuel _ a' w' (fun j hj => by
          cases hc : lates.contains j with
          | true => rfl
          | false =>
            have h0 := (mem_ready.1 hj).1
            obtain ⟨_, o, ho, _⟩ := mem_ready.1 hj
            have h1 := hk j (Array.getElem?_eq_some_iff.1 ho).1 hc
            by_cases hij : i = j
            · subst hij
              rw [hr i hi] at hc
              cases hc
            · rw [getD_set_ne true hij, h1] at h0
              cases h0)
        (fun k hks hkc => by
          by_cases hik : i = k
          · subst hik
            rw [hr i hi] at hkc
            cases hkc
          · rw [getD_set_ne true hik]; exact hk k hks hkc) h'.2⟩) (h.2 i hi)⟩

def linHeads : Code → List Nat
  | .seq (.label k) _ => [k]
  | .cond _ t u => linHeads t ++ linHeads u
  | _ => []

def linOK (md : Region.Mode) (ops : Array Oper) (lates : List Nat) : Code → Nat → Array Bool → Bool
  | .skip, _, listed => (Region.ready md ops listed).isEmpty
  | .block k t, f + 1, listed => (linHeads t).isEmpty && (Region.ready md ops listed).contains k && Region.free md ops listed k && !lates.contains k && linOK md ops lates t f (listed.setIfInBounds k true)
  | .scope g, f + 1, listed => !(Region.ready md ops listed).isEmpty && (Region.ready md ops listed).all (fun i => (linHeads g).contains i) && linOK md ops lates g f listed
  | .seq (.label k) t, f, listed => (linHeads t).isEmpty && linOK md ops lates t f (listed.setIfInBounds k true)
  | .cond _ t u, f, listed => linOK md ops lates t f listed && linOK md ops lates u f listed
  | .loop t, f, listed => (linHeads t).isEmpty && (Region.ready md ops listed).all (fun i => lates.contains i) && (List.range ops.size).all (fun k => lates.contains k || listed.getD k true) && linOK md ops [] t f listed
  | _, _, _ => false

def wpLin (P : Program) (ops : Array Oper) (Q : Exit → Act → World → Prop) : Code → (World → Prop) → List Nat → Act → World → Prop
  | .skip, _, _, a, w => Q .normal a w
  | .block k t, S, ls, a, w => ∃ o v, ops[k]? = some o ∧ YieldsIf P ops S o v a ∧ wpLin P ops Q t S ls (a.put o.dst v) w
  | .scope g, S, ls, a, w => wpLin P ops Q g S ls a w
  | .seq (.label k) t, S, ls, a, w => wpOp P ops Q k (fun a' w' => (ls.contains k = false → S w') ∧ wpLin P ops Q t S ls a' w') a w
  | .cond _ t u, S, ls, a, w => wpLin P ops Q t S ls a w ∧ wpLin P ops Q u S ls a w
  | .loop t, _, _, a, w => wpLin P ops Q t (fun _ => True) [] a w
  | _, _, _, _, _ => False

theorem lateOK_nil : lateOK md ops [] = true := rfl

theorem wpAnyS_of_lin (hsel : Region.noSelect ops = true) (hQ : ∀ c a w, Q (.panic c) a w → False) (t : Code) :
    (∀ (f : Nat) (listed : Array Bool) (a : Act) (w : World) (S : World → Prop) (lates : List Nat), ClosedL md ops listed → lateOK md ops lates = true → linHeads t = [] → linOK md ops lates t f listed = true → ((∃ k ∈ Region.ready md ops listed, lates.contains k = false) → S w) →
      wpLin P ops Q t S lates a w → wpAnyS P md ops Q S lates f listed a w) ∧
    (∀ (f : Nat) (listed : Array Bool) (a : Act) (w : World) (S : World → Prop) (lates : List Nat) (i : Nat), ClosedL md ops listed → lateOK md ops lates = true → i ∈ linHeads t → linOK md ops lates t f listed = true → i ∈ Region.ready md ops listed → wpLin P ops Q t S lates a w →
      wpOp P ops Q i (fun a' w' => (lates.contains i = false → S w') ∧ wpAnyS P md ops Q S lates f (listed.setIfInBounds i true) a' w') a w) := by
  induction t with
  | skip =>
    refine ⟨fun f listed a w S lates _ _ _ hf _ h => ?_, fun f listed a w S lates i _ _ hi => by simp [linHeads] at hi⟩
    exact wpAnyS_done (by simpa [linOK] using hf) h _
  | block k t ih =>
    refine ⟨fun f listed a w S lates hcl hl _ hf hS h => ?_, fun f listed a w S lates i _ _ hi => by simp [linHeads] at hi⟩
    cases f with
    | zero => simp [linOK] at hf
    | succ f =>
      simp only [linOK, Bool.and_eq_true] at hf
      obtain ⟨o, v, ho, hy, h⟩ := h
      have hnk : lates.contains k = false := by simpa using hf.1.2
      have hS' : S w := hS ⟨k, by simpa using hf.1.1.1.2, hnk⟩
      exact wpAnyS_take hcl ho hsel hf.1.1.2 hf.1.1.1.2 (fun c a w hq => (hQ c _ w hq).elim) hl hnk hy hS' (ih.1 f _ _ w S lates (hcl.set (by simpa using hf.1.1.1.2)) hl (by simpa using hf.1.1.1.1) hf.2 (fun _ => hS') h)
  | scope g ih =>
    refine ⟨fun f listed a w S lates hcl hl _ hf _ h => ?_, fun f listed a w S lates i _ _ hi => by simp [linHeads] at hi⟩
    cases f with
    | zero => simp [linOK] at hf
    | succ f =>
      simp only [linOK, Bool.and_eq_true] at hf
      refine ⟨fun h0 => by rw [h0] at hf; simp at hf, fun i hi => ?_⟩
      have hm := List.all_eq_true.1 hf.1.2 i hi
      exact ih.2 f listed a w S lates i hcl hl (by simpa using hm) hf.2 hi h
  | seq l t ihl iht =>
    cases l with
    | label k =>
      refine ⟨fun f listed a w S lates _ _ hh => by simp [linHeads] at hh, fun f listed a w S lates i hcl hl hi hf hir h => ?_⟩
      simp only [linHeads, List.mem_singleton] at hi
      subst hi
      simp only [linOK, Bool.and_eq_true] at hf
      refine wpOp_mono (fun a' w' h' => ⟨h'.1, iht.1 f _ a' w' S lates (hcl.set hir) hl (by simpa using hf.1) hf.2 (fun ⟨k, hk, hkl⟩ => ?_) h'.2⟩) h
      refine h'.1 ?_
      cases hc : lates.contains i with
      | false => rfl
      | true =>
        obtain ⟨hiun, oi, hoi, hall⟩ := mem_ready.1 hir
        obtain ⟨hkun, ok, hok, _⟩ := mem_ready.1 hk
        have h1 := lateOK_spec hl hcl hc hkl (Array.getElem?_eq_some_iff.1 hok).1 hir
        have hne : i ≠ k := fun e => by rw [e, hkl] at hc; cases hc
        have h2 := ready_listed hk
        rw [getD_set_ne false hne] at h2
        rw [h2] at h1
        cases h1
    | _ => exact ⟨fun f listed a w S lates _ _ _ hf => by simp [linOK] at hf, fun f listed a w S lates i _ _ hi => by simp [linHeads] at hi⟩
  | cond c t u iht ihu =>
    refine ⟨fun f listed a w S lates hcl hl hh hf hS h => ?_, fun f listed a w S lates i hcl hl hi hf hir h => ?_⟩
    · simp only [linHeads, List.append_eq_nil_iff] at hh
      simp only [linOK, Bool.and_eq_true] at hf
      exact iht.1 f listed a w S lates hcl hl hh.1 hf.1 hS h.1
    · simp only [linHeads, List.mem_append] at hi
      simp only [linOK, Bool.and_eq_true] at hf
      rcases hi with hi | hi
      · exact iht.2 f listed a w S lates i hcl hl hi hf.1 hir h.1
      · exact ihu.2 f listed a w S lates i hcl hl hi hf.2 hir h.2
  | loop t ih =>
    refine ⟨fun f listed a w S lates hcl _ _ hf _ h => ?_, fun f listed a w S lates i _ _ hi => by simp [linHeads] at hi⟩
    simp only [linOK, Bool.and_eq_true] at hf
    refine wpAnyS_late f listed a w (fun i hi => List.all_eq_true.1 hf.1.1.2 i hi) (fun k hk hkc => ?_) (ih.1 f listed a w (fun _ => True) [] hcl lateOK_nil (by simpa using hf.1.1.1) hf.2 (fun _ => trivial) h)
    have h1 := List.all_eq_true.1 hf.1.2 k (List.mem_range.2 hk)
    rw [hkc] at h1
    simpa using h1
  | _ => exact ⟨fun f listed a w S lates _ _ _ hf => by simp [linOK] at hf, fun f listed a w S lates i _ _ hi => by simp [linHeads] at hi⟩

/-- **THE LAW.** -/
theorem wp_region_lin {id : Nat} {Q : Exit → Act → World → Prop} {a : Act} {w : World} (S : World → Prop) (lates : List Nat) (t : Code) (hm : P.follows .mixedOrders = true) (hsel : Region.noSelect ops = true)
    (hh : (linHeads t).isEmpty = true) (hl : lateOK .any ops lates = true) (ht : linOK .any ops lates t ops.size (Array.replicate ops.size false) = true) (hS : S w.drew) (h : wpLin P ops (NoPanic Q) t S lates a w.drew) : (Code.region id ops true).wp P Q a w :=
  wp_region_noPanic (wp_region_any hm (wpAny_of_S _ _ _ _ ((wpAnyS_of_lin hsel (fun _ _ _ hq => hq) t).1 _ _ _ _ S lates (ClosedL.none _) hl (by simpa using hh) ht (fun _ => hS) h)))

/-- the operations that hand over one value and nothing else -/
def lightOp : Op → Bool
  | .move _ | .assign _ | .pick .. | .load .. | .nilCheck _ | .binOp .. | .unOp .. | .convert .. | .fieldAddr .. | .field .. | .indexAddr .. | .index .. | .slice .. | .extract .. | .build .. | .lookup .. | .makeInterface .. => true
  | .call { callee := .builtin .len, .. } | .call { callee := .builtin .cap, .. } | .call { callee := .builtin .min, .. } | .call { callee := .builtin .max, .. } => true
  | _ => false

theorem value_of_run {s : Sem Value} {w w1 : World} {n : Next} (hr : (do pure (.value (← s)) : Sem Next).run P w = .ok n w1) : ∃ v, n = .value v := by
  simp only [Sem.run_bind] at hr
  cases h : s.run P w with
  | ok v w2 => simp only [h, Result.andThen_ok, Sem.run_pure] at hr; injection hr with h1 h2; exact ⟨v, h1.symm⟩
  | halt e w2 => rw [h] at hr; cases hr

theorem ok_of_bind {α β : Type} {s : Sem α} {f : α → Sem β} {w w1 : World} {b : β} (hr : (s >>= f).run P w = .ok b w1) : ∃ x w2, s.run P w = .ok x w2 ∧ (f x).run P w2 = .ok b w1 := by
  simp only [Sem.run_bind] at hr
  cases h : s.run P w with
  | ok v w2 => simp only [h, Result.andThen_ok] at hr; exact ⟨v, w2, rfl, hr⟩
  | halt e w2 => rw [h] at hr; cases hr

theorem light_value {ρ : Operand → Value} {o : Oper} (h : lightOp o.op = true) {w w1 : World} {n : Next} (hr : (execOp ρ o).run P w = .ok n w1) : ∃ v, n = .value v := by
  obtain ⟨dst, op, ty, pos, after, guard⟩ := o
  cases op with
  | move x => simp only [execOp, Sem.run_pure] at hr; injection hr with h1 h2; exact ⟨_, h1.symm⟩
  | assign x => simp only [execOp, Sem.run_pure] at hr; injection hr with h1 h2; exact ⟨_, h1.symm⟩
  | nilCheck x =>
    simp only [execOp] at hr
    revert hr
    split
    · intro hr; simp [runtimePanic] at hr
    · intro hr; simp [runtimePanic] at hr
    · intro hr; simp [runtimePanic] at hr
    · split
      · intro hr; simp [runtimePanic] at hr
      · intro hr
        obtain ⟨_, _, _, hr⟩ := ok_of_bind hr
        obtain ⟨_, _, _, hr⟩ := ok_of_bind hr
        split at hr
        · obtain ⟨_, _, _, hr⟩ := ok_of_bind hr
          simp only [Sem.run_pure] at hr; injection hr with h1 h2; exact ⟨_, h1.symm⟩
        · simp only [Sem.run_pure] at hr; injection hr with h1 h2; exact ⟨_, h1.symm⟩
      · intro hr; simp only [Sem.run_pure] at hr; injection hr with h1 h2; exact ⟨_, h1.symm⟩
    · intro hr; simp only [Sem.run_pure] at hr; injection hr with h1 h2; exact ⟨_, h1.symm⟩
  | pick c a b =>
    obtain ⟨_, _, _, hr⟩ := ok_of_bind hr
    simp only [Sem.run_pure] at hr; injection hr with h1 h2; exact ⟨_, h1.symm⟩
  | load t a => exact value_of_run hr
  | binOp op t x y t2 => exact value_of_run hr
  | unOp op t x => exact value_of_run hr
  | convert s d x => exact value_of_run hr
  | makeInterface t x => exact value_of_run hr
  | slice t x l h m => exact value_of_run hr
  | fieldAddr t x f => exact value_of_run hr
  | field t x f => exact value_of_run hr
  | indexAddr t x i => exact value_of_run hr
  | index t x i => exact value_of_run hr
  | lookup t x i c => exact value_of_run hr
  | extract t i => exact value_of_run hr
  | build t ps => exact value_of_run hr
  | call c =>
    obtain ⟨cal, args, ats⟩ := c
    cases cal with
    | builtin b =>
      rw [BigFrame.execOp_builtin] at hr
      cases b <;> simp [lightOp] at h <;> exact value_of_run hr
    | _ => simp [lightOp] at h
  | _ => simp [lightOp] at h

/-- STEP: a light operation that runs. A1: the frame behind it, found by the walk. -/
theorem lin_light {i d : Nat} {o : Oper} {t : Code} {a A1 : Act} {w : World} (ho' : ops.toList[i]? = some o) (hl : lightOp o.op = true) (hd : o.dst = some d)
    (hw : Region.wanted o (yielded ops a.tmps) = true) (hsz : decide (d < a.tmps.size) = true)
    (h : ∀ w', S w' → ∀ K : Act → World → Prop, K A1 w' → o.wp P a w' K (fun _ _ _ => False)) (hA : a.put (some d) (A1.tmps.getD d undef) = A1)
    (hn : wpLin P ops Q t S ls A1 w) : wpLin P ops Q (.block i t) S ls a w := by
  have ho : ops[i]? = some o := by simpa using ho'
  refine ⟨o, A1.tmps.getD d undef, ho, .inl ⟨hw, fun w' hS => ?_⟩, by rw [hd, hA]; exact hn⟩
  have h1 := h w' hS (fun a1 w1 => a1 = A1 ∧ w1 = w') ⟨rfl, rfl⟩
  unfold Oper.wp Oper.upon at h1
  cases hr : (execOp a.eval o).run P w' with
  | ok n w1 =>
    obtain ⟨v, rfl⟩ := light_value hl hr
    rw [hr] at h1
    obtain ⟨h1, rfl⟩ := h1
    have e : A1.tmps.getD d undef = v := by
      rw [← h1, hd]
      simp [Act.put, of_decide_eq_true hsz]
    rw [e]
  | halt e w1 =>
    rw [hr] at h1
    cases e <;> exact h1.elim

/-- STEP: an operation whose guard says no. -/
theorem lin_skip {i : Nat} {o : Oper} {t : Code} {a : Act} {w : World} (ho' : ops.toList[i]? = some o) (hw : Region.wanted o (yielded ops a.tmps) = false)
    (hn : wpLin P ops Q t S ls (a.put o.dst undef) w) : wpLin P ops Q (.block i t) S ls a w :=
  ⟨o, undef, by simpa using ho', .inr ⟨hw, rfl⟩, hn⟩

theorem lin_skip_heavy {i : Nat} {o : Oper} {t : Code} {a : Act} {w : World} (ho' : ops.toList[i]? = some o) (hw : Region.wanted o (yielded ops a.tmps) = false) (hS : S w)
    (hn : wpLin P ops Q t S ls (a.put o.dst undef) w) : wpLin P ops Q (.seq (.label i) t) S ls a w := by
  have ho : ops[i]? = some o := by simpa using ho'
  show wpOp P ops Q i _ a w
  unfold wpOp
  rw [ho]
  simp only [hw]
  exact ⟨fun _ => hS, hn⟩

/-- STEP: a group. -/
theorem lin_group {t : Code} {a : Act} {w : World} (h : wpLin P ops Q t S ls a w) : wpLin P ops Q (.scope t) S ls a w := h
theorem lin_both {c : Operand} {t u : Code} {a : Act} {w : World} (h : wpLin P ops Q t S ls a w) (h' : wpLin P ops Q u S ls a w) : wpLin P ops Q (.cond c t u) S ls a w := ⟨h, h'⟩
/-- STEP: none but late ones are left. -/
theorem lin_late {t : Code} {a : Act} {w : World} (h : wpLin P ops Q t (fun _ => True) [] a w) : wpLin P ops Q (.loop t) S ls a w := h

/-- STEP: any other operation; S is to be shown anew behind it. -/
theorem lin_heavy {i : Nat} {o : Oper} {t : Code} {a : Act} {w : World} (ho' : ops.toList[i]? = some o) (hw : Region.wanted o (yielded ops a.tmps) = true)
    (h : ∀ K : Act → World → Prop, Shut (∀ a1 w1, S w1 → wpLin P ops Q t S ls a1 w1 → K a1 w1) → o.wp P a w K Q) : wpLin P ops Q (.seq (.label i) t) S ls a w := by
  have ho : ops[i]? = some o := by simpa using ho'
  show wpOp P ops Q i _ a w
  unfold wpOp
  rw [ho]
  simp only [hw, if_true]
  exact .inl (h _ (fun a1 w1 hS hn => ⟨fun _ => hS, hn⟩))

theorem lin_end {a : Act} {w : World} (h : Q .normal a w) : wpLin P ops (NoPanic Q) .skip S ls a w := h
end
end Go.Proofs.YtoihoackmkapaaaDoor
