/- What can come to run: the plain law of Reach; the search with a stack and the rounds until nothing new comes. -/
import Derived.Test.YtoihoackmkapaaaDoorKTgt
namespace Go.Proofs.YtoihoackmkapaaaDoor
open Go.RowKit
set_option maxHeartbeats 400000

/-- the instructions that may come behind the n-th -/
def tryS (f : FnT) (n : Nat) : List Int := (f.tries.filter fun t => decide (t.1 ≤ (n : Int)) && decide ((n : Int) < t.2.1)).map fun t => t.2.2.1
def succs (f : FnT) (n : Nat) : List Int := match f.code[n]? with
  | none => []
  | some i => (if endsB i.1 = true then [] else [(n : Int) + 1]) ++ ((tgtOf i).toList ++ tryS f n)

section
variable {N : Nat} {S : Nat → List Int}
inductive Rc (N : Nat) (S : Nat → List Int) : Nat → Prop
  | zero : 0 < N → Rc N S 0
  | step {n k : Nat} : Rc N S n → (k : Int) ∈ S n → k < N → Rc N S k
def IsRc (N : Nat) (S : Nat → List Int) (b : List Bool) : Prop := b.length = N ∧ ∀ k, b[k]? = some true ↔ Rc N S k
theorem IsRc.eq {b c : List Bool} (h : IsRc N S b) (h2 : IsRc N S c) : b = c := by
  apply List.ext_getElem?
  intro k
  rcases Nat.lt_or_ge k N with hk | hk
  · obtain ⟨x, hx⟩ : ∃ x, b[k]? = some x := ⟨b[k]'(by rw [h.1]; exact hk), List.getElem?_eq_getElem _⟩
    obtain ⟨y, hy⟩ : ∃ y, c[k]? = some y := ⟨c[k]'(by rw [h2.1]; exact hk), List.getElem?_eq_getElem _⟩
    rw [hx, hy]
    cases x <;> cases y
    · rfl
    · have := (h.2 k).2 ((h2.2 k).1 hy); rw [hx] at this; exact this
    · have := (h2.2 k).2 ((h.2 k).1 hx); rw [hy] at this; exact this.symm
    · rfl
  · rw [List.getElem?_eq_none (by rw [h.1]; exact hk), List.getElem?_eq_none (by rw [h2.1]; exact hk)]

/-- each place behind n that is one is marked -/
def Clo (N : Nat) (S : Nat → List Int) (n : Nat) (b : List Bool) : Prop := ∀ k : Nat, (k : Int) ∈ S n → k < N → b[k]? = some true
def cntF (b : List Bool) : Nat := b.count false
theorem set_true {b : List Bool} {k m : Nat} (h : b[m]? = some true) : (b.set k true)[m]? = some true := by
  have hm := (List.getElem?_eq_some_iff.1 h).1
  by_cases e : k = m
  · subst e
    rw [List.getElem?_set_self hm]
  · rw [List.getElem?_set_ne e]
    exact h
theorem set_at {b : List Bool} {k : Nat} (h : k < b.length) : (b.set k true)[k]? = some true := by
  rw [List.getElem?_set_self h]
theorem of_set {b : List Bool} {k m : Nat} (h : (b.set k true)[m]? = some true) : m = k ∨ b[m]? = some true := by
  by_cases e : k = m
  · exact .inl e.symm
  · rw [List.getElem?_set_ne e] at h
    exact .inr h
theorem cnt_set {b : List Bool} {k : Nat} (h : b[k]? = some false) : cntF (b.set k true) + 1 = cntF b := by
  obtain ⟨hk, he⟩ := List.getElem?_eq_some_iff.1 h
  unfold cntF
  rw [List.count_set hk, he]
  have : 0 < b.count false := List.count_pos_iff.2 (by rw [← he]; exact List.getElem_mem hk)
  simp
  omega
theorem cnt_le (b : List Bool) : cntF b ≤ b.length := List.count_le_length
theorem Clo.set {n k : Nat} {b : List Bool} (h : Clo N S n b) : Clo N S n (b.set k true) := fun j h1 h2 => set_true (h j h1 h2)
theorem isRc_of {b : List Bool} (hl : b.length = N) (hs : ∀ k, b[k]? = some true → Rc N S k) (hz : 0 < N → b[0]? = some true) (hc : ∀ n, b[n]? = some true → Clo N S n b) : IsRc N S b := by
  refine ⟨hl, fun k => ⟨hs k, fun h => ?_⟩⟩
  induction h with
  | zero h => exact hz h
  | step h1 h2 h3 ih => exact hc _ ih _ h2 h3

/-- the search: what is marked, the stack, the instruction in hand -/
structure Dfs (N : Nat) (S : Nat → List Int) (b : List Bool) (st : List Nat) (x : Option Nat) : Prop where
  len : b.length = N
  sound : ∀ k, b[k]? = some true → Rc N S k
  zero : 0 < N → b[0]? = some true
  mem : ∀ n ∈ st, b[n]? = some true
  clo : ∀ n, b[n]? = some true → n ∈ st ∨ some n = x ∨ Clo N S n b
theorem Dfs.done {b : List Bool} (h : Dfs N S b [] none) : IsRc N S b :=
  isRc_of h.len h.sound h.zero fun n hn => by rcases h.clo n hn with h | h | h; exact absurd h (by simp); cases h; exact h
theorem Dfs.pop {b : List Bool} {st : List Nat} {n : Nat} (h : Dfs N S b (st ++ [n]) none) : Dfs N S b st (some n) :=
  ⟨h.len, h.sound, h.zero, fun m hm => h.mem m (by simp [hm]), fun m hm => by
    rcases h.clo m hm with h | h | h
    · rcases List.mem_append.1 h with h | h
      · exact .inl h
      · exact .inr (.inl (by rw [List.mem_singleton.1 h]))
    · cases h
    · exact .inr (.inr h)⟩
theorem Dfs.closed {b : List Bool} {st : List Nat} {n : Nat} (h : Dfs N S b st (some n)) (hc : Clo N S n b) : Dfs N S b st none :=
  ⟨h.len, h.sound, h.zero, h.mem, fun m hm => by
    rcases h.clo m hm with h | h | h
    · exact .inl h
    · injection h with h; subst h; exact .inr (.inr hc)
    · exact .inr (.inr h)⟩
theorem Dfs.push {b : List Bool} {st : List Nat} {x : Option Nat} {k : Nat} (h : Dfs N S b st x) (hk : k < N) (hr : Rc N S k) : Dfs N S (b.set k true) (st ++ [k]) x :=
  ⟨by rw [List.length_set]; exact h.len, fun m hm => by rcases of_set hm with rfl | h2; exact hr; exact h.sound m h2, fun h0 => set_true (h.zero h0),
    fun m hm => by
      rcases List.mem_append.1 hm with hm | hm
      · exact set_true (h.mem m hm)
      · rw [List.mem_singleton.1 hm]; exact set_at (by rw [h.len]; exact hk),
    fun m hm => by
      rcases of_set hm with rfl | h2
      · exact .inl (by simp)
      · rcases h.clo m h2 with h | h | h
        · exact .inl (by simp [h])
        · exact .inr (.inl h)
        · exact .inr (.inr h.set)⟩
theorem Dfs.start {b : List Bool} (hl : b.length = N) (h : ∀ k : Nat, b[k]? ≠ some true) (h0 : 0 < N) : Dfs N S (b.set 0 true) [0] none :=
  ⟨by rw [List.length_set]; exact hl, fun m hm => by rcases of_set hm with rfl | h2; exact .zero h0; exact absurd h2 (h m), fun _ => set_at (by rw [hl]; exact h0),
    fun m hm => by rw [List.mem_singleton.1 hm]; exact set_at (by rw [hl]; exact h0),
    fun m hm => by rcases of_set hm with rfl | h2; exact .inl (by simp); exact absurd h2 (h m)⟩
theorem Dfs.none {b : List Bool} (hl : b.length = N) (h0 : N = 0) : Dfs N S b [] none :=
  have hb : ∀ k : Nat, b[k]? ≠ some true := fun k h => by have := (List.getElem?_eq_some_iff.1 h).1; omega
  ⟨hl, fun m hm => absurd hm (hb m), fun h => by omega, fun m hm => by simp at hm, fun m hm => absurd hm (hb m)⟩

/-- one mark: what a visit of k comes to -/
def visB (N : Nat) (b : List Bool) (st : List Nat) (k : Int) : List Bool × List Nat := if 0 ≤ k ∧ k < (N : Int) ∧ b[k.toNat]? = some false then (b.set k.toNat true, st ++ [k.toNat]) else (b, st)
theorem visB_no {b : List Bool} {st : List Nat} {k : Int} (h : ¬ (0 ≤ k ∧ k < (N : Int) ∧ b[k.toNat]? = some false)) : visB N b st k = (b, st) := if_neg h
theorem visB_yes {b : List Bool} {st : List Nat} {k : Nat} (h : k < N) (hb : b[k]? = some false) : visB N b st (k : Int) = (b.set k true, st ++ [k]) := by
  unfold visB
  rw [if_pos ⟨by omega, by omega, by rw [Int.toNat_natCast]; exact hb⟩, Int.toNat_natCast]
/-- a search that has looked at the places of l behind n -/
structure Vis (N : Nat) (S : Nat → List Int) (n : Nat) (l : List Int) (b : List Bool) (st : List Nat) (M : Nat) : Prop where
  dfs : Dfs N S b st (some n)
  rc : Rc N S n
  seen : ∀ k : Nat, (k : Int) ∈ l → k < N → b[k]? = some true
  most : 2 * cntF b + st.length ≤ M
theorem Vis.step {n : Nat} {l : List Int} {b : List Bool} {st : List Nat} {M : Nat} (h : Vis N S n l b st M) {k : Int} (hk : k ∈ S n) : Vis N S n (l ++ [k]) (visB N b st k).1 (visB N b st k).2 M := by
  by_cases hc : 0 ≤ k ∧ k < (N : Int) ∧ b[k.toNat]? = some false
  · obtain ⟨h1, h2, h3⟩ := hc
    obtain ⟨j, rfl⟩ := Int.eq_ofNat_of_zero_le h1
    rw [Int.toNat_natCast] at h3
    rw [visB_yes (by omega) h3]
    refine ⟨h.dfs.push (by omega) (.step h.rc hk (by omega)), h.rc, fun m hm hmN => ?_, ?_⟩
    · rcases List.mem_append.1 hm with hm | hm
      · exact set_true (h.seen m hm hmN)
      · have : m = j := by have := List.mem_singleton.1 hm; omega
        subst this
        exact set_at (by rw [h.dfs.len]; exact hmN)
    · have := cnt_set h3
      have := h.most
      simp only [List.length_append, List.length_singleton]
      omega
  · rw [visB_no hc]
    refine ⟨h.dfs, h.rc, fun m hm hmN => ?_, h.most⟩
    rcases List.mem_append.1 hm with hm | hm
    · exact h.seen m hm hmN
    · have hmk := List.mem_singleton.1 hm
      subst hmk
      obtain ⟨x, hx⟩ : ∃ x, b[m]? = some x := ⟨b[m]'(by rw [h.dfs.len]; exact hmN), List.getElem?_eq_getElem _⟩
      cases x with
      | true => exact hx
      | false => exact absurd ⟨by omega, by omega, by rw [Int.toNat_natCast]; exact hx⟩ hc
theorem Vis.start {b : List Bool} {st : List Nat} {n : Nat} (h : Dfs N S b (st ++ [n]) Option.none) : Vis N S n [] b st (2 * cntF b + st.length) :=
  ⟨h.pop, h.sound n (h.mem n (by simp)), fun k hk => by simp at hk, Nat.le_refl _⟩
theorem Vis.done {n : Nat} {b : List Bool} {st : List Nat} {M : Nat} (h : Vis N S n (S n) b st M) : Dfs N S b st Option.none := h.dfs.closed fun k h1 h2 => h.seen k h1 h2

/-- the document's rounds: marked so far; whether something was new; the instructions below n are done -/
structure Rnd (N : Nat) (S : Nat → List Int) (b : List Bool) : Prop where
  len : b.length = N
  sound : ∀ k, b[k]? = some true → Rc N S k
  zero : 0 < N → b[0]? = some true
structure Pass (N : Nat) (S : Nat → List Int) (M : Nat) (b : List Bool) (mo : Bool) (n : Nat) : Prop where
  rnd : Rnd N S b
  le : cntF b ≤ M
  lt : mo = true → cntF b < M
  clo : mo = false → ∀ m, m < n → b[m]? = some true → Clo N S m b
theorem Pass.start {b : List Bool} (h : Rnd N S b) : Pass N S (cntF b) b false 0 := ⟨h, Nat.le_refl _, (fun h => by cases h), (fun _ m hm => by omega)⟩
theorem Pass.done {M : Nat} {b : List Bool} (h : Pass N S M b false N) : IsRc N S b :=
  isRc_of h.rnd.len h.rnd.sound h.rnd.zero fun n hn => h.clo rfl n (by have := (List.getElem?_eq_some_iff.1 hn).1; rw [h.rnd.len] at this; exact this) hn
theorem Pass.skip {M n : Nat} {b : List Bool} {mo : Bool} (h : Pass N S M b mo n) (hn : b[n]? = some false) : Pass N S M b mo (n + 1) :=
  ⟨h.rnd, h.le, h.lt, fun e m hm hb => by
    by_cases e2 : m = n
    · subst e2; rw [hn] at hb; cases hb
    · exact h.clo e m (by omega) hb⟩
/-- in the pass, the places of l behind n are looked at -/
structure Mid (N : Nat) (S : Nat → List Int) (M : Nat) (n : Nat) (l : List Int) (b : List Bool) (mo : Bool) : Prop where
  pass : Pass N S M b mo n
  rc : Rc N S n
  seen : mo = false → ∀ k : Nat, (k : Int) ∈ l → k < N → b[k]? = some true
theorem Mid.start {M n : Nat} {b : List Bool} {mo : Bool} (h : Pass N S M b mo n) (hn : b[n]? = some true) : Mid N S M n [] b mo := ⟨h, h.rnd.sound n hn, fun _ k hk => by simp at hk⟩
theorem Mid.done {M n : Nat} {b : List Bool} {mo : Bool} (h : Mid N S M n (S n) b mo) : Pass N S M b mo (n + 1) :=
  ⟨h.pass.rnd, h.pass.le, h.pass.lt, fun e m hm hb => by
    by_cases e2 : m = n
    · subst e2; exact fun k h1 h2 => h.seen e k h1 h2
    · exact h.pass.clo e m (by omega) hb⟩
theorem Mid.old {M n : Nat} {l : List Int} {b : List Bool} {mo : Bool} (h : Mid N S M n l b mo) {k : Int} (hk : ¬ (0 ≤ k ∧ k < (N : Int) ∧ b[k.toNat]? = some false)) : Mid N S M n (l ++ [k]) b mo := by
  refine ⟨h.pass, h.rc, fun e m hm hmN => ?_⟩
  rcases List.mem_append.1 hm with hm | hm
  · exact h.seen e m hm hmN
  · have hmk := List.mem_singleton.1 hm
    subst hmk
    obtain ⟨x, hx⟩ : ∃ x, b[m]? = some x := ⟨b[m]'(by rw [h.pass.rnd.len]; exact hmN), List.getElem?_eq_getElem _⟩
    cases x with
    | true => exact hx
    | false => exact absurd ⟨by omega, by omega, by rw [Int.toNat_natCast]; exact hx⟩ hk
theorem Mid.new {M n : Nat} {l : List Int} {b : List Bool} {mo : Bool} (h : Mid N S M n l b mo) {k : Nat} (hS : (k : Int) ∈ S n) (hk : k < N) (hb : b[k]? = some false) : Mid N S M n (l ++ [(k : Int)]) (b.set k true) true := by
  have hc := cnt_set hb
  have hle := h.pass.le
  refine ⟨⟨⟨by rw [List.length_set]; exact h.pass.rnd.len, fun m hm => ?_, fun h0 => set_true (h.pass.rnd.zero h0)⟩, by omega, fun _ => by omega, fun e => by cases e⟩, h.rc, fun e => by cases e⟩
  rcases of_set hm with rfl | h2
  · exact .step h.rc hS hk
  · exact h.pass.rnd.sound m h2
theorem Rnd.start {b : List Bool} (hl : b.length = N) (h : ∀ k : Nat, b[k]? ≠ some true) (h0 : 0 < N) : Rnd N S (b.set 0 true) :=
  ⟨by rw [List.length_set]; exact hl, fun m hm => by rcases of_set hm with rfl | h2; exact .zero h0; exact absurd h2 (h m), fun _ => set_at (by rw [hl]; exact h0)⟩
theorem Rnd.none {b : List Bool} (hl : b.length = N) (h0 : N = 0) : IsRc N S b := (Dfs.none hl h0).done
end

/-- instructions and their targets, from the k-th on -/
def TG : Nat → List InsT → List (Nat × Int)
  | _, [] => []
  | k, i :: r => match tgtOf i with
    | some t => (k, t) :: TG (k + 1) r
    | none => TG (k + 1) r
theorem TG_at {l : List InsT} {k : Nat} {i : InsT} (h : l[k]? = some i) : TG k (l.drop k) = match tgtOf i with | some t => (k, t) :: TG (k + 1) (l.drop (k + 1)) | none => TG (k + 1) (l.drop (k + 1)) := by
  obtain ⟨hk, e⟩ := List.getElem?_eq_some_iff.1 h
  rw [List.drop_eq_getElem_cons hk, e]
  rfl
theorem TG_end {l : List InsT} {k : Nat} (h : l.length ≤ k) : TG k (l.drop k) = [] := by
  rw [List.drop_of_length_le h]; rfl
theorem TG_length : ∀ (l : List InsT) (k : Nat), (TG k l).length ≤ l.length
  | [], _ => by simp [TG]
  | i :: r, k => by
    have := TG_length r (k + 1)
    unfold TG
    cases tgtOf i with
    | none => simp; omega
    | some t => simp; omega
/-- what the table of jumps holds at n -/
theorem TG_find : ∀ (l : List InsT) (k n : Nat), k ≤ n → ((TG k l).find? fun p => p.1 == n).map (·.2) = (l[n - k]?).bind tgtOf
  | [], _, _, _ => by simp [TG]
  | i :: r, k, n, h => by
    unfold TG
    rcases Nat.eq_or_lt_of_le h with rfl | hlt
    · rw [Nat.sub_self, List.getElem?_cons_zero]
      cases ht : tgtOf i with
      | some t => simp [ht]
      | none =>
        have hno : ∀ (r : List InsT) (j : Nat), k < j → (TG j r).find? (fun p => p.1 == k) = none := by
          intro r
          induction r with
          | nil => intro j _; rfl
          | cons x r ih =>
            intro j hj
            unfold TG
            cases tgtOf x with
            | some t =>
              simp only
              rw [List.find?_cons_of_neg (by simp; omega)]
              exact ih (j + 1) (by omega)
            | none => exact ih (j + 1) (by omega)
        simp [hno r (k + 1) (by omega), ht]
    · have ih := TG_find r (k + 1) n (by omega)
      rw [show n - k = (n - (k + 1)) + 1 by omega, List.getElem?_cons_succ, ← ih]
      cases tgtOf i with
      | some t =>
        simp only
        rw [List.find?_cons_of_neg (by simp; omega)]
      | none => rfl
end Go.Proofs.YtoihoackmkapaaaDoor
