/- What stands in memory while ShapeCaches runs. -/
import Derived.Test.YtopepkcmpogdoaaCachesA
import Derived.Test.YtopepkcmpogdoaaDoes
import Derived.Deep.MidRow
namespace Go.Proofs.Ytopepkcmpogdoaa
open Go.RowKit
set_option maxHeartbeats 400000
set_option maxRecDepth 100000

/-- a block of n cells -/
def Arr (w : World) (b : Nat) (t : TypeId) (n : Nat) (f : Nat → Value) : Prop := ∃ cs : Array Value, w.heap[b]? = some (.cells cs t (0, 0)) ∧ ∀ i, i < n → cs[i]? = some (f i)
section
variable {w w' : World} {b n : Nat} {t : TypeId} {f : Nat → Value}
theorem Arr.cell (h : Arr w b t n f) {i : Nat} (hi : i < n) : w.cell? ⟨b, i, none⟩ = some (f i) := by
  obtain ⟨cs, h1, h2⟩ := h
  rw [cell_block h1, h2 i hi]
theorem Arr.frozen (h : Arr w b t n f) (i : Nat) : w.frozen? ⟨b, i, none⟩ = false := by
  obtain ⟨cs, h1, h2⟩ := h
  exact frozen_block h1 i
theorem Arr.kept (h : Arr w b t n f) (hk : w'.heap[b]? = w.heap[b]?) : Arr w' b t n f := by
  obtain ⟨cs, h1, h2⟩ := h
  exact ⟨cs, hk.trans h1, h2⟩
theorem Arr.lt (h : Arr w b t n f) : b < w.heap.size := by
  obtain ⟨cs, h1, h2⟩ := h
  exact (Array.getElem?_eq_some_iff.1 h1).1
theorem Arr.set (h : Arr w b t n f) {i : Nat} (hi : i < n) (v : Value) : Arr (w.setCell ⟨b, i, none⟩ v) b t n (fun j => if j = i then v else f j) := by
  obtain ⟨cs, h1, h2⟩ := h
  refine ⟨_, setCell_block h1 v, fun j hj => ?_⟩
  have hlt := (Array.getElem?_eq_some_iff.1 (h2 i hi)).1
  by_cases hji : j = i
  · simp only [hji, if_true]
    simp [hlt]
  · simp only [hji, if_false]
    rw [← h2 j hj]
    exact Array.getElem?_setIfInBounds_ne (fun e => hji e.symm)
end

theorem by_key {P : Program} {code : Code} {Q : Exit → Act → World → Prop} {a : Act} {w : World} (act : Nat → Nat → Act) (Facts : Nat → Nat → World → Prop)
    (main : (∀ bh bm W, Facts bh bm W → Q .normal (act bh bm) W) → code.wp P Q a w) (key : ∀ bh bm W, Facts bh bm W → Q .normal (act bh bm) W) : code.wp P Q a w := main key
theorem make_ints (w : World) : (Instr.makeSlice 27 (.int .i64 3) (.int .i64 3)).run Try.prog w = .ok (.slice (some ⟨w.heap.size, 0, none⟩) 3 3) (w.alloc (.cells #[.int .i64 0, .int .i64 0, .int .i64 0] 3)) := by kernel_rfl
theorem make_bools (w : World) : (Instr.makeSlice 52 (.int .i64 3) (.int .i64 3)).run Try.prog w = .ok (.slice (some ⟨w.heap.size, 0, none⟩) 3 3) (w.alloc (.cells #[.bool false, .bool false, .bool false] 4)) := by kernel_rfl
theorem make_ops (w : World) : (Instr.makeSlice 22 (.int .i64 3) (.int .i64 3)).run Try.prog w = .ok (.slice (some ⟨w.heap.size, 0, none⟩) 3 3) (w.alloc (.cells #[.int .i64 0, .int .i64 0, .string ⟨#[]⟩, .int .i64 0, .int .i64 0, .int .i64 0, .int .i64 0, .int .i64 0, .string ⟨#[]⟩, .int .i64 0, .int .i64 0, .int .i64 0, .int .i64 0, .int .i64 0, .string ⟨#[]⟩, .int .i64 0, .int .i64 0, .int .i64 0] 32)) := by kernel_rfl

def opCell (o : OpT) : Nat → Value
  | 0 => .int .i64 o.1
  | 1 => .int .i64 o.2.1
  | 2 => .string o.2.2.1.1
  | 3 => .int .i64 o.2.2.1.2
  | 4 => .int .i64 o.2.2.2.1
  | _ => .int .i64 o.2.2.2.2
/-- what stands in memory at the head of each round -/
structure St (B0 B1 tb rb b0 b1 bc bh bm bl bv : Nat) (k : Nat) (w : World) (m : TM) (r : RM) (C : Nat → CM) (L : Nat → OpT) (H : Nat → Bool) : Prop where
  tree : IsTree B0 w tb m.1 m.2
  ref : IsRef B1 w rb r.1 r.2
  sim : Sim m r
  len1 : m.1.length ≤ k + 1
  len2 : r.2.length ≤ k
  cache : ∀ i, i < 2 → CacheAt w (if i = 0 then b0 else b1) (C i)
  right : ∀ i, i < 2 → CacheOK m tb (C i) ∧ ((H i = false ∧ (C i).tree = none) ∨ (H i = true ∧ (C i).tree = some tb ∧ (C i).s = (L i).2.1 ∧ (C i).k = plainK (L i).2.2.1)) ∧
    (0 ≤ (C i).hits ∧ (C i).hits ≤ k) ∧ (0 ≤ (C i).miss ∧ (C i).miss ≤ k) ∧ (L i).2.2.1.1.size ≤ 1048576
  ptrs : Arr w bc 49 3 (fun i => .pointer (if i = 0 then some ⟨b0, 0, none⟩ else if i = 1 then some ⟨b1, 0, none⟩ else none))
  hits : Arr w bh 3 3 (fun i => .int .i64 (if i < 2 then (C i).hits else 0))
  miss : Arr w bm 3 3 (fun i => .int .i64 (if i < 2 then (C i).miss else 0))
  last : Arr w bl 32 18 (fun j => opCell (L (j / 6)) (j % 6))
  have_ : Arr w bv 4 3 (fun i => .bool (H i))
  ne1 : b0 ≠ b1
  ne2 : bh ≠ bm
/-- what is no part of the trees, but of the caches -/
def partC : Obj → Prop
  | .cells _ t _ => t = 69 ∨ t = 49 ∨ t = 3 ∨ t = 32 ∨ t = 4
  | _ => False
section
variable {B0 B1 tb rb b0 b1 bc bh bm bl bv k : Nat} {w w' : World} {m m' : TM} {r r' : RM} {C : Nat → CM} {L : Nat → OpT} {H : Nat → Bool}
theorem St.move (h : St B0 B1 tb rb b0 b1 bc bh bm bl bv k w m r C L H) (hT : IsTree B0 w' tb m'.1 m'.2) (hR : IsRef B1 w' rb r'.1 r'.2) (hS : Sim m' r') (h1 : m'.1.length ≤ m.1.length + 1) (h2 : r'.2.length ≤ r.2.length + 1) (hE : Ext m m')
    (hk : ∀ (i : Nat) (o : Obj), w.heap[i]? = some o → partC o → w'.heap[i]? = some o) : St B0 B1 tb rb b0 b1 bc bh bm bl bv (k + 1) w' m' r' C L H := by
  have arr : ∀ {b n : Nat} {t : TypeId} {f : Nat → Value}, (∀ cs, partC (.cells cs t (0, 0))) → Arr w b t n f → Arr w' b t n f := fun {b n t f} hp ⟨cs, ha, hb⟩ => ⟨cs, hk _ _ ha (hp cs), hb⟩
  have l1 := h.len1
  have l2 := h.len2
  refine ⟨hT, hR, hS, by omega, by omega, fun i hi => hk _ _ (h.cache i hi) (Or.inl rfl), fun i hi => ?_, arr (fun _ => Or.inr (Or.inl rfl)) h.ptrs, arr (fun _ => Or.inr (Or.inr (Or.inl rfl))) h.hits, arr (fun _ => Or.inr (Or.inr (Or.inl rfl))) h.miss,
    arr (fun _ => Or.inr (Or.inr (Or.inr (Or.inl rfl)))) h.last, arr (fun _ => Or.inr (Or.inr (Or.inr (Or.inr rfl)))) h.have_, h.ne1, h.ne2⟩
  obtain ⟨q1, q2, q3, q4, q5⟩ := h.right i hi
  exact ⟨q1.ext hE, q2, ⟨q3.1, by omega⟩, ⟨q4.1, by omega⟩, q5⟩
theorem St.below (h : St B0 B1 tb rb b0 b1 bc bh bm bl bv k w m r C L H) (hb : Below w.heap.size w w') : St B0 B1 tb rb b0 b1 bc bh bm bl bv k w' m r C L H := by
  have arr : ∀ {b n : Nat} {t : TypeId} {f : Nat → Value}, Arr w b t n f → Arr w' b t n f := fun {b n t f} ha => ha.kept (hb.block _ ha.lt)
  exact ⟨h.tree.below hb, h.ref.below hb, h.sim, h.len1, h.len2, fun i hi => (hb.block _ (Array.getElem?_eq_some_iff.1 (h.cache i hi)).1).trans (h.cache i hi), h.right, arr h.ptrs, arr h.hits, arr h.miss, arr h.last, arr h.have_, h.ne1, h.ne2⟩
end

/-- memory alone -/
structure StM (B0 B1 tb rb b0 b1 bc bh bm bl bv : Nat) (w : World) (m : TM) (r : RM) (C : Nat → CM) (hi mi : Nat → Int) (L : Nat → OpT) (H : Nat → Bool) : Prop where
  tree : IsTree B0 w tb m.1 m.2
  ref : IsRef B1 w rb r.1 r.2
  cache : ∀ i, i < 2 → CacheAt w (if i = 0 then b0 else b1) (C i)
  ptrs : Arr w bc 49 3 (fun i => .pointer (if i = 0 then some ⟨b0, 0, none⟩ else if i = 1 then some ⟨b1, 0, none⟩ else none))
  hits : Arr w bh 3 3 (fun i => .int .i64 (hi i))
  miss : Arr w bm 3 3 (fun i => .int .i64 (mi i))
  last : Arr w bl 32 18 (fun j => opCell (L (j / 6)) (j % 6))
  have_ : Arr w bv 4 3 (fun i => .bool (H i))
  ne1 : b0 ≠ b1
  ne2 : bh ≠ bm
theorem Arr.ne {w : World} {b b' n n' : Nat} {t t' : TypeId} {f f' : Nat → Value} (h : Arr w b t n f) (h' : Arr w b' t' n' f') (hne : t ≠ t') : b ≠ b' := by
  obtain ⟨cs, h1, _⟩ := h
  obtain ⟨cs', h2, _⟩ := h'
  exact cells_ne h1 h2 hne
theorem Arr.ne_cells {w : World} {b b' n : Nat} {t t' : TypeId} {f : Nat → Value} {cs : Array Value} {fr : Nat × Nat} (h : Arr w b t n f) (h' : w.heap[b']? = some (.cells cs t' fr)) (hne : t ≠ t') : b ≠ b' := by
  obtain ⟨cs, h1, _⟩ := h
  exact cells_ne h1 h' hne
theorem Arr.grown {w w' : World} {b x n : Nat} {t : TypeId} {f : Nat → Value} (h : Arr w b t n f) (hg : w.grownBy w' (some x)) (hne : b ≠ x) : Arr w' b t n f :=
  h.kept (hg.block b h.lt (by intro e; injection e with e; exact hne e))
section
variable {B0 B1 tb rb b0 b1 bc bh bm bl bv k : Nat} {w w' : World} {m : TM} {r : RM} {C : Nat → CM} {hi mi : Nat → Int} {L : Nat → OpT} {H : Nat → Bool}
theorem CacheAt.grown {b x : Nat} {c : CM} (h : CacheAt w b c) (hg : w.grownBy w' (some x)) (hne : b ≠ x) : CacheAt w' b c :=
  (hg.block b (Array.getElem?_eq_some_iff.1 h).1 (by intro e; injection e with e; exact hne e)).trans h
theorem StM.cachePut (h : StM B0 B1 tb rb b0 b1 bc bh bm bl bv w m r C hi mi L H) {ci : Nat} (hc : ci < 2) {c' : CM} (hg : w.grownBy w' (some (if ci = 0 then b0 else b1))) (hn : CacheAt w' (if ci = 0 then b0 else b1) c') :
    StM B0 B1 tb rb b0 b1 bc bh bm bl bv w' m r (fun i => if i = ci then c' else C i) hi mi L H := by
  have ho := h.cache ci hc
  refine ⟨h.tree.by_block hg ho (by show ¬ (_ = _ ∨ _ = _ ∨ _ = _); decide), h.ref.by_block hg ho (by show ¬ (_ = _ ∨ _ = _ ∨ _ = _ ∨ _ = _); decide), fun i hi' => ?_, h.ptrs.grown hg (h.ptrs.ne_cells ho (by decide)), h.hits.grown hg (h.hits.ne_cells ho (by decide)), h.miss.grown hg (h.miss.ne_cells ho (by decide)),
    h.last.grown hg (h.last.ne_cells ho (by decide)), h.have_.grown hg (h.have_.ne_cells ho (by decide)), h.ne1, h.ne2⟩
  have n1 := h.ne1
  by_cases e : i = ci
  · simp only [e, if_true]
    exact hn
  · simp only [e, if_false]
    refine (h.cache i hi').grown hg ?_
    rcases (show (i = 0 ∧ ci = 1) ∨ (i = 1 ∧ ci = 0) from by omega) with ⟨rfl, rfl⟩ | ⟨rfl, rfl⟩
    · simpa using n1
    · simpa using n1.symm
theorem StM.hitPut (h : StM B0 B1 tb rb b0 b1 bc bh bm bl bv w m r C hi mi L H) {ci : Nat} (hc : ci < 3) (v : Int) :
    StM B0 B1 tb rb b0 b1 bc bh bm bl bv (w.setCell ⟨bh, ci, none⟩ (.int .i64 v)) m r C (fun i => if i = ci then v else hi i) mi L H := by
  obtain ⟨cs, ho, _⟩ := id h.hits
  have hg := setCell_grown w ⟨bh, ci, none⟩ (.int .i64 v)
  have ha := h.hits.set hc (.int .i64 v)
  refine ⟨h.tree.by_block hg ho (by show ¬ (_ = _ ∨ _ = _ ∨ _ = _); decide), h.ref.by_block hg ho (by show ¬ (_ = _ ∨ _ = _ ∨ _ = _ ∨ _ = _); decide), fun i hi' => (h.cache i hi').grown hg (fun e => ?_), h.ptrs.grown hg (h.ptrs.ne_cells ho (by decide)), ?_, h.miss.grown hg (Ne.symm h.ne2),
    h.last.grown hg (h.last.ne_cells ho (by decide)), h.have_.grown hg (h.have_.ne_cells ho (by decide)), h.ne1, h.ne2⟩
  · exact cells_ne (h.cache i hi') ho (by decide) e
  · obtain ⟨cs', h1, h2⟩ := ha
    refine ⟨cs', h1, fun i hi' => ?_⟩
    rw [h2 i hi']
    by_cases e : i = ci <;> simp [e]
theorem StM.missPut (h : StM B0 B1 tb rb b0 b1 bc bh bm bl bv w m r C hi mi L H) {ci : Nat} (hc : ci < 3) (v : Int) :
    StM B0 B1 tb rb b0 b1 bc bh bm bl bv (w.setCell ⟨bm, ci, none⟩ (.int .i64 v)) m r C hi (fun i => if i = ci then v else mi i) L H := by
  obtain ⟨cs, ho, _⟩ := id h.miss
  have hg := setCell_grown w ⟨bm, ci, none⟩ (.int .i64 v)
  have ha := h.miss.set hc (.int .i64 v)
  refine ⟨h.tree.by_block hg ho (by show ¬ (_ = _ ∨ _ = _ ∨ _ = _); decide), h.ref.by_block hg ho (by show ¬ (_ = _ ∨ _ = _ ∨ _ = _ ∨ _ = _); decide), fun i hi' => (h.cache i hi').grown hg (fun e => ?_), h.ptrs.grown hg (h.ptrs.ne_cells ho (by decide)), h.hits.grown hg h.ne2, ?_,
    h.last.grown hg (h.last.ne_cells ho (by decide)), h.have_.grown hg (h.have_.ne_cells ho (by decide)), h.ne1, h.ne2⟩
  · exact cells_ne (h.cache i hi') ho (by decide) e
  · obtain ⟨cs', h1, h2⟩ := ha
    refine ⟨cs', h1, fun i hi' => ?_⟩
    rw [h2 i hi']
    by_cases e : i = ci <;> simp [e]
theorem StM.havePut (h : StM B0 B1 tb rb b0 b1 bc bh bm bl bv w m r C hi mi L H) {ci : Nat} (hc : ci < 3) (v : Bool) :
    StM B0 B1 tb rb b0 b1 bc bh bm bl bv (w.setCell ⟨bv, ci, none⟩ (.bool v)) m r C hi mi L (fun i => if i = ci then v else H i) := by
  obtain ⟨cs, ho, _⟩ := id h.have_
  have hg := setCell_grown w ⟨bv, ci, none⟩ (.bool v)
  have ha := h.have_.set hc (.bool v)
  refine ⟨h.tree.by_block hg ho (by show ¬ (_ = _ ∨ _ = _ ∨ _ = _); decide), h.ref.by_block hg ho (by show ¬ (_ = _ ∨ _ = _ ∨ _ = _ ∨ _ = _); decide), fun i hi' => (h.cache i hi').grown hg (fun e => ?_), h.ptrs.grown hg (h.ptrs.ne_cells ho (by decide)), h.hits.grown hg (h.hits.ne_cells ho (by decide)), h.miss.grown hg (h.miss.ne_cells ho (by decide)),
    h.last.grown hg (h.last.ne_cells ho (by decide)), ?_, h.ne1, h.ne2⟩
  · exact cells_ne (h.cache i hi') ho (by decide) e
  · obtain ⟨cs', h1, h2⟩ := ha
    refine ⟨cs', h1, fun i hi' => ?_⟩
    rw [h2 i hi']
    by_cases e : i = ci <;> simp [e]
theorem StM.below (h : StM B0 B1 tb rb b0 b1 bc bh bm bl bv w m r C hi mi L H) (hb : Below w.heap.size w w') : StM B0 B1 tb rb b0 b1 bc bh bm bl bv w' m r C hi mi L H := by
  have arr : ∀ {b n : Nat} {t : TypeId} {f : Nat → Value}, Arr w b t n f → Arr w' b t n f := fun {b n t f} ha => ha.kept (hb.block _ ha.lt)
  exact ⟨h.tree.below hb, h.ref.below hb, fun i hi => (hb.block _ (Array.getElem?_eq_some_iff.1 (h.cache i hi)).1).trans (h.cache i hi), arr h.ptrs, arr h.hits, arr h.miss, arr h.last, arr h.have_, h.ne1, h.ne2⟩
theorem St.mem (h : St B0 B1 tb rb b0 b1 bc bh bm bl bv k w m r C L H) : StM B0 B1 tb rb b0 b1 bc bh bm bl bv w m r C (fun i => if i < 2 then (C i).hits else 0) (fun i => if i < 2 then (C i).miss else 0) L H :=
  ⟨h.tree, h.ref, h.cache, h.ptrs, h.hits, h.miss, h.last, h.have_, h.ne1, h.ne2⟩
theorem St.of {hi mi : Nat → Int} (hM : StM B0 B1 tb rb b0 b1 bc bh bm bl bv w m r C hi mi L H) (hS : Sim m r) (h1 : m.1.length ≤ k + 1) (h2 : r.2.length ≤ k) (hh : ∀ i, i < 3 → hi i = if i < 2 then (C i).hits else 0) (hm : ∀ i, i < 3 → mi i = if i < 2 then (C i).miss else 0)
    (hr : ∀ i, i < 2 → CacheOK m tb (C i) ∧ ((H i = false ∧ (C i).tree = none) ∨ (H i = true ∧ (C i).tree = some tb ∧ (C i).s = (L i).2.1 ∧ (C i).k = plainK (L i).2.2.1)) ∧
      (0 ≤ (C i).hits ∧ (C i).hits ≤ k) ∧ (0 ≤ (C i).miss ∧ (C i).miss ≤ k) ∧ (L i).2.2.1.1.size ≤ 1048576) : St B0 B1 tb rb b0 b1 bc bh bm bl bv k w m r C L H := by
  refine ⟨hM.tree, hM.ref, hS, h1, h2, hM.cache, hr, hM.ptrs, ?_, ?_, hM.last, hM.have_, hM.ne1, hM.ne2⟩
  · obtain ⟨cs, p1, p2⟩ := hM.hits
    exact ⟨cs, p1, fun i hi' => by rw [p2 i hi']; show some (Value.int .i64 (hi i)) = _; rw [hh i hi']⟩
  · obtain ⟨cs, p1, p2⟩ := hM.miss
    exact ⟨cs, p1, fun i hi' => by rw [p2 i hi']; show some (Value.int .i64 (mi i)) = _; rw [hm i hi']⟩
/-- a flush -/
theorem St.flushed (h : St B0 B1 tb rb b0 b1 bc bh bm bl bv k w m r C L H) {ci : Nat} (h2 : ci < 2)
    (hM : StM B0 B1 tb rb b0 b1 bc bh bm bl bv w' m r (fun i => if i = ci then { C ci with tree := none } else C i) (fun i => if i < 2 then (C i).hits else 0) (fun i => if i < 2 then (C i).miss else 0) L (fun i => if i = ci then false else H i)) :
    St B0 B1 tb rb b0 b1 bc bh bm bl bv (k + 1) w' m r (fun i => if i = ci then { C ci with tree := none } else C i) L (fun i => if i = ci then false else H i) := by
  have l1 := h.len1
  have l2 := h.len2
  refine St.of hM h.sim (by omega) (by omega) (fun i _ => ?_) (fun i _ => ?_) (fun i hi' => ?_)
  · by_cases e : i = ci <;> simp [e]
  · by_cases e : i = ci <;> simp [e]
  · obtain ⟨q1, q2, q3, q4, q5⟩ := h.right i hi'
    by_cases e : i = ci
    · subst e
      simp only [if_true]
      exact ⟨CacheOK.flush, .inl ⟨by simp, by simp⟩, ⟨q3.1, by omega⟩, ⟨q4.1, by omega⟩, q5⟩
    · simp only [e, if_false]
      exact ⟨q1, q2, ⟨q3.1, by omega⟩, ⟨q4.1, by omega⟩, q5⟩
theorem St.flushed2 (h : St B0 B1 tb rb b0 b1 bc bh bm bl bv k w m r C L H)
    (hM : StM B0 B1 tb rb b0 b1 bc bh bm bl bv w' m r C (fun i => if i < 2 then (C i).hits else 0) (fun i => if i < 2 then (C i).miss else 0) L (fun i => if i = 2 then false else H i)) :
    St B0 B1 tb rb b0 b1 bc bh bm bl bv (k + 1) w' m r C L (fun i => if i = 2 then false else H i) := by
  have l1 := h.len1
  have l2 := h.len2
  refine St.of hM h.sim (by omega) (by omega) (fun i _ => rfl) (fun i _ => rfl) (fun i hi' => ?_)
  obtain ⟨q1, q2, q3, q4, q5⟩ := h.right i hi'
  have e : i ≠ 2 := by omega
  simp only [e, if_false]
  exact ⟨q1, q2, ⟨q3.1, by omega⟩, ⟨q4.1, by omega⟩, q5⟩
theorem St.next (h : St B0 B1 tb rb b0 b1 bc bh bm bl bv k w m r C L H) : St B0 B1 tb rb b0 b1 bc bh bm bl bv (k + 1) w m r C L H := by
  have l1 := h.len1
  have l2 := h.len2
  refine ⟨h.tree, h.ref, h.sim, by omega, by omega, h.cache, fun i hi' => ?_, h.ptrs, h.hits, h.miss, h.last, h.have_, h.ne1, h.ne2⟩
  obtain ⟨q1, q2, q3, q4, q5⟩ := h.right i hi'
  exact ⟨q1, q2, ⟨q3.1, by omega⟩, ⟨q4.1, by omega⟩, q5⟩
end
theorem last_cell {w : World} {bl ci j : Nat} {L : Nat → OpT} (h : Arr w bl 32 18 (fun j => opCell (L (j / 6)) (j % 6))) (hc : ci < 3) (hj : j < 6) : w.cell? ⟨bl, ci * 6 + j, none⟩ = some (opCell (L ci) j) := by
  have := h.cell (i := ci * 6 + j) (by omega)
  rw [show (ci * 6 + j) / 6 = ci from by omega, show (ci * 6 + j) % 6 = j from by omega] at this
  exact this
/-- a cache asked: the round's end -/
theorem St.asked {B0 B1 tb rb b0 b1 bc bh bm bl bv k : Nat} {w w' : World} {m : TM} {r : RM} {C : Nat → CM} {hi mi : Nat → Int} {L : Nat → OpT} {H : Nat → Bool} (h : St B0 B1 tb rb b0 b1 bc bh bm bl bv k w m r C L H) {ci : Nat} (h2 : ci < 2) (o : OpT) (ho : o.2.2.1.1.size ≤ 1048576)
    (hM : StM B0 B1 tb rb b0 b1 bc bh bm bl bv w' m r (fun i => if i = ci then askC m tb (C ci) o.2.1 o.2.2.1 else C i) hi mi (fun i => if i = ci then o else L i) (fun i => if i = ci then true else H i))
    (hh : hi = fun i => if i = ci then (askC m tb (C ci) o.2.1 o.2.2.1).hits else if i < 2 then (C i).hits else 0) (hm : mi = fun i => if i = ci then (askC m tb (C ci) o.2.1 o.2.2.1).miss else if i < 2 then (C i).miss else 0) :
    St B0 B1 tb rb b0 b1 bc bh bm bl bv (k + 1) w' m r (fun i => if i = ci then askC m tb (C ci) o.2.1 o.2.2.1 else C i) (fun i => if i = ci then o else L i) (fun i => if i = ci then true else H i) := by
  have l1 := h.len1
  have l2 := h.len2
  subst hh hm
  refine St.of hM h.sim (by omega) (by omega) (fun i _ => ?_) (fun i _ => ?_) (fun i hi' => ?_)
  · by_cases e : i = ci
    · subst e; simp [h2]
    · simp [e]
  · by_cases e : i = ci
    · subst e; simp [h2]
    · simp [e]
  · obtain ⟨q1, q2, q3, q4, q5⟩ := h.right i hi'
    by_cases e : i = ci
    · subst e
      simp only [if_true]
      refine ⟨q1.ask _ _, .inr ⟨by simp, ?_⟩, ?_, ?_, ho⟩
      · unfold askC
        split
        · rename_i hh; exact hh
        · exact ⟨rfl, rfl, rfl⟩
      · unfold askC
        split <;> simp only <;> omega
      · unfold askC
        split <;> simp only <;> omega
    · simp only [e, if_false]
      exact ⟨q1, q2, ⟨q3.1, by omega⟩, ⟨q4.1, by omega⟩, q5⟩
/-- whether a cache hits -/
theorem St.hit_iff {B0 B1 tb rb b0 b1 bc bh bm bl bv k : Nat} {w : World} {m : TM} {r : RM} {C : Nat → CM} {L : Nat → OpT} {H : Nat → Bool} (h : St B0 B1 tb rb b0 b1 bc bh bm bl bv k w m r C L H) {ci : Nat} (h2 : ci < 2) (s : Int) (q : KK) :
    ((C ci).tree = some tb ∧ (C ci).s = s ∧ (C ci).k = plainK q) ↔ (H ci = true ∧ (L ci).2.1 = s ∧ sameB (L ci).2.2.1 q = true) := by
  obtain ⟨_, q2, _⟩ := h.right ci h2
  rw [sameB_iff]
  rcases q2 with ⟨h1, h3⟩ | ⟨h1, h3, h4, h5⟩
  · rw [h1, h3]; simp
  · rw [h1, h3, h4, h5]; simp
theorem setCells_grown (b : Nat) : ∀ (vs : List Value) (o : Nat) (w : World), w.grownBy (w.setCells b o vs) (some b)
  | [], _, w => World.grownBy.refl w _
  | v :: r, o, w => grownBy_trans (setCell_grown w ⟨b, o, none⟩ v) (setCells_grown b r (o + 1) _)
theorem Arr.setCells {b n : Nat} {t : TypeId} : ∀ (vs : List Value) (o : Nat) (w : World) (f : Nat → Value), Arr w b t n f → o + vs.length ≤ n → Arr (w.setCells b o vs) b t n (fun j => if o ≤ j ∧ j < o + vs.length then vs.getD (j - o) undef else f j)
  | [], o, w, f, h, _ => by
    obtain ⟨cs, h1, h2⟩ := h
    exact ⟨cs, h1, fun i hi => by rw [h2 i hi]; simp; omega⟩
  | v :: r, o, w, f, h, hn => by
    simp only [List.length_cons] at hn
    obtain ⟨cs, h1, h2⟩ := Arr.setCells r (o + 1) _ _ (h.set (i := o) (by omega) v) (by omega)
    refine ⟨cs, h1, fun i hi => ?_⟩
    rw [h2 i hi]
    simp only [List.length_cons]
    by_cases e1 : i = o
    · subst e1
      rw [if_neg (by omega), if_pos rfl, if_pos (by omega)]
      simp
    · by_cases e2 : o + 1 ≤ i ∧ i < o + 1 + r.length
      · rw [if_pos e2, if_pos (by omega)]
        obtain ⟨d, rfl⟩ : ∃ d, i = o + 1 + d := ⟨i - (o + 1), by omega⟩
        rw [show o + 1 + d - (o + 1) = d from by omega, show o + 1 + d - o = d + 1 from by omega]
        simp
      · rw [if_neg e2, if_neg e1, if_neg (by omega)]
def opCells (o : OpT) : List Value := [.int .i64 o.1, .int .i64 o.2.1, .string o.2.2.1.1, .int .i64 o.2.2.1.2, .int .i64 o.2.2.2.1, .int .i64 o.2.2.2.2]
theorem StM.lastPut {B0 B1 tb rb b0 b1 bc bh bm bl bv : Nat} {w : World} {m : TM} {r : RM} {C : Nat → CM} {hi mi : Nat → Int} {L : Nat → OpT} {H : Nat → Bool} (h : StM B0 B1 tb rb b0 b1 bc bh bm bl bv w m r C hi mi L H) {ci : Nat} (hc : ci < 3) (o : OpT) :
    StM B0 B1 tb rb b0 b1 bc bh bm bl bv (w.setCells bl (ci * 6) (opCells o)) m r C hi mi (fun i => if i = ci then o else L i) H := by
  obtain ⟨cs, ho, _⟩ := id h.last
  have hg := setCells_grown bl (opCells o) (ci * 6) w
  have ha := Arr.setCells (opCells o) (ci * 6) w _ h.last (by simp [opCells]; omega)
  refine ⟨h.tree.by_block hg ho (by show ¬ (_ = _ ∨ _ = _ ∨ _ = _); decide), h.ref.by_block hg ho (by show ¬ (_ = _ ∨ _ = _ ∨ _ = _ ∨ _ = _); decide), fun i hi' => (h.cache i hi').grown hg (fun e => ?_), h.ptrs.grown hg (h.ptrs.ne_cells ho (by decide)), h.hits.grown hg (h.hits.ne_cells ho (by decide)), h.miss.grown hg (h.miss.ne_cells ho (by decide)),
    ?_, h.have_.grown hg (h.have_.ne_cells ho (by decide)), h.ne1, h.ne2⟩
  · exact cells_ne (h.cache i hi') ho (by decide) e
  · obtain ⟨cs', h1, h2⟩ := ha
    refine ⟨cs', h1, fun i hi' => ?_⟩
    rw [h2 i hi']
    simp only [show (opCells o).length = 6 from rfl]
    by_cases e : i / 6 = ci
    · rw [if_pos (by omega)]
      simp only [e, if_true]
      obtain ⟨d, rfl⟩ : ∃ d, i = ci * 6 + d := ⟨i - ci * 6, by omega⟩
      rw [show ci * 6 + d - ci * 6 = d from by omega, show (ci * 6 + d) % 6 = d from by omega]
      rcases (show d = 0 ∨ d = 1 ∨ d = 2 ∨ d = 3 ∨ d = 4 ∨ d = 5 from by omega) with rfl | rfl | rfl | rfl | rfl | rfl <;> rfl
    · rw [if_neg (by omega)]
      simp only [e, if_false]
theorem cell_drew {w : World} {a : Addr} {u : Value} (h : w.cell? a = some u) : w.drew.cell? a = some u := h
theorem idx3 (n : Int) : ∃ ci : Nat, ci < 3 ∧ (wrap64 (n.tmod 3 + 3)).tmod 3 = (ci : Int) := by
  have h1 : -3 < n.tmod 3 ∧ n.tmod 3 < 3 := by
    rcases Int.le_total 0 n with h | h
    · rw [Int.tmod_eq_emod_of_nonneg h]; omega
    · obtain ⟨p, rfl⟩ : ∃ p, n = -p := ⟨-n, by omega⟩
      rw [Int.neg_tmod, Int.tmod_eq_emod_of_nonneg (by omega)]; omega
  have h2 : wrap64 (n.tmod 3 + 3) = n.tmod 3 + 3 := by simp only [wrap64]; omega
  rw [h2, Int.tmod_eq_emod_of_nonneg (by omega)]
  exact ⟨((n.tmod 3 + 3) % 3).toNat, by omega, by omega⟩
theorem ptr3 (ci b0 b1 : Nat) (h : ci < 2) : (if ci = 0 then some (⟨b0, 0, none⟩ : Addr) else if ci = 1 then some ⟨b1, 0, none⟩ else none) = some ⟨if ci = 0 then b0 else b1, 0, none⟩ := by
  rcases (show ci = 0 ∨ ci = 1 from by omega) with rfl | rfl <;> rfl
theorem Fr.caches {B : Nat} {w w' : World} {i : Nat} {o : Obj} (h : Fr B touchT w w') (ho : w.heap[i]? = some o) (hp : partC o) : w'.heap[i]? = some o :=
  h.same _ _ ho (by
    cases o <;> simp only [partC, touchT] at hp ⊢
    rcases hp with h | h | h | h | h <;> subst h <;> decide)
theorem Fr.cachesR {B : Nat} {w w' : World} {i : Nat} {o : Obj} (h : Fr B touchR w w') (ho : w.heap[i]? = some o) (hp : partC o) : w'.heap[i]? = some o :=
  h.same _ _ ho (by
    cases o <;> simp only [partC, touchR] at hp ⊢
    rcases hp with h | h | h | h | h <;> subst h <;> decide)

end Go.Proofs.Ytopepkcmpogdoaa
