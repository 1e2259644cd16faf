/- Caches over a tree that grows: what they say stays right. -/
import Derived.Test.YtopepkcmpogdoaaPair
namespace Go.Proofs.Ytopepkcmpogdoaa
open Go.RowKit
set_option maxHeartbeats 400000
set_option maxRecDepth 100000

theorem findM_plain (T : List (List Sl)) (s : Int) {k k' : KK} (h : plainK k' = plainK k) : findM T s k' = findM T s k := by
  unfold findM
  rw [h]
theorem findM_ext {m m' : TM} (h : Ext m m') (s : Int) (k : KK) (ht : (findM m.1 s k).2.2 = true) : findM m'.1 s k = findM m.1 s k := by
  by_cases hin : InT m s
  · have hl := h.lM hin
    have hin' := h.inT hin
    unfold lM at hl
    unfold findM
    rw [if_neg (fun hc => hc hin'), if_neg (fun hc => hc hin), hl]
  · have e : findM m.1 s k = (0, 0, false) := if_pos hin
    rw [e] at ht
    cases ht

/-- what a cache remembers is right -/
def CacheOK (m : TM) (tb : Nat) (c : CM) : Prop := (c.tree = none ∨ c.tree = some tb) ∧ (c.tree = some tb → c.there = true → ∀ k, plainK k = c.k → findM m.1 c.s k = (c.at', c.fl, true))
/-- a cache asked -/
def askC (m : TM) (tb : Nat) (c : CM) (s : Int) (k : KK) : CM :=
  if c.tree = some tb ∧ c.s = s ∧ c.k = plainK k then { c with hits := c.hits + 1 } else ⟨some tb, s, plainK k, (findM m.1 s k).1, (findM m.1 s k).2.1, (findM m.1 s k).2.2, c.hits, c.miss + 1⟩
theorem CacheOK.ext {m m' : TM} {tb : Nat} {c : CM} (h : CacheOK m tb c) (hE : Ext m m') : CacheOK m' tb c :=
  ⟨h.1, fun h1 h2 k hk => by
    have h3 := h.2 h1 h2 k hk
    rw [findM_ext hE c.s k (by rw [h3]), h3]⟩
theorem CacheOK.ask {m : TM} {tb : Nat} {c : CM} (h : CacheOK m tb c) (s : Int) (k : KK) : CacheOK m tb (askC m tb c s k) := by
  unfold askC
  split
  · exact h
  · refine ⟨.inr rfl, fun _ ht k' hk' => ?_⟩
    rw [findM_plain m.1 s hk']
    simp only at ht ⊢
    rw [← ht]
theorem CacheOK.flush {m : TM} {tb : Nat} {c : CM} : CacheOK m tb { c with tree := none } := ⟨.inl rfl, fun h => by cases h⟩

/-- one block written that is no part of a tree -/
theorem IsTree.by_block {B0 : Nat} {w w' : World} {b cb : Nat} {T : List (List Sl)} {f : WK → Option Int} {cs : Array Value} {t : TypeId} {fr : Nat × Nat} (h : IsTree B0 w b T f) (hg : w.grownBy w' (some cb)) (hc : w.heap[cb]? = some (.cells cs t fr)) (ht : ¬ partT (.cells cs t fr)) : IsTree B0 w' b T f :=
  h.of_parts fun i o ho hp => by
    refine (hg.block i (Array.getElem?_eq_some_iff.1 ho).1 fun e => ?_).trans ho
    injection e with e
    rw [e, hc] at ho
    injection ho with ho
    rw [← ho] at hp
    exact ht hp
theorem IsRef.by_block {B0 : Nat} {w w' : World} {b cb : Nat} {T : List (List Sl)} {W : List Wy} {cs : Array Value} {t : TypeId} {fr : Nat × Nat} (h : IsRef B0 w b T W) (hg : w.grownBy w' (some cb)) (hc : w.heap[cb]? = some (.cells cs t fr)) (ht : ¬ partR (.cells cs t fr)) : IsRef B0 w' b T W :=
  h.of_parts fun i o ho hp => by
    refine (hg.block i (Array.getElem?_eq_some_iff.1 ho).1 fun e => ?_).trans ho
    injection e with e
    rw [e, hc] at ho
    injection ho with ho
    rw [← ho] at hp
    exact ht hp

/-- Cached, over a tree that was made and a cache that is right: Find's answer -/
theorem cached_tree {B0 : Nat} {w : World} {cb tb : Nat} {c : CM} {m : TM} (hT : IsTree B0 w tb m.1 m.2) (hC : CacheAt w cb c) (hI : CacheOK m tb c) (s : Int) (k : KK) (hk : okK k) (hm : m.1.length ≤ 1000) (hh : 0 ≤ c.hits ∧ c.hits < 1000000) (hmi : 0 ≤ c.miss ∧ c.miss < 1000000) :
    Calls Try.prog 20 #[.pointer (some ⟨tb, 0, none⟩), .pointer (some ⟨cb, 0, none⟩), .int .i64 s, encK k] w fun e w' =>
      e = .returned (.tuple #[.int .i64 (findM m.1 s k).1, .int .i64 (findM m.1 s k).2.1, .bool (findM m.1 s k).2.2]) ∧ w.grownBy w' (some cb) ∧ CacheAt w' cb (askC m tb c s k) := by
  refine (cached_any hC tb s k hk hI.1 hh hmi (findM m.1 s k).1 (findM m.1 s k).2.1 (findM m.1 s k).2.2 ?_).mono ?_
  · intro w' k' hg hp hk'
    have hT' := hT.by_block hg hC (by show ¬ (_ = _ ∨ _ = _ ∨ _ = _); decide)
    have := find_any hT' s k' hk' hm
    rw [findM_plain m.1 s hp] at this
    exact this
  · rintro e w' ⟨hg, h1, h2⟩
    unfold askC
    by_cases hh : c.tree = some tb ∧ c.s = s ∧ c.k = plainK k
    · rw [if_pos hh]
      obtain ⟨h3, h4⟩ := h1 hh
      refine ⟨?_, hg, h4⟩
      rw [h3]
      unfold cachedR
      by_cases ht : c.there = true
      · rw [if_pos ht]
        have := hI.2 hh.1 ht k hh.2.2.symm
        rw [← hh.2.1, this]
      · rw [if_neg ht]
    · rw [if_neg hh]
      obtain ⟨h3, h4⟩ := h2 hh
      exact ⟨h3, hg, h4⟩

/-- Cached without a cache -/
theorem cached_nocache {B0 : Nat} {w : World} {tb : Nat} {m : TM} (hT : IsTree B0 w tb m.1 m.2) (s : Int) (k : KK) (hk : okK k) (hm : m.1.length ≤ 1000) :
    Calls Try.prog 20 #[.pointer (some ⟨tb, 0, none⟩), .pointer none, .int .i64 s, encK k] w fun e w' =>
      e = .returned (.tuple #[.int .i64 (findM m.1 s k).1, .int .i64 (findM m.1 s k).2.1, .bool (findM m.1 s k).2.2]) ∧ Below w.heap.size w w' := by
  obtain ⟨n, sy⟩ := k
  simp only [encK]
  have hb1 : Below w.heap.size w (w.alloc (.cells #[.string n, .int .i64 sy] 30)) := (Below.refl _ _).alloc (Nat.le_refl _) _
  go_enter Try.func20, Try.ntmps20
  go_wp2_with fail
  refine (real_nil _).mono ?_
  rintro e w' ⟨rfl, rfl⟩
  simp only
  go_wp2_with fail
  refine (find_any (hT.below hb1) s (n, sy) hk hm).mono ?_
  rintro e w2 ⟨rfl, hb2⟩
  simp only
  go_wp2_with fail
  refine bodyPost_ret (v := .tuple #[.int .i64 (findM m.1 s (n, sy)).1, .int .i64 (findM m.1 s (n, sy)).2.1, .bool (findM m.1 s (n, sy)).2.2]) (by simp [results, Try.results20, go_sem]) rfl ?_
  exact ⟨rfl, hb1.trans (hb2.mono hb1.size)⟩
end Go.Proofs.Ytopepkcmpogdoaa
