/- A map with integer elements that reads as a function of its keys. -/
import Derived.Test.YtoihoackmkapaaaDoorBase
import Derived.Maps.OwnSet
namespace Go.Proofs.YtoihoackmkapaaaDoor
open Go.RowKit
open Go.Maps (Keyed)

section
variable {κ : Type} {P : Program} {k e t : TypeId} {enc : κ → Value} {ok : κ → Prop}

/-- how keys of type κ are written: each that is ok reads as a key; no two are written alike -/
structure KeyEnc (P : Program) (k e t : TypeId) (enc : κ → Value) (ok : κ → Prop) : Prop where
  keyed : Keyed P k
  mapT : P.underlying t = some (.map k e)
  elemT : P.underlying e = some (.int .i64)
  zero : ∀ w, (zeroValue e).run P w = .ok (.int .i64 0) w
  reads : ∀ x, ok x → ∃ kl, keyOf P k (enc x) = some kl
  inj : ∀ x y, enc x = enc y → x = y

/-- Block b is a map of at most n entries; at each key x that is ok it holds f x. -/
def MapV (P : Program) (k e : TypeId) (enc : κ → Value) (ok : κ → Prop) (w : World) (b n : Nat) (f : κ → Option Int) : Prop :=
  ∃ D : DataW Unit, w.ownsMap P k (plainElem P e) b n D ∧ ∀ x kl, ok x → keyOf P k (enc x) = some kl → Maps.has D kl = (f x).isSome ∧ D.atKey kl (.lit (.int .i64 0)) = .lit (.int .i64 ((f x).getD 0))

variable {w w' : World} {b n : Nat} {f : κ → Option Int}
theorem MapV.made (w : World) (enc : κ → Value) (ok : κ → Prop) : MapV P k e enc ok (w.alloc (.map #[] 0)) w.heap.size 0 (fun _ => none) :=
  ⟨.map [], World.ownsMap_made w P k _, fun _ _ _ _ => ⟨rfl, rfl⟩⟩
theorem MapV.kept {row : Option Nat} (h : MapV P k e enc ok w b n f) (hg : w.grownBy w' row) (hne : some b ≠ row) : MapV P k e enc ok w' b n f := by
  obtain ⟨D, h1, h2⟩ := h
  exact ⟨D, h1.kept hg hne, h2⟩
theorem MapV.lt (h : MapV P k e enc ok w b n f) : b < w.heap.size := by obtain ⟨D, h1, _⟩ := h; exact h1.lt
theorem MapV.of_block (h : MapV P k e enc ok w b n f) (hb : w'.heap[b]? = w.heap[b]?) : MapV P k e enc ok w' b n f := by
  obtain ⟨D, ⟨es, clock, h1, h3⟩, h2⟩ := h
  exact ⟨D, ⟨es, clock, hb.trans h1, h3⟩, h2⟩
theorem MapV.below {B : Nat} (h : MapV P k e enc ok w b n f) (hb : Below B w w') (hB : b < B) : MapV P k e enc ok w' b n f := h.of_block (hb.block b hB)
theorem MapV.mono {n' : Nat} (h : MapV P k e enc ok w b n f) (hn : n ≤ n') : MapV P k e enc ok w b n' f := by
  obtain ⟨D, h1, h2⟩ := h
  exact ⟨D, h1.mono hn, h2⟩
theorem MapV.congr {g : κ → Option Int} (h : MapV P k e enc ok w b n f) (hfg : ∀ x, ok x → f x = g x) : MapV P k e enc ok w b n g := by
  obtain ⟨D, h1, h2⟩ := h
  exact ⟨D, h1, fun x kl hx hk => by rw [← hfg x hx]; exact h2 x kl hx hk⟩

/-- 'v, ok := m[x]' -/
theorem MapV.look (E : KeyEnc P k e t enc ok) (h : MapV P k e enc ok w b n f) {x : κ} (hx : ok x) :
    (Instr.lookup t (.map (some b)) (enc x) true).run P w = .ok (.tuple #[.int .i64 ((f x).getD 0), .bool (f x).isSome]) w := by
  obtain ⟨D, h1, h2⟩ := h
  obtain ⟨kl, hk⟩ := E.reads x hx
  obtain ⟨hh, hat⟩ := h2 x kl hx hk
  obtain ⟨v, ps, hrun, hv⟩ := h1.look_ok E.keyed E.mapT (E.zero w) (plainElem_int (H := Unit) E.elemT (by decide)) hk
  rw [hat] at hv
  obtain ⟨a, rfl, hz, _⟩ := plainElem_int_inv E.elemT hv
  simp only [Prod.mk.injEq] at hz
  have ha : (f x).getD 0 = a := by
    have := hz.1
    injection this with this
    injection this
  rw [hrun, hh, ha]

/-- 'm[x] = c' -/
def updK [DecidableEq κ] (f : κ → Option Int) (x : κ) (c : Int) : κ → Option Int := fun y => if y = x then some c else f y
theorem MapV.store [DecidableEq κ] (E : KeyEnc P k e t enc ok) (h : MapV P k e enc ok w b n f) {x : κ} (hx : ok x) {c : Int} (hc : (Lit.int .i64 c).wf = true) (hn : n < maxLen) :
    ∃ w', (Instr.mapUpdate t (.map (some b)) (enc x) (.int .i64 c)).run P w = .ok () w' ∧ MapV P k e enc ok w' b (n + 1) (updK f x c) ∧ w.grownBy w' (some b) := by
  obtain ⟨D, h1, h2⟩ := h
  obtain ⟨kl, hk⟩ := E.reads x hx
  obtain ⟨w', hrun, h3, h4⟩ := h1.update E.keyed E.mapT hn hk (plainElem_int (H := Unit) E.elemT hc)
  refine ⟨w', hrun, ⟨_, h3, fun y yl hy hyk => ?_⟩, h4⟩
  unfold updK
  by_cases hxy : y = x
  · subst hxy
    obtain rfl : yl = kl := Option.some.inj (hyk.symm.trans hk)
    rw [if_pos rfl]
    exact ⟨Maps.has_put_same h1.isMap (E.keyed.key hk) _, Maps.atKey_put_same h1.isMap (E.keyed.key hk) _ _⟩
  · rw [if_neg hxy]
    have hne : yl ≠ kl := fun e => by
      subst e
      exact hxy (E.inj _ _ (E.keyed.inj hyk hk))
    rw [Maps.has_put_other hne, Maps.atKey_put_other hne]
    exact h2 y yl hy hyk

theorem wp_mapUpdate_V [DecidableEq κ] {o : Oper} {a : Act} {K : Act → World → Prop} {Q : Exit → Act → World → Prop} (m x v : Operand) (hop : o.op = Op.mapUpdate t m x v) (E : KeyEnc P k e t enc ok)
    (b n : Nat) (f : κ → Option Int) (hm : a.eval m = .map (some b)) (h : MapV P k e enc ok w b n f) (hn : n < maxLen) (y : κ) (hx : a.eval x = enc y) (hy : ok y) (c : Int) (hv : a.eval v = .int .i64 c) (hc : (Lit.int .i64 c).wf = true)
    (hK : ∀ w', MapV P k e enc ok w' b (n + 1) (updK f y c) → w.grownBy w' (some b) → K (a.put o.dst undef) w') : o.wp P a w K Q := by
  obtain ⟨w', hrun, r1, r2⟩ := h.store E hy hc hn
  unfold Oper.wp
  simp [execOp, hop, hm, hx, hv, hrun, Result.andThen]
  exact hK w' r1 r2
end
end Go.Proofs.YtoihoackmkapaaaDoor
