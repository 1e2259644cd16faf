/- The table of jumps: a map from int to int, read as a function. -/
import Derived.Test.YtoihoackmkapaaaDoorMapK
import Derived.Test.YtoihoackmkapaaaDoorKRch
import Derived.Maps.Keyed
namespace Go.Proofs.YtoihoackmkapaaaDoor
open Go.RowKit
open Go.Maps (Keyed)
set_option maxRecDepth 100000

def encI (x : Int) : Value := .int .i64 x
def okI (x : Int) : Prop := (Lit.int .i64 x).wf = true
theorem encI_inj (x y : Int) (h : encI x = encI y) : x = y := by simpa [encI] using h
theorem zero_intI (w : World) : (zeroValue 3).run Tryd.prog w = .ok (.int .i64 0) w := by kernel_rfl
theorem KeyI : KeyEnc Tryd.prog 3 3 61 encI okI where
  keyed := Go.Maps.int_keyed Tryd.underlying3
  mapT := Tryd.underlying61
  elemT := Tryd.underlying3
  zero := zero_intI
  reads := fun x hx => ⟨_, Go.Maps.keyOf_int_mk Tryd.underlying3 hx⟩
  inj := encI_inj
abbrev IMap (w : World) (b n : Nat) (f : Int → Option Int) : Prop := MapV Tryd.prog 3 3 encI okI w b n f
/-- what the table holds -/
def jmpF (l : List (Nat × Int)) : Int → Option Int := l.foldl (fun f x => updK f (x.1 : Int) x.2) fun _ => none
theorem jmpF_snoc (l : List (Nat × Int)) (x : Nat × Int) : jmpF (l ++ [x]) = updK (jmpF l) (x.1 : Int) x.2 := by
  unfold jmpF
  rw [List.foldl_append]
  rfl
theorem TG_fold : ∀ (l : List InsT) (k : Nat) (f : Int → Option Int) (n : Nat), ((TG k l).foldl (fun f x => updK f (x.1 : Int) x.2) f) (n : Int) = if k ≤ n then ((l[n - k]?).bind tgtOf).or (f n) else f n
  | [], k, f, n => by simp [TG]
  | i :: r, k, f, n => by
    unfold TG
    cases ht : tgtOf i with
    | none =>
      simp only
      rw [TG_fold r (k + 1) f n]
      by_cases h1 : k + 1 ≤ n
      · rw [if_pos h1, if_pos (by omega), show n - k = (n - (k + 1)) + 1 by omega, List.getElem?_cons_succ]
      · rw [if_neg h1]
        by_cases h2 : k ≤ n
        · have : n = k := by omega
          subst this
          rw [if_pos h2, Nat.sub_self, List.getElem?_cons_zero]
          simp [ht]
        · rw [if_neg h2]
    | some t =>
      simp only [List.foldl_cons]
      rw [TG_fold r (k + 1) _ n]
      by_cases h1 : k + 1 ≤ n
      · rw [if_pos h1, if_pos (by omega), show n - k = (n - (k + 1)) + 1 by omega, List.getElem?_cons_succ]
        unfold updK
        rw [if_neg (by omega)]
      · rw [if_neg h1]
        by_cases h2 : k ≤ n
        · have : n = k := by omega
          subst this
          rw [if_pos h2, Nat.sub_self, List.getElem?_cons_zero]
          simp [ht, updK]
        · rw [if_neg h2]
          unfold updK
          rw [if_neg (by omega)]
theorem jmpF_TG (l : List InsT) (n : Nat) : jmpF (TG 0 l) (n : Int) = (l[n]?).bind tgtOf := by
  unfold jmpF
  rw [TG_fold l 0 _ n, if_pos (Nat.zero_le _), Nat.sub_zero]
  simp
end Go.Proofs.YtoihoackmkapaaaDoor
