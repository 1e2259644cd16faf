/- Words for UnitsFinds: where units stand in others. -/
import Derived.Test.YthmdlnmbjgokaaaDoorUMake
namespace Go.Proofs.YthmdlnmbjgokaaaDoor
open Go.RowKit
set_option maxHeartbeats 4000000
set_option maxRecDepth 100000

/-- whether units stand at a place -/
def stU (us vs : List Int) (i : Nat) : Bool := vs.isPrefixOf (us.drop i)
theorem st_start (us vs : List Int) (i : Nat) : stU us vs i = (vs.drop 0).isPrefixOf (us.drop (i + 0)) := rfl
theorem st_step (us vs : List Int) (i k : Nat) (a b : Int) (ha : us[i + k]? = some a) (hb : vs[k]? = some b) :
    (vs.drop k).isPrefixOf (us.drop (i + k)) = (b == a && (vs.drop (k + 1)).isPrefixOf (us.drop (i + (k + 1)))) := by
  obtain ⟨h1, rfl⟩ := List.getElem?_eq_some_iff.1 ha
  obtain ⟨h2, rfl⟩ := List.getElem?_eq_some_iff.1 hb
  rw [List.drop_eq_getElem_cons h1, List.drop_eq_getElem_cons h2]
  rfl
theorem st_done (us vs : List Int) (i k : Nat) (h : vs.length ≤ k) : (vs.drop k).isPrefixOf (us.drop (i + k)) = true := by
  rw [List.drop_of_length_le h]
  cases us.drop (i + k) <;> rfl
theorem st_short (us vs : List Int) (i : Nat) (hi : i ≤ us.length) (h : us.length < i + vs.length) : stU us vs i = false := by
  cases hb : stU us vs i with
  | false => rfl
  | true =>
    have h1 := (List.isPrefixOf_iff_prefix.1 hb).length_le
    rw [List.length_drop] at h1
    omega
theorem st_end (us vs : List Int) (h : vs ≠ []) (n : Nat) (hn : us.length ≤ n) : stU us vs n = false := by
  unfold stU
  rw [List.drop_of_length_le hn]
  cases vs with
  | nil => exact absurd rfl h
  | cons a x => rfl
theorem st_nil (us : List Int) (i : Nat) : stU us [] i = true := by
  unfold stU
  cases us.drop i <;> rfl
theorem U_nil (t : ByteArray) (h : t.size / 2 = 0) : U t = [] := List.eq_nil_of_length_eq_zero (by rw [U_length]; exact h)
theorem U_ne (t : ByteArray) (h : t.size / 2 ≠ 0) : U t ≠ [] := by
  intro e
  have := congrArg List.length e
  rw [U_length] at this
  exact h this

/-- the first place of f places from i on -/
def fnd (p : Nat → Bool) : Nat → Nat → Int
  | 0, _ => -1
  | f + 1, i => if p i = true then (i : Int) else fnd p f (i + 1)
theorem fnd_step (p : Nat → Bool) (N k : Nat) (h : k < N) : fnd p (N - k) k = if p k = true then (k : Int) else fnd p (N - (k + 1)) (k + 1) := by
  rw [show N - k = (N - (k + 1)) + 1 by omega]
  rfl
theorem fnd_none (p : Nat → Bool) (N k : Nat) (h : N ≤ k) : fnd p (N - k) k = -1 := by
  rw [show N - k = 0 by omega]
  rfl
theorem fnd_last (p : Nat → Bool) : ∀ f i, p (i + f) = false → fnd p (f + 1) i = fnd p f i := by
  intro f
  induction f with
  | zero => intro i h; rw [Nat.add_zero] at h; simp [fnd, h]
  | succ f ih =>
    intro i h
    have h2 := ih (i + 1) (by rw [show i + 1 + f = i + (f + 1) by omega]; exact h)
    rw [show fnd p (f + 1 + 1) i = if p i = true then (i : Int) else fnd p (f + 1) (i + 1) from rfl, h2]
    rfl
/-- the last place below i -/
def lst (p : Nat → Bool) : Nat → Int
  | 0 => -1
  | k + 1 => if p k = true then (k : Int) else lst p k

/-- what Find answers -/
def findR (s t : ByteArray) (f : Int) : Int :=
  if ((s.size / 2 : Nat) : Int) < f then (if t.size / 2 = 0 then ((s.size / 2 : Nat) : Int) else -1)
  else fnd (stU (U s) (U t)) (s.size / 2 + 1 - (imax f 0).toNat) (imax f 0).toNat
/-- what Last answers -/
def lastR (s t : ByteArray) (f : Int) : Int := lst (stU (U s) (U t)) (imin f ((s.size / 2 : Nat) : Int) + 1).toNat
end Go.Proofs.YthmdlnmbjgokaaaDoor
