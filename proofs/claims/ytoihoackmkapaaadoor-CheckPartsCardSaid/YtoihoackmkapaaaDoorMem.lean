/- Words for memory: a slice value whose cells are known; a row of bytes as a string. -/
import Derived.Test.YtoihoackmkapaaaDoorBase
import Derived.Deep.AppendLies
import Derived.Laws.BytesArg
namespace Go.Proofs.YtoihoackmkapaaaDoor
open Go.RowKit

/-- The cells from A on hold xs; all of them lie below block B. -/
def Rd (w : World) (B : Nat) (A : Option Addr) (xs : List Value) : Prop := ∀ k u, xs[k]? = some u → ∃ ad, A = some ad ∧ ad.block < B ∧ w.cell? (ad.add k) = some u

theorem add_block (a : Addr) (n : Nat) : (a.add n).block = a.block := by unfold Addr.add; split <;> rfl
theorem add_add (a : Addr) (i j : Nat) : (a.add i).add j = a.add (i + j) := by
  unfold Addr.add
  by_cases hi : i = 0 <;> by_cases hj : j = 0 <;> simp [hi, hj, Nat.add_assoc]

section
variable {w w' : World} {B B' : Nat} {A : Option Addr} {xs : List Value}
theorem Rd.nil : Rd w B A [] := fun k u h => by simp at h
theorem Rd.keep (h : Rd w B A xs) (hk : ∀ p : Addr, p.block < B → w'.cell? p = w.cell? p) : Rd w' B A xs := fun k u hu => by
  obtain ⟨ad, e, hb, hc⟩ := h k u hu
  exact ⟨ad, e, hb, (hk _ (by rw [add_block]; exact hb)).trans hc⟩
theorem Rd.more (h : Rd w B A xs) (hB : B ≤ B') : Rd w B' A xs := fun k u hu => by
  obtain ⟨ad, e, hb, hc⟩ := h k u hu
  exact ⟨ad, e, by omega, hc⟩
theorem Rd.below (h : Rd w B A xs) (hb : Below B w w') : Rd w' B A xs := h.keep fun _ hp => hb.cell hp
theorem Rd.at_ {k : Nat} {u : Value} (h : Rd w B A xs) (hk : xs[k]? = some u) : ∃ ad, A = some ad ∧ ad.block < B ∧ w.cell? (ad.add k) = some u := h k u hk
theorem Rd.cut {k : Nat} (h : Rd w B A xs) (A' : Option Addr) (hA : k < xs.length → A' = A.map (·.add k)) : Rd w B A' (xs.drop k) := fun j u hu => by
  have hlt : k + j < xs.length := by
    have := (List.getElem?_eq_some_iff.1 hu).1
    simp at this; omega
  rw [List.getElem?_drop] at hu
  obtain ⟨ad, rfl, hb, hc⟩ := h _ u hu
  refine ⟨ad.add k, by rw [hA (by omega)]; rfl, by rw [add_block]; exact hb, ?_⟩
  rw [add_add]; exact hc
theorem Rd.take {k : Nat} (h : Rd w B A xs) : Rd w B A (xs.take k) := fun j u hu => h j u (by
  rw [List.getElem?_take] at hu
  split at hu
  · exact hu
  · cases hu)
theorem Rd.of_own {base : Nat} {e : TypeId} {size n c : Nat} (h : w.ownsRow base e size (.slice A n c) n xs) : Rd w w.heap.size A xs := fun k u hu => by
  have hn : 0 < n := by
    rcases Nat.eq_zero_or_pos n with h0 | h0
    · have := h.1
      subst h0
      have hl := (List.getElem?_eq_some_iff.1 hu).1
      simp at this
      rw [this] at hl
      simp at hl
    · exact h0
  obtain ⟨g, cap, hv, _, hlt⟩ := h.form hn
  have hA : A = some ⟨g, 0, none⟩ := by injection hv
  subst hA
  exact ⟨_, rfl, hlt, h.cells (g := g) rfl k u hu⟩
end

/-- a row of bytes that the call owns, read as a string -/
theorem run_conv_owned {P : Program} {w : World} {base n : Nat} {v : Value} {ns : List Int} {src dst e : TypeId} (hs : P.underlying src = some (.slice e)) (he : P.underlying e = some (.int .u8)) (hd : P.underlying dst = some .string)
    (h : w.ownsRow base e 1 v n (ns.map (Value.int .u8))) : (convert src dst v).run P w = .ok (.string (strOfNums ns)) w := by
  rcases Nat.eq_zero_or_pos n with h0 | h0
  · have hl := h.1
    subst h0
    have hns : ns = [] := List.eq_nil_of_length_eq_zero (by simpa using hl)
    subst hns
    rcases h.2 with ⟨rfl, _⟩ | ⟨g, cap, cur, rfl, _⟩
    · exact run_convert_bytes_nil w src e hs he 0 0 dst hd
    · exact run_convert_bytes_arg w src e hs he g 0 0 cap [] rfl (fun i hi => absurd hi (by omega)) dst hd
  · obtain ⟨g, cap, rfl, _, hlt⟩ := h.form h0
    have hl : ns.length = n := by simpa using h.1
    refine run_convert_bytes_arg w src e hs he g 0 n cap ns hl (fun i hi => ?_) dst hd
    have hu : (ns.map (Value.int .u8))[i]? = some (.int .u8 (ns.getD i 0)) := by
      rw [List.getElem?_map, List.getD]
      rw [List.getElem?_eq_getElem (by omega)]
      rfl
    have := h.cells (g := g) rfl i _ hu
    simpa [Addr.add_lit] using this

/-- an index into a string, in bounds: its byte -/
theorem run_index_str {P : Program} {t : TypeId} (ht : P.underlying t = some .string) (s : ByteArray) (i : Int) (k : Nat) (hi : i = (k : Int)) (hk : k < s.size) (w : World) :
    (Instr.index t (.string s) (.int .i64 i)).run P w = .ok (.int .u8 ((s[k]?.getD 0).toNat : Int)) w := by
  subst hi
  simp [Instr.index, run_underlying ht, asIntOf, hk]
end Go.Proofs.YtoihoackmkapaaaDoor
