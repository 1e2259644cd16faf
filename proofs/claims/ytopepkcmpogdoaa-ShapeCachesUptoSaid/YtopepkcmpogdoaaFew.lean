/- The walk of lintellaw14.few; a list of operations in memory. -/
import Derived.Test.YtopepkcmpogdoaaTreeFind
namespace Go.Proofs.Ytopepkcmpogdoaa
open Go.RowKit
set_option maxHeartbeats 400000
set_option maxRecDepth 100000

/-- an operation: kind, shape, key, flags, cache -/
abbrev OpT := Int × Int × KK × Int × Int
def okOp (o : OpT) : Prop := (Lit.int .i64 o.1).wf = true ∧ (Lit.int .i64 o.2.1).wf = true ∧ okK o.2.2.1 ∧ (Lit.int .i64 o.2.2.2.1).wf = true ∧ (Lit.int .i64 o.2.2.2.2).wf = true
/-- a list of operations in memory -/
def Ops (w : World) (A : Option Addr) (l : List OpT) : Prop := ∀ i o, l[i]? = some o → ∃ b off, A = some ⟨b, off, none⟩ ∧
  w.cell? ⟨b, off + i * 6, none⟩ = some (.int .i64 o.1) ∧ w.cell? ⟨b, off + i * 6 + 1, none⟩ = some (.int .i64 o.2.1) ∧ w.cell? ⟨b, off + i * 6 + 2, none⟩ = some (.string o.2.2.1.1) ∧
  w.cell? ⟨b, off + i * 6 + 3, none⟩ = some (.int .i64 o.2.2.1.2) ∧ w.cell? ⟨b, off + i * 6 + 4, none⟩ = some (.int .i64 o.2.2.2.1) ∧ w.cell? ⟨b, off + i * 6 + 5, none⟩ = some (.int .i64 o.2.2.2.2)
theorem Ops.below {w w' : World} {A : Option Addr} {l : List OpT} (h : Ops w A l) (hb : Below w.heap.size w w') : Ops w' A l := fun i o hi => by
  obtain ⟨b, off, hA, h0, h1, h2, h3, h4, h5⟩ := h i o hi
  exact ⟨b, off, hA, (hb.cell (World.block_lt_of_cell? _ _ h0)).trans h0, (hb.cell (World.block_lt_of_cell? _ _ h1)).trans h1, (hb.cell (World.block_lt_of_cell? _ _ h2)).trans h2,
    (hb.cell (World.block_lt_of_cell? _ _ h3)).trans h3, (hb.cell (World.block_lt_of_cell? _ _ h4)).trans h4, (hb.cell (World.block_lt_of_cell? _ _ h5)).trans h5⟩

def fewS (l : List OpT) : Nat := (l.map fun o => o.2.2.1.1.size / 20).sum
theorem fewS_take (l : List OpT) (k : Nat) (o : OpT) (h : l[k]? = some o) : fewS (l.take (k + 1)) = fewS (l.take k) + o.2.2.1.1.size / 20 := by
  unfold fewS
  rw [List.take_add_one, h]
  simp
theorem fewS_le (l : List OpT) (k : Nat) : fewS (l.take k) ≤ fewS l := by
  unfold fewS
  conv => rhs; rw [← List.take_append_drop k l]
  rw [List.map_append, List.sum_append]
  omega

theorem few_any {w : World} {A : Option Addr} {c : Nat} {l : List OpT} (h : Ops w A l) (hl : l.length + fewS l ≤ 1099511627776) :
    Calls Try.prog 8 #[.slice A l.length c] w fun e w' => e = .returned (.bool (decide (l.length + fewS l ≤ 300))) ∧ Below w.heap.size w w' := by
  go_enter Try.func8, Try.ntmps8
  go_wp2_with fail
  go_loopw [3, 10] (fun n i wr => ∃ k : Nat, k ≤ l.length ∧ i = .int .i64 k ∧ n = .int .i64 ((l.length + fewS (l.take k) : Nat) : Int) ∧ Below w.heap.size w wr)
    (fun _ i _ => l.length - (intOf i).toNat)
  case atStart => exact ⟨0, Nat.zero_le _, rfl, by simp [fewS], Below.refl _ _⟩
  case round =>
    obtain ⟨k, hk, rfl, rfl, hb⟩ := hrel
    by_cases hlt : k < l.length
    · obtain ⟨o, ho⟩ : ∃ o, l[k]? = some o := ⟨l[k], List.getElem?_eq_getElem hlt⟩
      have hsum := fewS_take l k o ho
      have hle := fewS_le l (k + 1)
      obtain ⟨b, off, rfl, c0, c1, c2, c3, c4, c5⟩ := h.below hb k o ho
      obtain ⟨o1, o2, ⟨o3, o4⟩, o5, o6⟩ := o
      simp only at c0 c1 c2 c3 c4 c5 hsum
      generalize fewS (l.take k) = s0 at *
      go_wp2_with fail
      refine ⟨⟨k + 1, by omega, by go_num, ?_, hb.alloc hb.size _⟩, by simp [intOf]; omega⟩
      rw [hsum]
      congr 1
      omega
    · obtain rfl : k = l.length := by omega
      rw [List.take_length]
      go_wp2_with fail
      go_ret
      refine ⟨?_, hb⟩
      congr 2
      simp
      omega
end Go.Proofs.Ytopepkcmpogdoaa
