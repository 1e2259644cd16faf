/- A list of operations among the arguments; what the bound on the bulk gives. -/
import Derived.Test.YtopepkcmpogdoaaPost
import Derived.Test.YtopepkcmpogdoaaFew
import Derived.Deep.Slices
namespace Go.Proofs.Ytopepkcmpogdoaa
open Go.ChangeShapes Go.WideShapes Go.ChangeAt Go.RowKit Go.Deep
set_option maxRecDepth 100000

theorem bulk_string {H : Type} (s : List UInt8) : Rows.uptoBulk (DataW.lit (H := H) (.string s)) = s.length + 1 := by simp [Rows.uptoBulk]
theorem bulk_pos {H : Type} (d : DataW H) : 1 ≤ Rows.uptoBulk d := by
  cases d with
  | lit l => cases l <;> simp [Rows.uptoBulk]
  | nil => simp [Rows.uptoBulk]
  | ptr d => simp [Rows.uptoBulk]
  | slice elems spare => simp [Rows.uptoBulk]
  | agg parts => simp [Rows.uptoBulk]
  | iface t d => simp [Rows.uptoBulk]
  | map entries => simp [Rows.uptoBulk]
  | held h => simp [Rows.uptoBulk]

theorem exists_list {α : Type} {Q : Nat → α → Prop} : ∀ n, (∀ i, i < n → ∃ o, Q i o) → ∃ l : List α, l.length = n ∧ ∀ i o, l[i]? = some o → Q i o := by
  intro n
  induction n with
  | zero => intro _; exact ⟨[], rfl, fun i o h => by simp at h⟩
  | succ n ih =>
    intro h
    obtain ⟨l, h1, h2⟩ := ih fun i hi => h i (by omega)
    obtain ⟨o, ho⟩ := h n (by omega)
    refine ⟨l ++ [o], by simp [h1], fun i o' hi => ?_⟩
    by_cases hlt : i < l.length
    · rw [List.getElem?_append_left hlt] at hi
      exact h2 i o' hi
    · rw [List.getElem?_append_right (by omega)] at hi
      have e : i - l.length = 0 := by
        have := (List.getElem?_eq_some_iff.1 hi).1
        simp at this
        omega
      rw [e] at hi
      obtain rfl : o = o' := by simpa using hi
      have : i = n := by omega
      rw [this]
      exact ho

section
variable {H : Type} {enc : TypeId × Value → H} {w : World} {base : Nat} {spare : Nat → Bool} {held : Bool}

theorem open_key {fuel : Nat} {cs : List Value} {x : DataW H × List MemPlace} (h : DataW.trod enc Try.prog w base spare held fuel 30 cs = some x) :
    ∃ k : KK, cs = [.string k.1, .int .i64 k.2] ∧ okK k ∧ k.1.size + 2 ≤ Rows.uptoBulk x.1 := by
  obtain ⟨xs, n, _, rfl, hl, hxl, hf⟩ := DataW.trod_struct Try.underlying30 h
  rw [cellsK] at hl
  match cs, hl, xs, hxl with
  | [c0, c1], _, [y0, y1], _ =>
    have h0 : DataW.trod enc Try.prog w base spare held n 28 (([c0, c1].drop 0).take (Try.prog.cellsOf 28)) = some y0 := hf 0 _ rfl
    have h1 : DataW.trod enc Try.prog w base spare held n 3 (([c0, c1].drop 1).take (Try.prog.cellsOf 3)) = some y1 := hf 1 _ rfl
    rw [cellsStr] at h0
    rw [cellsInt] at h1
    simp only [List.drop_zero, List.drop_succ_cons, List.take_succ_cons, List.take_zero] at h0 h1
    obtain ⟨s, e0, rfl, hs⟩ := DataW.trod_string Try.underlying28 h0
    obtain ⟨m, e1, rfl, hm⟩ := DataW.trod_int Try.underlying3 h1
    obtain rfl : c0 = .string s := by simpa using e0
    obtain rfl : c1 = .int .i64 m := by simpa using e1
    refine ⟨(s, m), rfl, ⟨hs, hm⟩, ?_⟩
    have e : s.data.toList.length = s.size := by rw [Array.length_toList]; rfl
    simp only [List.map_cons, List.map_nil, Rows.uptoBulk, Rows.uptoBulkAll, e]
    omega

theorem cellsOp : Try.prog.cellsOf 32 = 6 := by kernel_rfl
theorem open_op {fuel : Nat} {cs : List Value} {x : DataW H × List MemPlace} (h : DataW.trod enc Try.prog w base spare held fuel 32 cs = some x) :
    ∃ o : OpT, cs = [.int .i64 o.1, .int .i64 o.2.1, .string o.2.2.1.1, .int .i64 o.2.2.1.2, .int .i64 o.2.2.2.1, .int .i64 o.2.2.2.2] ∧ okOp o ∧ o.2.2.1.1.size / 20 + 1 ≤ Rows.uptoBulk x.1 := by
  obtain ⟨xs, n, _, rfl, hl, hxl, hf⟩ := DataW.trod_struct Try.underlying32 h
  rw [cellsOp] at hl
  match cs, hl, xs, hxl with
  | [c0, c1, c2, c3, c4, c5], _, [y0, y1, y2, y3, y4], _ =>
    have h0 : DataW.trod enc Try.prog w base spare held n 3 (([c0, c1, c2, c3, c4, c5].drop 0).take (Try.prog.cellsOf 3)) = some y0 := hf 0 _ rfl
    have h1 : DataW.trod enc Try.prog w base spare held n 3 (([c0, c1, c2, c3, c4, c5].drop 1).take (Try.prog.cellsOf 3)) = some y1 := hf 1 _ rfl
    have h2 : DataW.trod enc Try.prog w base spare held n 30 (([c0, c1, c2, c3, c4, c5].drop 2).take (Try.prog.cellsOf 30)) = some y2 := hf 2 _ rfl
    have h3 : DataW.trod enc Try.prog w base spare held n 3 (([c0, c1, c2, c3, c4, c5].drop 4).take (Try.prog.cellsOf 3)) = some y3 := hf 3 _ rfl
    have h4 : DataW.trod enc Try.prog w base spare held n 3 (([c0, c1, c2, c3, c4, c5].drop 5).take (Try.prog.cellsOf 3)) = some y4 := hf 4 _ rfl
    rw [cellsInt] at h0 h1 h3 h4
    rw [cellsK] at h2
    simp only [List.drop_zero, List.drop_succ_cons, List.take_succ_cons, List.take_zero] at h0 h1 h2 h3 h4
    obtain ⟨a, e0, rfl, w0⟩ := DataW.trod_int Try.underlying3 h0
    obtain ⟨b, e1, rfl, w1⟩ := DataW.trod_int Try.underlying3 h1
    obtain ⟨k, e2, w2, hb⟩ := open_key h2
    obtain ⟨f, e3, rfl, w3⟩ := DataW.trod_int Try.underlying3 h3
    obtain ⟨g, e4, rfl, w4⟩ := DataW.trod_int Try.underlying3 h4
    obtain rfl : c0 = .int .i64 a := by simpa using e0
    obtain rfl : c1 = .int .i64 b := by simpa using e1
    obtain ⟨rfl, rfl⟩ : c2 = .string k.1 ∧ c3 = .int .i64 k.2 := by simpa using e2
    obtain rfl : c4 = .int .i64 f := by simpa using e3
    obtain rfl : c5 = .int .i64 g := by simpa using e4
    refine ⟨(a, b, k, f, g), rfl, ⟨w0, w1, w2, w3, w4⟩, ?_⟩
    simp only [List.map_cons, List.map_nil, Rows.uptoBulk, Rows.uptoBulkAll]
    omega

theorem bulk_range (D : Nat → DataW H) : ∀ (l : List OpT) (n : Nat), (∀ i o, l[i]? = some o → o.2.2.1.1.size / 20 + 1 ≤ Rows.uptoBulk (D (n + i))) → l.length + fewS l ≤ Rows.uptoBulkAll ((List.range' n l.length).map D) := by
  intro l
  induction l with
  | nil => intro n _; simp [fewS]
  | cons o l ih =>
    intro n h
    have h0 := h 0 o rfl
    have h1 := ih (n + 1) fun i o' hi => by
      have := h (i + 1) o' hi
      rwa [show n + (i + 1) = n + 1 + i from by omega] at this
    simp only [Nat.add_zero] at h0
    simp only [List.length_cons, List.range'_succ, List.map_cons, Rows.uptoBulkAll]
    have e : fewS (o :: l) = o.2.2.1.1.size / 20 + fewS l := by simp [fewS]
    rw [e]
    omega

theorem open_ops {v : Value} {d : DataW H} {p : List MemPlace} (h : DataW.Trod enc Try.prog w base spare held 22 v d p) (hv : Value.okWide Try.prog w .any base 22 v) :
    ∃ A c l, v = .slice A (List.length l) c ∧ Ops w A l ∧ (∀ o ∈ l, okOp o) ∧ l.length + fewS l ≤ Rows.uptoBulk d := by
  obtain ⟨a0, n0, c0, rfl⟩ := okWide_slice Try.underlying22 hv
  obtain ⟨fuel, hf⟩ := h
  rcases open_slice Try.underlying22 hf with ⟨hcs, _⟩ | ⟨a, len, cap, m, n, D, Pl, hcs, hb, hl, hm, hmm, hx, hi⟩
  · obtain ⟨rfl, rfl, rfl⟩ : a0 = none ∧ n0 = 0 ∧ c0 = 0 := by simpa [Value.cells] using hcs
    exact ⟨none, 0, [], rfl, fun i o ho => by simp at ho, by simp, by simp [fewS]⟩
  obtain ⟨rfl, rfl, rfl⟩ : a0 = some a ∧ n0 = len ∧ c0 = cap := by simpa [Value.cells] using hcs
  have hlm : n0 ≤ m := by rw [hmm]; split <;> omega
  obtain ⟨l, hll, hlo⟩ := exists_list (Q := fun i (o : OpT) => ∃ b off, some a = some (⟨b, off, none⟩ : Addr) ∧
      (w.cell? ⟨b, off + i * 6, none⟩ = some (.int .i64 o.1) ∧ w.cell? ⟨b, off + i * 6 + 1, none⟩ = some (.int .i64 o.2.1) ∧ w.cell? ⟨b, off + i * 6 + 2, none⟩ = some (.string o.2.2.1.1) ∧
        w.cell? ⟨b, off + i * 6 + 3, none⟩ = some (.int .i64 o.2.2.1.2) ∧ w.cell? ⟨b, off + i * 6 + 4, none⟩ = some (.int .i64 o.2.2.2.1) ∧ w.cell? ⟨b, off + i * 6 + 5, none⟩ = some (.int .i64 o.2.2.2.2)) ∧
      okOp o ∧ o.2.2.1.1.size / 20 + 1 ≤ Rows.uptoBulk (D i)) n0 fun i hlt => by
    obtain ⟨cs', hc, ht⟩ := hi i (by omega)
    obtain ⟨o, rfl, ho, hbk⟩ := open_op ht
    rw [cellsOp] at hc
    obtain ⟨_, _, hat⟩ := World.cells?_some hc
    obtain ⟨b, off, sp⟩ := a
    obtain rfl : sp = none := by
      obtain ⟨cs0, hc0, ht0⟩ := hi 0 (by omega)
      obtain ⟨o0, rfl, _, _⟩ := open_op ht0
      rw [cellsOp] at hc0
      have r0 := (World.cells?_some hc0).2.2 0 (by omega)
      have : (Addr.add (Addr.add ⟨b, off, sp⟩ (0 * 6)) 0).spot = none := World.cell?_spot r0
      simpa [Addr.add] using this
    have q0 := hat 0 (by omega)
    have q1 := hat 1 (by omega)
    have q2 := hat 2 (by omega)
    have q3 := hat 3 (by omega)
    have q4 := hat 4 (by omega)
    have q5 := hat 5 (by omega)
    simp only [Addr.add_lit, Nat.add_zero, List.getElem?_cons_zero, List.getElem?_cons_succ] at q0 q1 q2 q3 q4 q5
    exact ⟨o, b, off, rfl, ⟨q0, q1, q2, q3, q4, q5⟩, ho, hbk⟩
  refine ⟨some a, c0, l, by rw [hll], fun i o ho => ?_, fun o ho => ?_, ?_⟩
  · obtain ⟨b, off, hA, hc, _⟩ := hlo i o ho
    exact ⟨b, off, hA, hc⟩
  · obtain ⟨i, hi'⟩ := List.getElem?_of_mem ho
    obtain ⟨_, _, _, _, hk, _⟩ := hlo i o hi'
    exact hk
  · simp only [Prod.mk.injEq] at hx
    rw [hx.1]
    simp only [Rows.uptoBulk]
    have h1 := bulk_range D l 0 fun i o ho => by
      obtain ⟨_, _, _, _, _, hk⟩ := hlo i o ho
      rwa [Nat.zero_add]
    rw [hll, ← List.range_eq_range'] at h1
    omega
end
end Go.Proofs.Ytopepkcmpogdoaa
