/- A module among the arguments, opened; what the bound on the bulk gives. -/
import Derived.Test.YtoihoackmkapaaaDoorPost
import Derived.Test.YtoihoackmkapaaaDoorKReach
import Derived.Test.YtoihoackmkapaaaDoorRows
import Derived.Deep.Slices
namespace Go.Proofs.YtoihoackmkapaaaDoor
open Go.ChangeShapes Go.WideShapes Go.ChangeAt Go.RowKit Go.Deep
set_option maxRecDepth 100000

theorem exists_list {α : Type} {Q : Nat → α → Prop} : ∀ n, (∀ i, i < n → ∃ o, Q i o) → ∃ l : List α, l.length = n ∧ ∀ i o, l[i]? = some o → Q i o := by
  intro n
  induction n with
  | zero => intro _; exact ⟨[], rfl, fun i o h => by simp at h⟩
  | succ n ih =>
    intro h
    obtain ⟨l, h1, h2⟩ := ih fun i hi => h i (by omega)
    obtain ⟨o, ho⟩ := h n (by omega)
    refine ⟨l ++ [o], by simp [h1], fun i o' hi => ?_⟩
    by_cases hlt : i < l.length
    · rw [List.getElem?_append_left hlt] at hi
      exact h2 i o' hi
    · rw [List.getElem?_append_right (by omega)] at hi
      have e : i - l.length = 0 := by
        have := (List.getElem?_eq_some_iff.1 hi).1
        simp at this
        omega
      rw [e] at hi
      obtain rfl : o = o' := by simpa using hi
      have : i = n := by omega
      rw [this]
      exact ho

section
variable {H : Type} {enc : TypeId × Value → H} {w : World} {base : Nat} {spare : Nat → Bool} {held : Bool}
theorem bulk_pos (d : DataW H) : 1 ≤ Rows.uptoBulk d := by
  cases d with
  | lit l => cases l <;> simp [Rows.uptoBulk]
  | nil => simp [Rows.uptoBulk]
  | ptr d => simp [Rows.uptoBulk]
  | slice elems spare => simp [Rows.uptoBulk]
  | agg parts => simp [Rows.uptoBulk]
  | iface t d => simp [Rows.uptoBulk]
  | map entries => simp [Rows.uptoBulk]
  | held h => simp [Rows.uptoBulk]
theorem trod_floatK {P : Program} {t : TypeId} {k : FloatKind} {fuel : Nat} {cs : List Value} {x : DataW H × List MemPlace} (ht : P.underlying t = some (.float k)) (h : DataW.trod enc P w base spare held fuel t cs = some x) : ∃ n, cs = [.float k n] ∧ x = (.lit (.float k n), []) := by
  cases fuel with
  | zero => simp [DataW.trod] at h
  | succ n =>
    unfold DataW.trod at h
    rw [ht] at h
    split at h <;> simp_all

theorem bulk_rangeG {α : Type} (wt : α → Nat) (D : Nat → DataW H) : ∀ (l : List α) (n : Nat), (∀ i o, l[i]? = some o → wt o ≤ Rows.uptoBulk (D (n + i))) → (l.map wt).sum ≤ Rows.uptoBulkAll ((List.range' n l.length).map D) := by
  intro l
  induction l with
  | nil => intro n _; simp
  | cons o l ih =>
    intro n h
    have h0 := h 0 o rfl
    have h1 := ih (n + 1) fun i o' hi => by
      have := h (i + 1) o' hi
      rwa [show n + (i + 1) = n + 1 + i from by omega] at this
    simp only [Nat.add_zero] at h0
    simp only [List.length_cons, List.range'_succ, List.map_cons, Rows.uptoBulkAll, List.sum_cons]
    omega

/-- a row of things, opened -/
theorem open_rowsG {α : Type} {T E : TypeId} {sz fuel : Nat} {cs : List Value} {x : DataW H × List MemPlace} (ht : Tryd.prog.underlying T = some (.slice E)) (hc : Tryd.prog.cellsOf E = sz) (hsz : 0 < sz) (encE : α → List Value) (hlen : ∀ o, (encE o).length = sz) (ok : α → Prop) (wt : α → Nat)
    (hopen : ∀ (fuel : Nat) (cs : List Value) (x : DataW H × List MemPlace), DataW.trod enc Tryd.prog w base spare held fuel E cs = some x → ∃ o, cs = encE o ∧ ok o ∧ wt o ≤ Rows.uptoBulk x.1)
    (h : DataW.trod enc Tryd.prog w base spare held fuel T cs = some x) :
    ∃ A c l, cs = [.slice A (List.length l) c] ∧ Row w w.heap.size A sz (l.map encE) ∧ (∀ o ∈ l, ok o) ∧ (l.map wt).sum + 1 ≤ Rows.uptoBulk x.1 ∧ List.length l ≤ c := by
  rcases open_slice ht h with ⟨hcs, rfl⟩ | ⟨a, len, cap, m, n, D, Pl, rfl, hb, hl, hm, hmm, rfl, hi⟩
  · exact ⟨none, 0, [], hcs, fun k r hr => by simp at hr, fun o ho => by simp at ho, by simp [Rows.uptoBulk], Nat.le_refl _⟩
  have hlm : len ≤ m := by rw [hmm]; split <;> omega
  obtain ⟨l, hll, hlo⟩ := exists_list (Q := fun i (o : α) => (∃ b off, some a = some (⟨b, off, none⟩ : Addr) ∧ b < w.heap.size ∧ ∀ j u, (encE o)[j]? = some u → w.cell? ⟨b, off + i * sz + j, none⟩ = some u) ∧ ok o ∧ wt o ≤ Rows.uptoBulk (D i)) len fun i hlt => by
    obtain ⟨cs', hcc, htt⟩ := hi i (by omega)
    obtain ⟨o, rfl, ho, hbk⟩ := hopen _ _ _ htt
    rw [hc] at hcc
    obtain ⟨_, hlc, hat⟩ := World.cells?_some hcc
    have h0 := hat 0 hsz
    rw [List.getElem?_eq_getElem (by omega)] at h0
    have hblk := World.block_lt_of_cell? _ _ h0
    rw [add_block, add_block] at hblk
    obtain ⟨cs0, hcc0, htt0⟩ := hi 0 (by omega)
    obtain ⟨o0, rfl, _, _⟩ := hopen _ _ _ htt0
    rw [hc] at hcc0
    obtain ⟨_, hlc0, hat0⟩ := World.cells?_some hcc0
    have h00 := hat0 0 hsz
    rw [List.getElem?_eq_getElem (by omega)] at h00
    have hspot := World.cell?_spot h00
    obtain ⟨b, off, sp⟩ := a
    obtain rfl : sp = none := by simpa [Addr.add] using hspot
    refine ⟨o, ⟨b, off, rfl, hblk, fun j u hu => ?_⟩, ho, hbk⟩
    have hj : j < sz := by have := (List.getElem?_eq_some_iff.1 hu).1; omega
    have hq := hat j hj
    simp only [Addr.add_lit] at hq
    exact hq.trans hu
  refine ⟨some a, cap, l, by rw [hll], fun k r hr => ?_, fun o ho => ?_, ?_, by omega⟩
  · rw [List.getElem?_map] at hr
    cases ho : l[k]? with
    | none => rw [ho] at hr; cases hr
    | some o =>
      rw [ho] at hr
      cases hr
      exact (hlo k o ho).1
  · obtain ⟨i, hi'⟩ := List.getElem?_of_mem ho
    exact (hlo i o hi').2.1
  · simp only [Rows.uptoBulk]
    have h1 := bulk_rangeG wt D l 0 fun i o ho => by
      rw [Nat.zero_add]
      exact (hlo i o ho).2.2
    rw [hll, ← List.range_eq_range'] at h1
    omega
theorem i64_bounds {n : Int} (h : (Lit.int .i64 n).wf = true) : -9223372036854775808 ≤ n ∧ n ≤ 9223372036854775807 := by
  unfold Lit.wf at h
  rw [Bool.and_eq_true, decide_eq_true_eq, decide_eq_true_eq] at h
  exact h

theorem cells_int : Tryd.prog.cellsOf 3 = 1 := by kernel_rfl
theorem cells_bool : Tryd.prog.cellsOf 4 = 1 := by kernel_rfl
theorem cells_str : Tryd.prog.cellsOf 32 = 1 := by kernel_rfl
theorem cells_float : Tryd.prog.cellsOf 73 = 1 := by kernel_rfl
theorem cells_cs : Tryd.prog.cellsOf 33 = 1 := by kernel_rfl
theorem cells_ks : Tryd.prog.cellsOf 34 = 1 := by kernel_rfl
theorem cells_ts : Tryd.prog.cellsOf 35 = 1 := by kernel_rfl
theorem cells_us : Tryd.prog.cellsOf 36 = 1 := by kernel_rfl
theorem cells_fs : Tryd.prog.cellsOf 22 = 1 := by kernel_rfl
theorem cells_mod : Tryd.prog.cellsOf 24 = 1 := by kernel_rfl
theorem cells_val : Tryd.prog.cellsOf 75 = 4 := by kernel_rfl
theorem open_val (fuel : Nat) (cs : List Value) (x : DataW H × List MemPlace) (h : DataW.trod enc Tryd.prog w base spare held fuel 75 cs = some x) : ∃ o : ValT, cs = valC o ∧ (True) ∧ 1 ≤ Rows.uptoBulk x.1 := by
  obtain ⟨xs, n, _, rfl, hl, hxl, hf⟩ := DataW.trod_struct Tryd.underlying75 h
  rw [cells_val] at hl
  match cs, hl, xs, hxl with
  | [c0, c1, c2, c3], _, [y0, y1, y2, y3], _ =>
    have h0 : DataW.trod enc Tryd.prog w base spare held n 3 (([c0, c1, c2, c3].drop 0).take (Tryd.prog.cellsOf 3)) = some y0 := hf 0 _ rfl
    rw [cells_int] at h0
    have h1 : DataW.trod enc Tryd.prog w base spare held n 73 (([c0, c1, c2, c3].drop 1).take (Tryd.prog.cellsOf 73)) = some y1 := hf 1 _ rfl
    rw [cells_float] at h1
    have h2 : DataW.trod enc Tryd.prog w base spare held n 32 (([c0, c1, c2, c3].drop 2).take (Tryd.prog.cellsOf 32)) = some y2 := hf 2 _ rfl
    rw [cells_str] at h2
    have h3 : DataW.trod enc Tryd.prog w base spare held n 3 (([c0, c1, c2, c3].drop 3).take (Tryd.prog.cellsOf 3)) = some y3 := hf 3 _ rfl
    rw [cells_int] at h3
    simp only [List.drop_zero, List.drop_succ_cons, List.take_succ_cons, List.take_zero] at h0 h1 h2 h3
    obtain ⟨v0, e0, rfl, w0⟩ := DataW.trod_int Tryd.underlying3 h0
    obtain rfl : c0 = .int .i64 v0 := by simpa using e0
    obtain ⟨v1, e1, rfl⟩ := trod_floatK Tryd.underlying73 h1
    obtain rfl : c1 = .float .f64 v1 := by simpa using e1
    obtain ⟨v2, e2, rfl, w2⟩ := DataW.trod_string Tryd.underlying32 h2
    obtain rfl : c2 = .string v2 := by simpa using e2
    obtain ⟨v3, e3, rfl, w3⟩ := DataW.trod_int Tryd.underlying3 h3
    obtain rfl : c3 = .int .i64 v3 := by simpa using e3
    refine ⟨(v0, v1, v2, v3), rfl, trivial, ?_⟩
    simp only [List.map_cons, List.map_nil, Rows.uptoBulk, Rows.uptoBulkAll]
    omega
theorem cells_ins : Tryd.prog.cellsOf 50 = 5 := by kernel_rfl
theorem open_ins (fuel : Nat) (cs : List Value) (x : DataW H × List MemPlace) (h : DataW.trod enc Tryd.prog w base spare held fuel 50 cs = some x) : ∃ o : InsT, cs = insC o ∧ (okIns o) ∧ 1 ≤ Rows.uptoBulk x.1 := by
  obtain ⟨xs, n, _, rfl, hl, hxl, hf⟩ := DataW.trod_struct Tryd.underlying50 h
  rw [cells_ins] at hl
  match cs, hl, xs, hxl with
  | [c0, c1, c2, c3, c4], _, [y0, y1, y2, y3, y4], _ =>
    have h0 : DataW.trod enc Tryd.prog w base spare held n 3 (([c0, c1, c2, c3, c4].drop 0).take (Tryd.prog.cellsOf 3)) = some y0 := hf 0 _ rfl
    rw [cells_int] at h0
    have h1 : DataW.trod enc Tryd.prog w base spare held n 3 (([c0, c1, c2, c3, c4].drop 1).take (Tryd.prog.cellsOf 3)) = some y1 := hf 1 _ rfl
    rw [cells_int] at h1
    have h2 : DataW.trod enc Tryd.prog w base spare held n 3 (([c0, c1, c2, c3, c4].drop 2).take (Tryd.prog.cellsOf 3)) = some y2 := hf 2 _ rfl
    rw [cells_int] at h2
    have h3 : DataW.trod enc Tryd.prog w base spare held n 3 (([c0, c1, c2, c3, c4].drop 3).take (Tryd.prog.cellsOf 3)) = some y3 := hf 3 _ rfl
    rw [cells_int] at h3
    have h4 : DataW.trod enc Tryd.prog w base spare held n 3 (([c0, c1, c2, c3, c4].drop 4).take (Tryd.prog.cellsOf 3)) = some y4 := hf 4 _ rfl
    rw [cells_int] at h4
    simp only [List.drop_zero, List.drop_succ_cons, List.take_succ_cons, List.take_zero] at h0 h1 h2 h3 h4
    obtain ⟨v0, e0, rfl, w0⟩ := DataW.trod_int Tryd.underlying3 h0
    obtain rfl : c0 = .int .i64 v0 := by simpa using e0
    obtain ⟨v1, e1, rfl, w1⟩ := DataW.trod_int Tryd.underlying3 h1
    obtain rfl : c1 = .int .i64 v1 := by simpa using e1
    obtain ⟨v2, e2, rfl, w2⟩ := DataW.trod_int Tryd.underlying3 h2
    obtain rfl : c2 = .int .i64 v2 := by simpa using e2
    obtain ⟨v3, e3, rfl, w3⟩ := DataW.trod_int Tryd.underlying3 h3
    obtain rfl : c3 = .int .i64 v3 := by simpa using e3
    obtain ⟨v4, e4, rfl, w4⟩ := DataW.trod_int Tryd.underlying3 h4
    obtain rfl : c4 = .int .i64 v4 := by simpa using e4
    refine ⟨(v0, v1, v2, v3, v4), rfl, (fun k => by unfold argAt; split <;> assumption), ?_⟩
    simp only [List.map_cons, List.map_nil, Rows.uptoBulk, Rows.uptoBulkAll]
    omega
theorem cells_try : Tryd.prog.cellsOf 65 = 4 := by kernel_rfl
theorem open_try (fuel : Nat) (cs : List Value) (x : DataW H × List MemPlace) (h : DataW.trod enc Tryd.prog w base spare held fuel 65 cs = some x) : ∃ o : TryT, cs = tryC o ∧ (True) ∧ 4 ≤ Rows.uptoBulk x.1 := by
  obtain ⟨xs, n, _, rfl, hl, hxl, hf⟩ := DataW.trod_struct Tryd.underlying65 h
  rw [cells_try] at hl
  match cs, hl, xs, hxl with
  | [c0, c1, c2, c3], _, [y0, y1, y2, y3], _ =>
    have h0 : DataW.trod enc Tryd.prog w base spare held n 3 (([c0, c1, c2, c3].drop 0).take (Tryd.prog.cellsOf 3)) = some y0 := hf 0 _ rfl
    rw [cells_int] at h0
    have h1 : DataW.trod enc Tryd.prog w base spare held n 3 (([c0, c1, c2, c3].drop 1).take (Tryd.prog.cellsOf 3)) = some y1 := hf 1 _ rfl
    rw [cells_int] at h1
    have h2 : DataW.trod enc Tryd.prog w base spare held n 3 (([c0, c1, c2, c3].drop 2).take (Tryd.prog.cellsOf 3)) = some y2 := hf 2 _ rfl
    rw [cells_int] at h2
    have h3 : DataW.trod enc Tryd.prog w base spare held n 3 (([c0, c1, c2, c3].drop 3).take (Tryd.prog.cellsOf 3)) = some y3 := hf 3 _ rfl
    rw [cells_int] at h3
    simp only [List.drop_zero, List.drop_succ_cons, List.take_succ_cons, List.take_zero] at h0 h1 h2 h3
    obtain ⟨v0, e0, rfl, w0⟩ := DataW.trod_int Tryd.underlying3 h0
    obtain rfl : c0 = .int .i64 v0 := by simpa using e0
    obtain ⟨v1, e1, rfl, w1⟩ := DataW.trod_int Tryd.underlying3 h1
    obtain rfl : c1 = .int .i64 v1 := by simpa using e1
    obtain ⟨v2, e2, rfl, w2⟩ := DataW.trod_int Tryd.underlying3 h2
    obtain rfl : c2 = .int .i64 v2 := by simpa using e2
    obtain ⟨v3, e3, rfl, w3⟩ := DataW.trod_int Tryd.underlying3 h3
    obtain rfl : c3 = .int .i64 v3 := by simpa using e3
    refine ⟨(v0, v1, v2, v3), rfl, trivial, ?_⟩
    simp only [List.map_cons, List.map_nil, Rows.uptoBulk, Rows.uptoBulkAll]
    omega
theorem cells_cap : Tryd.prog.cellsOf 79 = 2 := by kernel_rfl
theorem open_cap (fuel : Nat) (cs : List Value) (x : DataW H × List MemPlace) (h : DataW.trod enc Tryd.prog w base spare held fuel 79 cs = some x) : ∃ o : CapT, cs = capC o ∧ (True) ∧ 1 ≤ Rows.uptoBulk x.1 := by
  obtain ⟨xs, n, _, rfl, hl, hxl, hf⟩ := DataW.trod_struct Tryd.underlying79 h
  rw [cells_cap] at hl
  match cs, hl, xs, hxl with
  | [c0, c1], _, [y0, y1], _ =>
    have h0 : DataW.trod enc Tryd.prog w base spare held n 4 (([c0, c1].drop 0).take (Tryd.prog.cellsOf 4)) = some y0 := hf 0 _ rfl
    rw [cells_bool] at h0
    have h1 : DataW.trod enc Tryd.prog w base spare held n 3 (([c0, c1].drop 1).take (Tryd.prog.cellsOf 3)) = some y1 := hf 1 _ rfl
    rw [cells_int] at h1
    simp only [List.drop_zero, List.drop_succ_cons, List.take_succ_cons, List.take_zero] at h0 h1
    obtain ⟨v0, e0, rfl⟩ := DataW.trod_bool Tryd.underlying4 h0
    obtain rfl : c0 = .bool v0 := by simpa using e0
    obtain ⟨v1, e1, rfl, w1⟩ := DataW.trod_int Tryd.underlying3 h1
    obtain rfl : c1 = .int .i64 v1 := by simpa using e1
    refine ⟨(v0, v1), rfl, trivial, ?_⟩
    simp only [List.map_cons, List.map_nil, Rows.uptoBulk, Rows.uptoBulkAll]
    omega
theorem cells_fn : Tryd.prog.cellsOf 38 = 9 := by kernel_rfl
theorem open_fn (fuel : Nat) (cs : List Value) (x : DataW H × List MemPlace) (h : DataW.trod enc Tryd.prog w base spare held fuel 38 cs = some x) : ∃ o : FnT, cs = fnC o ∧ (FnIn w w.heap.size o ∧ ∀ i ∈ o.code, okIns i) ∧ fewF o + 1 ≤ Rows.uptoBulk x.1 := by
  obtain ⟨xs, n, _, rfl, hl, hxl, hf⟩ := DataW.trod_struct Tryd.underlying38 h
  rw [cells_fn] at hl
  match cs, hl, xs, hxl with
  | [c0, c1, c2, c3, c4, c5, c6, c7, c8], _, [y0, y1, y2, y3, y4, y5, y6, y7, y8], _ =>
    have h0 : DataW.trod enc Tryd.prog w base spare held n 32 (([c0, c1, c2, c3, c4, c5, c6, c7, c8].drop 0).take (Tryd.prog.cellsOf 32)) = some y0 := hf 0 _ rfl
    rw [cells_str] at h0
    have h1 : DataW.trod enc Tryd.prog w base spare held n 3 (([c0, c1, c2, c3, c4, c5, c6, c7, c8].drop 1).take (Tryd.prog.cellsOf 3)) = some y1 := hf 1 _ rfl
    rw [cells_int] at h1
    have h2 : DataW.trod enc Tryd.prog w base spare held n 4 (([c0, c1, c2, c3, c4, c5, c6, c7, c8].drop 2).take (Tryd.prog.cellsOf 4)) = some y2 := hf 2 _ rfl
    rw [cells_bool] at h2
    have h3 : DataW.trod enc Tryd.prog w base spare held n 4 (([c0, c1, c2, c3, c4, c5, c6, c7, c8].drop 3).take (Tryd.prog.cellsOf 4)) = some y3 := hf 3 _ rfl
    rw [cells_bool] at h3
    have h4 : DataW.trod enc Tryd.prog w base spare held n 3 (([c0, c1, c2, c3, c4, c5, c6, c7, c8].drop 4).take (Tryd.prog.cellsOf 3)) = some y4 := hf 4 _ rfl
    rw [cells_int] at h4
    have h5 : DataW.trod enc Tryd.prog w base spare held n 33 (([c0, c1, c2, c3, c4, c5, c6, c7, c8].drop 5).take (Tryd.prog.cellsOf 33)) = some y5 := hf 5 _ rfl
    rw [cells_cs] at h5
    have h6 : DataW.trod enc Tryd.prog w base spare held n 34 (([c0, c1, c2, c3, c4, c5, c6, c7, c8].drop 6).take (Tryd.prog.cellsOf 34)) = some y6 := hf 6 _ rfl
    rw [cells_ks] at h6
    have h7 : DataW.trod enc Tryd.prog w base spare held n 35 (([c0, c1, c2, c3, c4, c5, c6, c7, c8].drop 7).take (Tryd.prog.cellsOf 35)) = some y7 := hf 7 _ rfl
    rw [cells_ts] at h7
    have h8 : DataW.trod enc Tryd.prog w base spare held n 36 (([c0, c1, c2, c3, c4, c5, c6, c7, c8].drop 8).take (Tryd.prog.cellsOf 36)) = some y8 := hf 8 _ rfl
    rw [cells_us] at h8
    simp only [List.drop_zero, List.drop_succ_cons, List.take_succ_cons, List.take_zero] at h0 h1 h2 h3 h4 h5 h6 h7 h8
    obtain ⟨v0, e0, rfl, w0⟩ := DataW.trod_string Tryd.underlying32 h0
    obtain rfl : c0 = .string v0 := by simpa using e0
    obtain ⟨v1, e1, rfl, w1⟩ := DataW.trod_int Tryd.underlying3 h1
    obtain rfl : c1 = .int .i64 v1 := by simpa using e1
    obtain ⟨v2, e2, rfl⟩ := DataW.trod_bool Tryd.underlying4 h2
    obtain rfl : c2 = .bool v2 := by simpa using e2
    obtain ⟨v3, e3, rfl⟩ := DataW.trod_bool Tryd.underlying4 h3
    obtain rfl : c3 = .bool v3 := by simpa using e3
    obtain ⟨v4, e4, rfl, w4⟩ := DataW.trod_int Tryd.underlying3 h4
    obtain rfl : c4 = .int .i64 v4 := by simpa using e4
    obtain ⟨A5, k5, l5, e5, r5, o5, b5, s5⟩ := open_rowsG Tryd.underlying33 cells_val (by omega) valC (fun _ => rfl) (fun _ => True) (fun _ => 1) open_val h5
    obtain rfl : c5 = .slice A5 (List.length l5) k5 := by simpa using e5
    obtain ⟨A6, k6, l6, e6, r6, o6, b6, s6⟩ := open_rowsG Tryd.underlying34 cells_ins (by omega) insC (fun _ => rfl) (okIns) (fun _ => 1) open_ins h6
    obtain rfl : c6 = .slice A6 (List.length l6) k6 := by simpa using e6
    obtain ⟨A7, k7, l7, e7, r7, o7, b7, s7⟩ := open_rowsG Tryd.underlying35 cells_try (by omega) tryC (fun _ => rfl) (fun _ => True) (fun _ => 4) open_try h7
    obtain rfl : c7 = .slice A7 (List.length l7) k7 := by simpa using e7
    obtain ⟨A8, k8, l8, e8, r8, o8, b8, s8⟩ := open_rowsG Tryd.underlying36 cells_cap (by omega) capC (fun _ => rfl) (fun _ => True) (fun _ => 1) open_cap h8
    obtain rfl : c8 = .slice A8 (List.length l8) k8 := by simpa using e8
    refine ⟨{ name := v0, params := v1, rest := v2, arrow := v3, regs := v4, consts := l5, code := l6, tries := l7, caps := l8, cA := A5, cC := k5, kA := A6, kC := k6, tA := A7, tC := k7, uA := A8, uC := k8 }, rfl, ⟨⟨r5, r6, r7, r8, s7, (i64_bounds w4).2, i64_bounds w1⟩, o6⟩, ?_⟩
    simp only [List.map_const', List.sum_replicate_nat] at b5
    simp only [List.map_const', List.sum_replicate_nat] at b6
    simp only [List.map_const', List.sum_replicate_nat] at b7
    simp only [List.map_const', List.sum_replicate_nat] at b8
    simp only [List.map_cons, List.map_nil, Rows.uptoBulk, Rows.uptoBulkAll, fewF]
    omega

theorem sum_few : ∀ l : List FnT, (l.map fun f => fewF f + 1).sum = fewN l
  | [] => rfl
  | f :: r => by
    have := sum_few r
    unfold fewN at this ⊢
    simp only [List.map_cons, List.sum_cons, List.length_cons] at this ⊢
    omega
theorem open_mod {v : Value} {d : DataW H} {p : List MemPlace} {b0 : Nat} (h : DataW.Trod enc Tryd.prog w base spare held 24 v d p) (hv : Value.okWide Tryd.prog w .any b0 24 v) :
    ∃ A c fns, v = .agg #[.slice A (List.length fns) c] ∧ ModIn w w.heap.size A fns ∧ (∀ f ∈ fns, ∀ i ∈ f.code, okIns i) ∧ fewN fns ≤ Rows.uptoBulk d ∧ List.length fns ≤ c := by
  obtain ⟨fuel, hf⟩ := h
  obtain ⟨cs, rfl, hsz⟩ := okWide_struct Tryd.underlying24 hv
  obtain ⟨y0, n, rfl0, hl, h0⟩ := trod_struct1 Tryd.underlying24 hf
  simp only [Prod.mk.injEq] at rfl0
  obtain ⟨rfl, rfl⟩ := rfl0
  rw [cells_fs, show (Value.agg cs).cells = cs from rfl, cells_mod] at *
  simp only [List.drop_zero] at h0
  rw [List.take_of_length_le (by omega)] at h0
  obtain ⟨A, c, l, e, r, ok, b, s⟩ := open_rowsG Tryd.underlying22 cells_fn (by omega) fnC (fun _ => rfl) (fun f => FnIn w w.heap.size f ∧ ∀ i ∈ f.code, okIns i) (fun f => fewF f + 1) open_fn h0
  refine ⟨A, c, l, ?_, ⟨r, fun f hf => (ok f hf).1⟩, fun f hf => (ok f hf).2, ?_, s⟩
  · congr 1
    exact Array.toList_inj.1 e
  · rw [sum_few] at b
    simp only [Rows.uptoBulk, Rows.uptoBulkAll]
    omega
theorem open_fnA {v : Value} {d : DataW H} {p : List MemPlace} {b0 : Nat} (h : DataW.Trod enc Tryd.prog w base spare held 38 v d p) (hv : Value.okWide Tryd.prog w .any b0 38 v) :
    ∃ f : FnT, v = .agg (fnC f).toArray ∧ FnIn w w.heap.size f ∧ (∀ i ∈ f.code, okIns i) ∧ fewF f + 1 ≤ Rows.uptoBulk d := by
  obtain ⟨fuel, hf⟩ := h
  obtain ⟨cs, rfl, hsz⟩ := okWide_struct Tryd.underlying38 hv
  obtain ⟨f, e, ⟨h1, h2⟩, h3⟩ := open_fn _ _ _ hf
  exact ⟨f, by congr 1; exact Array.toList_inj.1 e, h1, h2, h3⟩
end
end Go.Proofs.YtoihoackmkapaaaDoor
