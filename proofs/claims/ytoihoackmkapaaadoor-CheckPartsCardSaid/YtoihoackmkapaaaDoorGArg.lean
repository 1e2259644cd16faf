/- A module among the arguments, opened: what lengths a reading may have. -/
import Derived.Test.YtoihoackmkapaaaDoorKArg
import Derived.Test.YtoihoackmkapaaaDoorGChkD
namespace Go.Proofs.YtoihoackmkapaaaDoor.G
open Go.ChangeShapes Go.WideShapes Go.ChangeAt Go.RowKit Go.Deep
set_option maxRecDepth 100000

section
variable {H : Type} {enc : TypeId × Value → H} {w : World} {base : Nat} {spare : Nat → Bool} {held : Bool}
theorem slice_len {T E : TypeId} {fuel : Nat} {cs : List Value} {x : DataW H × List MemPlace} (ht : Tryd.prog.underlying T = some (.slice E))
    (h : DataW.trod enc Tryd.prog w base spare held fuel T cs = some x) {A : Option Addr} {n c : Nat} (hcs : cs = [.slice A n c]) : n ≤ 9223372036854775807 := by
  rcases open_slice ht h with ⟨hcs', _⟩ | ⟨a, len, cap, m, k, D, Pl, hcs', hb, hl, hm, _⟩
  · rw [hcs'] at hcs
    simp at hcs
    omega
  · rw [hcs'] at hcs
    simp at hcs
    have : maxLen = 9223372036854775807 := rfl
    omega
theorem open_fn (fuel : Nat) (cs : List Value) (x : DataW H × List MemPlace) (h : DataW.trod enc Tryd.prog w base spare held fuel 38 cs = some x) : ∃ o : FnT, cs = fnC o ∧ ((FnIn w w.heap.size o ∧ ∀ i ∈ o.code, okIns i) ∧ Small o) ∧ fewF o + 1 ≤ Rows.uptoBulk x.1 := by
  obtain ⟨xs, n, _, rfl, hl, hxl, hf⟩ := DataW.trod_struct Tryd.underlying38 h
  rw [cells_fn] at hl
  match cs, hl, xs, hxl with
  | [c0, c1, c2, c3, c4, c5, c6, c7, c8], _, [y0, y1, y2, y3, y4, y5, y6, y7, y8], _ =>
    have h0 : DataW.trod enc Tryd.prog w base spare held n 32 (([c0, c1, c2, c3, c4, c5, c6, c7, c8].drop 0).take (Tryd.prog.cellsOf 32)) = some y0 := hf 0 _ rfl
    rw [cells_str] at h0
    have h1 : DataW.trod enc Tryd.prog w base spare held n 3 (([c0, c1, c2, c3, c4, c5, c6, c7, c8].drop 1).take (Tryd.prog.cellsOf 3)) = some y1 := hf 1 _ rfl
    rw [cells_int] at h1
    have h2 : DataW.trod enc Tryd.prog w base spare held n 4 (([c0, c1, c2, c3, c4, c5, c6, c7, c8].drop 2).take (Tryd.prog.cellsOf 4)) = some y2 := hf 2 _ rfl
    rw [cells_bool] at h2
    have h3 : DataW.trod enc Tryd.prog w base spare held n 4 (([c0, c1, c2, c3, c4, c5, c6, c7, c8].drop 3).take (Tryd.prog.cellsOf 4)) = some y3 := hf 3 _ rfl
    rw [cells_bool] at h3
    have h4 : DataW.trod enc Tryd.prog w base spare held n 3 (([c0, c1, c2, c3, c4, c5, c6, c7, c8].drop 4).take (Tryd.prog.cellsOf 3)) = some y4 := hf 4 _ rfl
    rw [cells_int] at h4
    have h5 : DataW.trod enc Tryd.prog w base spare held n 33 (([c0, c1, c2, c3, c4, c5, c6, c7, c8].drop 5).take (Tryd.prog.cellsOf 33)) = some y5 := hf 5 _ rfl
    rw [cells_cs] at h5
    have h6 : DataW.trod enc Tryd.prog w base spare held n 34 (([c0, c1, c2, c3, c4, c5, c6, c7, c8].drop 6).take (Tryd.prog.cellsOf 34)) = some y6 := hf 6 _ rfl
    rw [cells_ks] at h6
    have h7 : DataW.trod enc Tryd.prog w base spare held n 35 (([c0, c1, c2, c3, c4, c5, c6, c7, c8].drop 7).take (Tryd.prog.cellsOf 35)) = some y7 := hf 7 _ rfl
    rw [cells_ts] at h7
    have h8 : DataW.trod enc Tryd.prog w base spare held n 36 (([c0, c1, c2, c3, c4, c5, c6, c7, c8].drop 8).take (Tryd.prog.cellsOf 36)) = some y8 := hf 8 _ rfl
    rw [cells_us] at h8
    simp only [List.drop_zero, List.drop_succ_cons, List.take_succ_cons, List.take_zero] at h0 h1 h2 h3 h4 h5 h6 h7 h8
    obtain ⟨v0, e0, rfl, w0⟩ := DataW.trod_string Tryd.underlying32 h0
    obtain rfl : c0 = .string v0 := by simpa using e0
    obtain ⟨v1, e1, rfl, w1⟩ := DataW.trod_int Tryd.underlying3 h1
    obtain rfl : c1 = .int .i64 v1 := by simpa using e1
    obtain ⟨v2, e2, rfl⟩ := DataW.trod_bool Tryd.underlying4 h2
    obtain rfl : c2 = .bool v2 := by simpa using e2
    obtain ⟨v3, e3, rfl⟩ := DataW.trod_bool Tryd.underlying4 h3
    obtain rfl : c3 = .bool v3 := by simpa using e3
    obtain ⟨v4, e4, rfl, w4⟩ := DataW.trod_int Tryd.underlying3 h4
    obtain rfl : c4 = .int .i64 v4 := by simpa using e4
    obtain ⟨A5, k5, l5, e5, r5, o5, b5, s5⟩ := open_rowsG Tryd.underlying33 cells_val (by omega) valC (fun _ => rfl) (fun _ => True) (fun _ => 1) open_val h5
    have z5 := slice_len Tryd.underlying33 h5 e5
    obtain rfl : c5 = .slice A5 (List.length l5) k5 := by simpa using e5
    obtain ⟨A6, k6, l6, e6, r6, o6, b6, s6⟩ := open_rowsG Tryd.underlying34 cells_ins (by omega) insC (fun _ => rfl) (okIns) (fun _ => 1) open_ins h6
    have z6 := slice_len Tryd.underlying34 h6 e6
    obtain rfl : c6 = .slice A6 (List.length l6) k6 := by simpa using e6
    obtain ⟨A7, k7, l7, e7, r7, o7, b7, s7⟩ := open_rowsG Tryd.underlying35 cells_try (by omega) tryC (fun _ => rfl) (fun _ => True) (fun _ => 4) open_try h7
    have z7 := slice_len Tryd.underlying35 h7 e7
    obtain rfl : c7 = .slice A7 (List.length l7) k7 := by simpa using e7
    obtain ⟨A8, k8, l8, e8, r8, o8, b8, s8⟩ := open_rowsG Tryd.underlying36 cells_cap (by omega) capC (fun _ => rfl) (fun _ => True) (fun _ => 1) open_cap h8
    have z8 := slice_len Tryd.underlying36 h8 e8
    obtain rfl : c8 = .slice A8 (List.length l8) k8 := by simpa using e8
    refine ⟨{ name := v0, params := v1, rest := v2, arrow := v3, regs := v4, consts := l5, code := l6, tries := l7, caps := l8, cA := A5, cC := k5, kA := A6, kC := k6, tA := A7, tC := k7, uA := A8, uC := k8 }, rfl, ⟨⟨⟨r5, r6, r7, r8, s7, (i64_bounds w4).2, i64_bounds w1⟩, o6⟩, ⟨z5, z6, z7, z8⟩⟩, ?_⟩
    simp only [List.map_const', List.sum_replicate_nat] at b5
    simp only [List.map_const', List.sum_replicate_nat] at b6
    simp only [List.map_const', List.sum_replicate_nat] at b7
    simp only [List.map_const', List.sum_replicate_nat] at b8
    simp only [List.map_cons, List.map_nil, Rows.uptoBulk, Rows.uptoBulkAll, fewF]
    omega

theorem open_mod {v : Value} {d : DataW H} {p : List MemPlace} {b0 : Nat} (h : DataW.Trod enc Tryd.prog w base spare held 24 v d p) (hv : Value.okWide Tryd.prog w .any b0 24 v) :
    ∃ A c fns, v = .agg #[.slice A (List.length fns) c] ∧ ModIn w w.heap.size A fns ∧ (∀ f ∈ fns, ∀ i ∈ f.code, okIns i) ∧ (List.length fns ≤ 9223372036854775807 ∧ ∀ f ∈ fns, Small f) ∧ List.length fns ≤ c := by
  obtain ⟨fuel, hf⟩ := h
  obtain ⟨cs, rfl, hsz⟩ := okWide_struct Tryd.underlying24 hv
  obtain ⟨y0, n, rfl0, hl, h0⟩ := trod_struct1 Tryd.underlying24 hf
  simp only [Prod.mk.injEq] at rfl0
  obtain ⟨rfl, rfl⟩ := rfl0
  rw [cells_fs, show (Value.agg cs).cells = cs from rfl, cells_mod] at *
  simp only [List.drop_zero] at h0
  rw [List.take_of_length_le (by omega)] at h0
  obtain ⟨A, c, l, e, r, ok, b, s⟩ := open_rowsG Tryd.underlying22 cells_fn (by omega) fnC (fun _ => rfl) (fun f => (FnIn w w.heap.size f ∧ ∀ i ∈ f.code, okIns i) ∧ Small f) (fun f => fewF f + 1) open_fn h0
  refine ⟨A, c, l, ?_, ⟨r, fun f hf => (ok f hf).1.1⟩, fun f hf => (ok f hf).1.2, ⟨slice_len Tryd.underlying22 h0 e, fun f hf => (ok f hf).2⟩, s⟩
  congr 1
  exact Array.toList_inj.1 e
end
end Go.Proofs.YtoihoackmkapaaaDoor.G
