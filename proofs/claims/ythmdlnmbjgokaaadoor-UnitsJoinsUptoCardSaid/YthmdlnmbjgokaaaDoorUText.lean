/- units.Text. -/
import Derived.Test.YthmdlnmbjgokaaaDoorUPoints
import Derived.Shelf.Abstract
namespace Go.Proofs.YthmdlnmbjgokaaaDoor
open Go.RowKit Go.Shelf
set_option maxHeartbeats 4000000
set_option maxRecDepth 100000
attribute [local go_sem] Oper.semAt_some

theorem string_keep (B b : Nat) (ns : List Int) (hn : okB ns) (w : World) (h : Lib.IsBuilderF 65 5 B b (cellsN ns) w) (hBw : B ≤ w.heap.size) :
    Calls Tryd.prog 38 #[.pointer (some ⟨b, 0, none⟩)] w fun e w' => e = .returned (.string (strOfNums ns)) ∧ Below B w w' ∧ Lib.OthersKept 5 (some b) w w' := by
  rw [← cells_str hn] at h
  refine (Tryd.Builder_String_any_k B b _ w h hBw).mono ?_
  rintro e w' ⟨rfl, _, hb, hk⟩
  exact ⟨by rw [Lib.ofBytes], hb, hk⟩

theorem builder_own {β : Type} (T e : TypeId) (B b : Nat) (f : β → List Value) : Own (fun s W => Lib.IsBuilderF T e B b (f s) W) := by
  intro s W W' row h hg hr
  have key : ∀ (k : Nat) (cs : Array Value) (t : TypeId) (fz : Nat × Nat), W.heap[k]? = some (.cells cs t fz) → W'.heap[k]? = some (.cells cs t fz) := by
    intro k cs t fz hk
    rw [hg.block k (Array.getElem?_eq_some_iff.1 hk).1 (fun e => ?_)]
    · exact hk
    · obtain ⟨o, ho, hc⟩ := hr k e.symm
      rw [hk] at ho
      cases ho
      cases hc
  have hrow : ∀ (v : Value) (n : Nat) (xs : List Value), W.ownsRowF B e 1 v n xs → W'.ownsRowF B e 1 v n xs := by
    rintro v n xs ⟨h1, h2⟩
    refine ⟨h1, ?_⟩
    rcases h2 with h2 | ⟨g, cap, cur, fz, x1, x2, x3, x4⟩
    · exact .inl h2
    · exact .inr ⟨g, cap, cur, fz, x1, x2, key _ _ _ _ x3, x4⟩
  rcases h with ⟨hB, v, h1, h2, h3⟩ | ⟨hB, v, h1, h2, h3⟩
  · exact .inl ⟨hB, v, key _ _ _ _ h1, hrow _ _ _ h2, h3⟩
  · exact .inr ⟨hB, v, key _ _ _ _ h1, hrow _ _ _ h2, h3⟩

/-- a rune that is told -/
def okPt (x : Nat × Int) : Prop := 0 ≤ x.2 ∧ x.2 ≤ 1114111
abbrev PtO := PtP okPt
def textL (l : List PtO) : List Int := l.flatMap fun x => Lib.encodeRuneZ x.1.2
theorem textL_snoc (l : List PtO) (x : PtO) : textL (l ++ [x]) = textL l ++ Lib.encodeRuneZ x.1.2 := by simp [textL]
theorem textL_ok (l : List PtO) : okB (textL l) := by
  intro n hn
  simp only [textL, List.mem_flatMap] at hn
  obtain ⟨x, _, h⟩ := hn
  exact Lib.encodeRuneZ_byte _ _ h
theorem textL_length (l : List PtO) : (textL l).length ≤ 4 * l.length := by
  induction l with
  | nil => simp [textL]
  | cons x r ih =>
    have := (Lib.encodeRuneZ_length x.1.2).2
    simp only [textL, List.flatMap_cons, List.length_append, List.length_cons] at *
    omega
/-- the points of a text, as a list of told runes -/
theorem pts_ok (s : ByteArray) : ∃ xs : List PtO, xs.map (·.1) = PF s 0 ∧ xs.length ≤ s.size / 2 := by
  have hok : ∀ x ∈ PF s 0, okPt x := fun x hx => ⟨(PF_ok s 0 x hx).2.2.1, (PF_ok s 0 x hx).2.2.2⟩
  have ex : (List.pmap Subtype.mk (PF s 0) hok).map (·.1) = PF s 0 := by rw [List.map_pmap]; simp
  exact ⟨_, ex, by have := PF_length s 0; simpa using this⟩
/-- the text of a text's units: UTF-8 -/
def textB (s : ByteArray) : ByteArray := strOfNums ((PF s 0).flatMap fun x => Lib.encodeRuneZ x.2)
theorem textB_of {s : ByteArray} {xs : List PtO} (h : xs.map (·.1) = PF s 0) : strOfNums (textL xs) = textB s := by
  unfold textB textL
  rw [← h, List.flatMap_map]

theorem text_in (s : ByteArray) (w : World) (hs : s.size ≤ 1048576) :
    CallsIn Fence.wide 3 Tryd.prog 13 #[.string s] w fun e w' => e = .returned (.string (textB s)) ∧ Below w.heap.size w w' := by
  obtain ⟨xs, hxs, hxl⟩ := pts_ok s
  refine callsIn_of_wp_marks Tryd.func13 rfl trivial ?_ rfl
  simp only [Tryd.ntmps13, List.size_toArray, List.length_cons, List.length_nil, Nat.reduceAdd, Nat.reduceSub, Array.replicate_succ, Array.replicate_zero, List.push_toArray, List.append_toArray, List.nil_append, List.cons_append]
  gi_wp2
  refine ⟨trivial, ?_⟩
  refine (callsIn_wide.2 (points_any s _)).mono ?_
  rintro e w' ⟨rfl, rfl⟩
  simp only
  gi_wp2
  have hI0 := (Lib.IsBuilderF.of (Lib.fresh_isBuilder 65 5 w)).alloc (.cells #[.string s] 22)
  have e1 : (w.alloc (.cells #[.pointer none, .slice none 0 0] 65)).heap.size = w.heap.size + 1 := by simp
  have hc : ((w.alloc (.cells #[.pointer none, .slice none 0 0] 65)).alloc (.cells #[.string s] 22)).cell? ⟨w.heap.size + 1, 0, none⟩ = some (.string s) := by
    have := World.alloc_heap_new (w.alloc (.cells #[.pointer none, .slice none 0 0] 65)) (.cells #[.string s] 22)
    rw [e1] at this
    rw [Lib.cell_of_heap this]
    rfl
  have hB0 : Below w.heap.size w ((w.alloc (.cells #[.pointer none, .slice none 0 0] 65)).alloc (.cells #[.string s] 22)) := ((Below.refl _ w).alloc (Nat.le_refl _) _).alloc (by simp) _
  have hsz : ((w.alloc (.cells #[.pointer none, .slice none 0 0] 65)).alloc (.cells #[.string s] 22)).heap.size = w.heap.size + 2 := by simp
  rw [e1]
  obtain ⟨W0, hW0⟩ : ∃ W0, (w.alloc (.cells #[.pointer none, .slice none 0 0] 65)).alloc (.cells #[.string s] 22) = W0 := ⟨_, rfl⟩
  rw [hW0] at hI0 hc hB0 hsz ⊢
  clear hW0 e1
  refine wpIn_rangeFunc_ownH rfl (by omega) (gf := 43) (lb := #[.pointer (some ⟨w.heap.size + 1, 0, none⟩)]) rfl trivial (enters_of Tryd.func43 (by kernel_rfl) rfl)
    (points_stops 2 s hs xs hxs hc) (fun _ _ => trivial) (fun _ _ _ _ _ _ _ _ => trivial) (Below.refl _ _) (fun _ => rfl)
    (fun (pre : List PtO) W => Lib.IsBuilderF 65 5 w.heap.size w.heap.size (cellsN (textL pre)) W ∧ Below w.heap.size w W)
    (fun _ _ _ => False)
    (OwnFrom.and (Own.from (builder_own _ _ _ _ _) _) (ownFrom_below (Nat.le_refl _) (by omega)))
    (fun _ _ _ _ _ hs _ _ => hs)
    ⟨hI0, hB0⟩
    (fun x a' W => a' = { tmps := #[.string s, undef, .string ⟨#[]⟩, .pointer (some ⟨w.heap.size, 0, none⟩), undef, .int .i32 x.1.2, .string s, .func (.func 43) #[] #[.pointer (some ⟨w.heap.size + 1, 0, none⟩)], .int .i64 (x.1.1 : Nat), .int .i32 x.1.2, undef, undef, undef], defers := [] })
    (fun x a' _ X Y row hs hg hr => hs)
    ?assign ?body ?done ?stop
  case assign =>
    rintro l pre ⟨⟨x1, x2⟩, hx⟩ W K ⟨hI, hB⟩ hK
    simp only [encPt]
    gi_wp2
    exact hK _ _ (KeepsFrom.refl _ _) trivial ⟨hI, hB⟩ rfl
  case body =>
    rintro l pre ⟨⟨x1, x2⟩, hx⟩ a' W hl ⟨r, hr⟩ ⟨hI, hB⟩ rfl hlt
    have hx' : 0 ≤ x2 ∧ x2 ≤ 1114111 := hx
    gi_wp2
    refine ⟨trivial, ?_⟩
    refine (CallsIn.inRound l (callsIn_wide.2 (writeRune_any w.heap.size w.heap.size _ x2 (by omega) (by omega) W hI (by have := textL_length pre; rw [cellsN_length]; omega) hB.size))).mono ?_
    rintro e w1 ⟨rfl, h1, b1, k1⟩
    simp only
    gi_wp2
    refine ⟨⟨b1.size, fun k o hk hko ho => k1 k o hko (by intro he; injection he with he; omega) (by intro c fz he; rw [he] at ho; cases ho)⟩, trivial, ?_, hB.trans b1⟩
    rw [textL_snoc, cellsN_append]
    exact .inr h1
  case done =>
    rintro D ys W hD rfl ⟨hI, hB⟩ hK
    gi_wp2
    refine ⟨trivial, ?_⟩
    refine (callsIn_wide.2 (string_keep w.heap.size w.heap.size _ (textL_ok ys) W hI hB.size)).mono ?_
    rintro e w1 ⟨rfl, b1, k1⟩
    have hK1 : w1.heap[D]? = some (.deferred (some [])) := k1 D _ hK (by intro he; injection he with he; omega) (by intro c fz he; cases he)
    simp only
    gi_wp2
    refine ⟨by simp, .inl ⟨_, _, rfl, run_takeDeferred hK1, ?_⟩⟩
    refine ⟨_, results_tmp rfl _ _ _, by rw [← textB_of hxs]; rfl, (hB.trans b1).trans (belowK_b (w := w) (Nat.le_refl _) w1 D _ _ (by omega) hK1 rfl rfl)⟩
  case stop =>
    rintro D c pre W _ _ h _
    exact h.elim

theorem text_any (s : ByteArray) (w : World) (hs : s.size ≤ 1048576) :
    Calls Tryd.prog 13 #[.string s] w fun e w' => e = .returned (.string (textB s)) ∧ Below w.heap.size w w' := callsIn_wide.1 (text_in s w hs)
end Go.Proofs.YthmdlnmbjgokaaaDoor
