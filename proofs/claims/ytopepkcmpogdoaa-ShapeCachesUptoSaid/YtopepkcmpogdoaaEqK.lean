/- '==' of keys and of pointers to trees. -/
import Derived.Test.YtopepkcmpogdoaaTreeFind
import Derived.LaidEqlPtr
import Derived.Laws.StructEq
namespace Go.Proofs.Ytopepkcmpogdoaa
open Go.RowKit
set_option maxHeartbeats 400000
set_option maxRecDepth 100000

theorem eql_tree_nil (w : World) (a : Addr) : (binOp .eql 25 (.pointer none) (.pointer (some a))).run Try.prog w = .ok (.bool false) w := by
  have h : ∀ d : Nat, (Op.equalIn (d + 1) 25 (.pointer none) (.pointer (some a))).run Try.prog w = .ok false w := fun d => by
    simp [Op.equalIn, run_underlying Try.underlying25]
  simp only [binOp]
  simp [Op.equal, Op.maxDepth, h 9999]

theorem eql_key (w : World) (a c : ByteArray) (b d : Int) : (binOp .eql 30 (.agg #[.string a, .int .i64 b]) (.agg #[.string c, .int .i64 d])).run Try.prog w = .ok (.bool (decide (a = c ∧ b = d))) w := by
  rw [run_eql_struct, show (10000 : Nat) = 9999 + 1 from rfl, run_equalIn_struct w 9999 30 _ _ (by simp [Program.fieldsOf, Try.underlying30]) (by kernel_rfl)]
  simp [Program.fieldsOf, Try.underlying30, Op.eqFields, part, go_sem]
  have e : (a.toList = c.toList) ↔ a = c := by
    refine ⟨fun h => ?_, fun h => by rw [h]⟩
    rw [ByteArray.toList_eq, ByteArray.toList_eq] at h
    obtain ⟨⟨x⟩⟩ := a
    obtain ⟨⟨y⟩⟩ := c
    have h' : x = y := by simpa using h
    rw [h']
  by_cases h1 : a = c
  · by_cases h2 : b = d
    · rw [if_pos (e.2 h1), if_pos h2]; simp [h1, h2]
    · rw [if_pos (e.2 h1), if_neg h2]; simp [h1, h2]
  · rw [if_neg (fun h => h1 (e.1 h))]; simp [h1]
end Go.Proofs.Ytopepkcmpogdoaa
