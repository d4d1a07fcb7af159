/-
  '==' of two Named, as one Bool.
-/
import Derived.Test.YtkhlicmlnjccdaaDoorProg
import Derived.Test.YtkhlicmlnjccdaaDoorMem
import Derived.Laws.StructEq
import Derived.WalkKit
namespace Go.Proofs.YtkhlicmlnjccdaaDoor
open Go.RowKit Mem
theorem named_guard : Tryd.prog.eqGuardType Tryd.prog.depth 23 = false := by kernel_rfl
theorem named_stood : Tryd.prog.stoodInHeld 23 = false := by kernel_rfl
theorem named_under : Tryd.prog.underlying 23 = some (.struct (Tryd.prog.fieldsOf 23)) := by kernel_rfl
theorem named_neq (a b : Int) (s t : Str) (w : World) : (binOp .neq 23 (.agg #[.int .i64 a, .string s]) (.agg #[.int .i64 b, .string t])).run Tryd.prog w = .ok (.bool (!((a == b) && (s.toList == t.toList)))) w := by
  rw [run_neq_struct, run_equalIn_agg _ _ _ _ _ named_under named_stood]
  simp only [Program.fieldsOf, Tryd.underlying23]
  simp [Op.eqFields, part, go_sem, Tryd.underlying3, Tryd.underlying9]
  by_cases h1 : a = b <;> by_cases h2 : s.toList = t.toList <;> simp [h1, h2]
theorem named_eql (a b : Int) (s t : Str) (w : World) : (binOp .eql 23 (.agg #[.int .i64 a, .string s]) (.agg #[.int .i64 b, .string t])).run Tryd.prog w = .ok (.bool ((a == b) && (s.toList == t.toList))) w := by
  rw [run_eql_struct, run_equalIn_agg _ _ _ _ _ named_under named_stood]
  simp only [Program.fieldsOf, Tryd.underlying23]
  simp [Op.eqFields, part, go_sem, Tryd.underlying3, Tryd.underlying9]
  by_cases h1 : a = b <;> by_cases h2 : s.toList = t.toList <;> simp [h1, h2]
theorem named_neq_same (a : Int) (s : Str) (w : World) : (binOp .neq 23 (.agg #[.int .i64 a, .string s]) (.agg #[.int .i64 a, .string s])).run Tryd.prog w = .ok (.bool false) w := by
  rw [named_neq]; simp
theorem named_eql_same (a : Int) (s : Str) (w : World) : (binOp .eql 23 (.agg #[.int .i64 a, .string s]) (.agg #[.int .i64 a, .string s])).run Tryd.prog w = .ok (.bool true) w := by
  rw [named_eql]; simp
theorem named_field0 (a : Int) (s : Str) (w : World) : (Instr.field 23 (.agg #[.int .i64 a, .string s]) 0).run Tryd.prog w = .ok (.int .i64 a) w := by kernel_rfl
theorem named_field1 (a : Int) (s : Str) (w : World) : (Instr.field 23 (.agg #[.int .i64 a, .string s]) 1).run Tryd.prog w = .ok (.string s) w := by kernel_rfl
end Go.Proofs.YtkhlicmlnjccdaaDoor
