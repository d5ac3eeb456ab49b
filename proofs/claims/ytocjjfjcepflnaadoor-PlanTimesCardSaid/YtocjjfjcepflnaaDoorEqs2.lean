/-
  PROVED HERE: a recipient held against itself.
-/
import Derived.Test.YtocjjfjcepflnaaDoorEqs
set_option linter.unusedVariables false
namespace Go.Proofs.YtocjjfjcepflnaaDoor
open Go.RowKit
theorem eq59 (a b : ByteArray) (c : Int) (w : World) (k : Nat) : (Op.equalIn (k + 3) 59 (.agg #[.string a, .string b, .int .i64 c]) (.agg #[.string a, .string b, .int .i64 c])).run Tryd.prog w = .ok true w := by
  rw [run_equalIn_struct w (k + 2) 59 _ _ (by simp [Program.fieldsOf, Tryd.underlying59]) held59]
  have h := eq38 a b w k
  have c38 : Tryd.prog.cellsOf 38 = 2 := by kernel_rfl
  have c3 : Tryd.prog.cellsOf 3 = 1 := by kernel_rfl
  simp [Program.fieldsOf, Tryd.underlying59, Op.eqFields, go_sem, c38, c3]
theorem neq59 (a b : ByteArray) (c : Int) (w : World) : (binOp .neq 59 (.agg #[.string a, .string b, .int .i64 c]) (.agg #[.string a, .string b, .int .i64 c])).run Tryd.prog w = .ok (.bool false) w := by
  rw [run_neq_struct, eq59 a b c w 9997]; rfl
theorem eql59 (a b : ByteArray) (c : Int) (w : World) : (binOp .eql 59 (.agg #[.string a, .string b, .int .i64 c]) (.agg #[.string a, .string b, .int .i64 c])).run Tryd.prog w = .ok (.bool true) w := by
  rw [run_eql_struct, eq59 a b c w 9997]; rfl
end Go.Proofs.YtocjjfjcepflnaaDoor
