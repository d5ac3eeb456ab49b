/-
  PROVED HERE: mailboxes and recipients held against themselves.
-/
import Derived.Test.YtocjjfjcepflnaaDoorWt
import Derived.Laws.StructEq
set_option linter.unusedVariables false
namespace Go.Proofs.YtocjjfjcepflnaaDoor
open Go.RowKit
theorem held38 : Tryd.prog.stoodInHeld 38 = false := by kernel_rfl
theorem held59 : Tryd.prog.stoodInHeld 59 = false := by kernel_rfl
theorem guard38 : Tryd.prog.eqGuardType Tryd.prog.depth 38 = false := by kernel_rfl
theorem guard59 : Tryd.prog.eqGuardType Tryd.prog.depth 59 = false := by kernel_rfl
theorem eq38 (a b : ByteArray) (w : World) (k : Nat) : (Op.equalIn (k + 2) 38 (.agg #[.string a, .string b]) (.agg #[.string a, .string b])).run Tryd.prog w = .ok true w := by
  rw [run_equalIn_struct w (k + 1) 38 _ _ (by simp [Program.fieldsOf, Tryd.underlying38]) held38]
  simp [Program.fieldsOf, Tryd.underlying38, Op.eqFields, go_sem]
theorem eql38 (a b : ByteArray) (w : World) : (binOp .eql 38 (.agg #[.string a, .string b]) (.agg #[.string a, .string b])).run Tryd.prog w = .ok (.bool true) w := by
  rw [run_eql_struct, eq38 a b w 9998]; rfl
theorem gua38 (op : BinOp) (x y : Operand) (xs ys : Array Value) (w : World) : (eqGuard op 38 x y (.agg xs) (.agg ys)).run Tryd.prog w = .ok () w := run_eqGuard_agg w op 38 x y xs ys guard38
theorem gua59 (op : BinOp) (x y : Operand) (xs ys : Array Value) (w : World) : (eqGuard op 59 x y (.agg xs) (.agg ys)).run Tryd.prog w = .ok () w := run_eqGuard_agg w op 59 x y xs ys guard59
end Go.Proofs.YtocjjfjcepflnaaDoor
