/-
  PROVED HERE: rules held against each other.
-/
import Derived.Test.YtocjjfjcepflnaaDoorOwn
import Derived.Laws.StructEq
set_option linter.unusedVariables false
namespace Go.Proofs.YtocjjfjcepflnaaDoor
open Go.RowKit
theorem held26 : Tryd.prog.stoodInHeld 26 = false := by kernel_rfl
theorem held29 : Tryd.prog.stoodInHeld 29 = false := by kernel_rfl
theorem guard26 : Tryd.prog.eqGuardType Tryd.prog.depth 26 = false := by kernel_rfl
theorem guard29 : Tryd.prog.eqGuardType Tryd.prog.depth 29 = false := by kernel_rfl
/-- Are two rules the same? -/
def ruE (x y : Ru) : Bool := x.dm == y.dm && (x.kd == y.kd && x.ho == y.ho)
theorem ruE_iff (x y : Ru) : ruE x y = true ↔ x = y := by
  cases x; cases y
  simp [ruE]
theorem eqr26 (x y : Ru) (w : World) (k : Nat) : (Op.equalIn (k + 2) 26 (.agg (ruA x)) (.agg (ruA y))).run Tryd.prog w = .ok (ruE x y) w := by
  rw [run_equalIn_struct w (k + 1) 26 _ _ (by simp [Program.fieldsOf, Tryd.underlying26]) held26]
  unfold ruE
  by_cases h1 : x.dm = y.dm <;> by_cases h2 : x.kd = y.kd <;> by_cases h3 : x.ho = y.ho <;> simp [Program.fieldsOf, Tryd.underlying26, Op.eqFields, go_sem, h1, h2, h3]
theorem eqr29 (x y : Ru) (w : World) (k : Nat) : (Op.equalIn (k + 2) 29 (.agg (ruA x)) (.agg (ruA y))).run Tryd.prog w = .ok (ruE x y) w := by
  rw [run_equalIn_struct w (k + 1) 29 _ _ (by simp [Program.fieldsOf, Tryd.underlying29]) held29]
  unfold ruE
  by_cases h1 : x.dm = y.dm <;> by_cases h2 : x.kd = y.kd <;> by_cases h3 : x.ho = y.ho <;> simp [Program.fieldsOf, Tryd.underlying29, Op.eqFields, go_sem, h1, h2, h3]
theorem eql26 (x y : Ru) (w : World) : (binOp .eql 26 (.agg (ruA x)) (.agg (ruA y))).run Tryd.prog w = .ok (.bool (ruE x y)) w := by
  rw [run_eql_struct, eqr26 x y w 9998]; rfl
theorem eql29 (x y : Ru) (w : World) : (binOp .eql 29 (.agg (ruA x)) (.agg (ruA y))).run Tryd.prog w = .ok (.bool (ruE x y)) w := by
  rw [run_eql_struct, eqr29 x y w 9998]; rfl
theorem neq26 (x y : Ru) (w : World) : (binOp .neq 26 (.agg (ruA x)) (.agg (ruA y))).run Tryd.prog w = .ok (.bool (!ruE x y)) w := by
  rw [run_neq_struct, eqr26 x y w 9998]; rfl
theorem gua26 (op : BinOp) (x y : Operand) (xs ys : Array Value) (w : World) : (eqGuard op 26 x y (.agg xs) (.agg ys)).run Tryd.prog w = .ok () w := run_eqGuard_agg w op 26 x y xs ys guard26
theorem gua29 (op : BinOp) (x y : Operand) (xs ys : Array Value) (w : World) : (eqGuard op 29 x y (.agg xs) (.agg ys)).run Tryd.prog w = .ok () w := run_eqGuard_agg w op 29 x y xs ys guard29
end Go.Proofs.YtocjjfjcepflnaaDoor
