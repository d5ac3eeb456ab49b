/-
  PROVED HERE: two mailboxes held against one another; what the law's guard calls ask.
-/
import Derived.Test.YtkchebbolldmbaaGreatDoorParse
import Derived.Laws.StructEq
set_option linter.unusedVariables false
namespace Go.Proofs.YtkchebbolldmbaaGreatDoor
open Go.RowKit
theorem held25 : Tryz.prog.stoodInHeld 54 = false := by kernel_rfl
theorem held29 : Tryz.prog.stoodInHeld 63 = false := by kernel_rfl
theorem guard25 : Tryz.prog.eqGuardType Tryz.prog.depth 54 = false := by kernel_rfl
theorem guard29 : Tryz.prog.eqGuardType Tryz.prog.depth 63 = false := by kernel_rfl
theorem eq25 (a b c d : ByteArray) (w : World) (k : Nat) : (Op.equalIn (k + 2) 54 (.agg #[.string a, .string b]) (.agg #[.string c, .string d])).run Tryz.prog w = .ok ((a.toList == c.toList) && (b.toList == d.toList)) w := by
  rw [run_equalIn_struct w (k + 1) 54 _ _ (by simp [Program.fieldsOf, Tryz.underlying54]) held25]
  simp [Program.fieldsOf, Tryz.underlying54, Op.eqFields, go_sem]
  by_cases h1 : a.toList = c.toList <;> by_cases h2 : b.toList = d.toList <;> simp [h1, h2]
theorem eq29 (a b c d : ByteArray) (w : World) (k : Nat) : (Op.equalIn (k + 2) 63 (.agg #[.string a, .string b]) (.agg #[.string c, .string d])).run Tryz.prog w = .ok ((a.toList == c.toList) && (b.toList == d.toList)) w := by
  rw [run_equalIn_struct w (k + 1) 63 _ _ (by simp [Program.fieldsOf, Tryz.underlying63]) held29]
  simp [Program.fieldsOf, Tryz.underlying63, Op.eqFields, go_sem]
  by_cases h1 : a.toList = c.toList <;> by_cases h2 : b.toList = d.toList <;> simp [h1, h2]
theorem eql25 (a b c d : ByteArray) (w : World) : (binOp .eql 54 (.agg #[.string a, .string b]) (.agg #[.string c, .string d])).run Tryz.prog w = .ok (.bool ((a.toList == c.toList) && (b.toList == d.toList))) w := by
  rw [run_eql_struct, eq25 a b c d w 9998]; rfl
theorem neq25 (a b c d : ByteArray) (w : World) : (binOp .neq 54 (.agg #[.string a, .string b]) (.agg #[.string c, .string d])).run Tryz.prog w = .ok (.bool (!((a.toList == c.toList) && (b.toList == d.toList)))) w := by
  rw [run_neq_struct, eq25 a b c d w 9998]; rfl
theorem eql29 (a b c d : ByteArray) (w : World) : (binOp .eql 63 (.agg #[.string a, .string b]) (.agg #[.string c, .string d])).run Tryz.prog w = .ok (.bool ((a.toList == c.toList) && (b.toList == d.toList))) w := by
  rw [run_eql_struct, eq29 a b c d w 9998]; rfl
theorem gua25 (op : BinOp) (x y : Operand) (xs ys : Array Value) (w : World) : (eqGuard op 54 x y (.agg xs) (.agg ys)).run Tryz.prog w = .ok () w := run_eqGuard_agg w op 54 x y xs ys guard25
theorem gua29 (op : BinOp) (x y : Operand) (xs ys : Array Value) (w : World) : (eqGuard op 63 x y (.agg xs) (.agg ys)).run Tryz.prog w = .ok () w := run_eqGuard_agg w op 63 x y xs ys guard29
/-- The constants of the law's guard. -/
def k1 : List UInt8 := [60, 64, 97, 46, 98, 44, 64, 99, 58, 34, 120, 32, 121, 34, 64, 69, 120, 97, 109, 112, 108, 101, 46, 79, 82, 71, 62]
def xy : List UInt8 := [120, 32, 121]
def eo : List UInt8 := [101, 120, 97, 109, 112, 108, 101, 46, 111, 114, 103]
theorem pv1 : parseV k1 = .tuple #[bxV xy eo, .int .i64 0] := parse_some (by kernel_rfl)
theorem pv2 : parseV [60, 97, 46, 46, 98, 64, 99, 62] = .tuple #[bxV [] [], .int .i64 2] := parse_none (by kernel_rfl)
theorem rv3 : readV [60, 62, 32, 120] = .tuple #[bxV [] [], .string ⟨#[32, 120]⟩, .int .i64 0] := by
  unfold readV; rw [show Adr.rdP [60, 62, 32, 120] = some ([], [], [32, 120]) by kernel_rfl]
theorem wv4 : wrtV [97, 34, 98] [99, 46, 100] = .tuple #[.string ⟨#[34, 97, 92, 34, 98, 34, 64, 99, 46, 100]⟩, .int .i64 0] := by
  unfold wrtV; rw [if_pos (by kernel_rfl), show Adr.wrt [97, 34, 98] [99, 46, 100] = [34, 97, 92, 34, 98, 34, 64, 99, 46, 100] by kernel_rfl]; rfl
theorem pv5 : pathV [] [] = .tuple #[.string ⟨#[60, 62]⟩, .int .i64 0] := by unfold pathV; rw [if_pos ⟨rfl, rfl⟩]
theorem dv6 : domV [65, 45, 49, 46, 98] = .tuple #[.string ⟨#[97, 45, 49, 46, 98]⟩, .int .i64 0] := by
  rw [dom_yes (by kernel_rfl), show Adr.sml [65, 45, 49, 46, 98] = [97, 45, 49, 46, 98] by kernel_rfl]; rfl
theorem dv7 : domV [45, 97] = .tuple #[.string ⟨#[]⟩, .int .i64 2] := dom_no (by kernel_rfl)
theorem lv8 : Adr.localB [120, 32, 121] = true := by kernel_rfl
theorem pl9 : Adr.plainB [120, 32, 121] = false := by kernel_rfl
theorem pl10 : Adr.plainB [97, 46, 98] = true := by kernel_rfl
theorem mv11 : Adr.mayB xy eo = true := by kernel_rfl
theorem mv12 : Adr.mayB [] [] = false := by kernel_rfl
end Go.Proofs.YtkchebbolldmbaaGreatDoor
