/-
  PROVED HERE: plain facts on lines that are unstuffed up to the end.
-/
import Derived.Test.YtakhgoifgpdgiaaDoorSplit2
set_option linter.unusedVariables false
namespace Lin
open Go.Lib
/-- Lines unstuffed up to the end, and how many bytes they had; or that there is no end. -/
def usd : List (List UInt8) → Option (List (List UInt8) × Nat)
  | [] => none
  | x :: l => if (uns x).2 = true then some ([], x.length + 2) else (usd l).map fun p => ((uns x).1 :: p.1, x.length + 2 + p.2)
def put (pre : List (List UInt8)) (m : Nat) (o : Option (List (List UInt8) × Nat)) : Option (List (List UInt8) × Nat) := o.map fun p => (pre ++ p.1, m + p.2)
theorem put_nil (o : Option (List (List UInt8) × Nat)) : put [] 0 o = o := by
  cases o with
  | none => rfl
  | some p => simp [put]
theorem usd_end (pre : List (List UInt8)) (m : Nat) (x : List UInt8) (l : List (List UInt8)) (h : (uns x).2 = true) : put pre m (usd (x :: l)) = some (pre, m + (x.length + 2)) := by
  rw [usd, if_pos h]
  simp [put]
theorem usd_more (pre : List (List UInt8)) (m : Nat) (x : List UInt8) (l : List (List UInt8)) (h : (uns x).2 = false) : put pre m (usd (x :: l)) = put (pre ++ [(uns x).1]) (m + (x.length + 2)) (usd l) := by
  rw [usd, if_neg (by rw [h]; simp)]
  cases usd l with
  | none => rfl
  | some p => simp [put, Nat.add_assoc]
theorem cut_none (t : List UInt8) (h : index t E = -1) : cut t E = (t, [], false) := by
  unfold cut
  rw [h, if_neg (by omega)]
theorem cut_hit (t : List UInt8) (k : Nat) (h : index t E = k) : cut t E = (t.take k, t.drop (k + 2), true) := by
  unfold cut
  rw [h, if_pos (by omega)]
  rfl
end Lin
