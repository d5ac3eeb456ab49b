/-
  PROVED HERE: what the small functions on one line compute: Unstuff of the program and of the answer, Ends.
-/
import Derived.Test.YtakhgoifgpdgiaaDoorBld
import Derived.Test.YtakhgoifgpdgiaaDoorSpl
set_option linter.unusedVariables false
namespace Lin
open Go.Lib
/-- A line that is unstuffed; is it the end? -/
def uns (t : List UInt8) : List UInt8 × Bool := if t = [46] then ([], true) else (trimPrefix t [46], false)
theorem occ_room (t : List UInt8) (i : Nat) (h : t.length ≤ i + 1) : occAt t E i = false := by
  cases e : occAt t E i with
  | false => rfl
  | true =>
    rcases occAt_room e with r | r
    · simp [E] at r; omega
    · simp [E] at r
theorem occ_at (t : List UInt8) (i : Nat) (h : i + 1 < t.length) : occAt t E i = (t[i] == 13 && t[i + 1] == 10) := by
  unfold occAt
  rw [List.drop_eq_getElem_cons (by omega), List.drop_eq_getElem_cons (by omega)]
  simp only [E, List.isPrefixOf, Bool.and_true]
  rw [beq_d, beq_d]
  rfl
theorem u8_beq (a b : UInt8) : ((a.toNat : Int) == (b.toNat : Int)) = (a == b) := by
  rw [Bool.eq_iff_iff, beq_iff_eq, beq_iff_eq]
  constructor
  · intro h
    exact UInt8.toNat_inj.1 (by omega)
  · rintro rfl; rfl
end Lin
namespace Go.Proofs.YtakhgoifgpdgiaaDoor
open Go.RowKit

theorem dot_beq (s : ByteArray) : (s.toList == [46]) = decide (s.data.toList = [46]) := by
  rw [ByteArray.toList_eq, Bool.eq_iff_iff, beq_iff_eq, decide_eq_true_iff]

set_option maxRecDepth 100000 in
theorem unstuff_any (s : ByteArray) (w : World) : Calls Tryd.prog 15 #[.string s] w fun e w' => e = .returned (.tuple #[.string ⟨(Lin.uns s.data.toList).1.toArray⟩, .bool (Lin.uns s.data.toList).2]) ∧ w' = w := by
  by_cases h : s.data.toList = [46]
  · have hd : (s.toList == [46]) = true := by rw [dot_beq]; exact decide_eq_true h
    have e : Lin.uns s.data.toList = ([], true) := if_pos h
    rw [e]
    go_enter Tryd.func15, Tryd.ntmps15
    go_wp2
    go_ret2
    exact ⟨rfl, rfl⟩
  · have hd : (s.toList == [46]) = false := by rw [dot_beq]; exact decide_eq_false h
    have e : Lin.uns s.data.toList = (Lib.trimPrefix s.data.toList [46], false) := if_neg h
    rw [e]
    go_enter Tryd.func15, Tryd.ntmps15
    go_wp2_with (go_at_call 30; refine (Tryd.strings_TrimPrefix _ _ _).mono ?_; rintro e w' ⟨rfl, rfl⟩)
    go_ret2
    exact ⟨rfl, rfl⟩
end Go.Proofs.YtakhgoifgpdgiaaDoor
