/-
  PROVED HERE: what the small functions on one byte compute: letter, inLabel, inAtom, shown, sign.
-/
import Derived.Test.YtkchebbolldmbaaGreatDoorShelf
import Derived.WalkKit
import Derived.Deep.QuietTactic
import Derived.BigQuiet
import Derived.Lib.Hide
set_option linter.unusedVariables false
namespace Adr
/-- A letter, or a digit. -/
def letter (x : Int) : Bool := decide ((97 ≤ x ∧ x ≤ 122) ∨ (65 ≤ x ∧ x ≤ 90) ∨ (48 ≤ x ∧ x ≤ 57))
end Adr
namespace Go.Proofs.YtkchebbolldmbaaGreatDoor
open Go.RowKit

set_option maxRecDepth 100000 in
theorem letter_any (x : Int) (w : World) (h0 : 0 ≤ x) (h1 : x < 256) : Calls Tryz.prog 105 #[.int .u8 x] w fun e w' => e = .returned (.bool (Adr.letter x)) ∧ w = w' := by
  have hc : (x ≤ 47) ∨ (48 ≤ x ∧ x ≤ 57) ∨ (58 ≤ x ∧ x ≤ 64) ∨ (65 ≤ x ∧ x ≤ 90) ∨ (91 ≤ x ∧ x ≤ 96) ∨ (97 ≤ x ∧ x ≤ 122) ∨ (123 ≤ x) := by omega
  rcases hc with hc | hc | hc | hc | hc | hc | hc
  · have e : Adr.letter x = false := by unfold Adr.letter; simp; omega
    have g97 : ¬ (97 : Int) ≤ x := by omega
    have g65 : ¬ (65 : Int) ≤ x := by omega
    have g48 : ¬ (48 : Int) ≤ x := by omega
    have k122 : x ≤ (122 : Int) := by omega
    have k90 : x ≤ (90 : Int) := by omega
    have k57 : x ≤ (57 : Int) := by omega
    rw [e]
    clear e hc
    go_enter Tryz.func105, Tryz.ntmps105
    go_wp2
    go_ret
    exact ⟨rfl, rfl⟩
  · have e : Adr.letter x = true := by unfold Adr.letter; simp; omega
    have g97 : ¬ (97 : Int) ≤ x := by omega
    have g65 : ¬ (65 : Int) ≤ x := by omega
    have g48 : (48 : Int) ≤ x := by omega
    have k122 : x ≤ (122 : Int) := by omega
    have k90 : x ≤ (90 : Int) := by omega
    have k57 : x ≤ (57 : Int) := by omega
    rw [e]
    clear e hc
    go_enter Tryz.func105, Tryz.ntmps105
    go_wp2
    go_ret
    exact ⟨rfl, rfl⟩
  · have e : Adr.letter x = false := by unfold Adr.letter; simp; omega
    have g97 : ¬ (97 : Int) ≤ x := by omega
    have g65 : ¬ (65 : Int) ≤ x := by omega
    have g48 : (48 : Int) ≤ x := by omega
    have k122 : x ≤ (122 : Int) := by omega
    have k90 : x ≤ (90 : Int) := by omega
    have k57 : ¬ x ≤ (57 : Int) := by omega
    rw [e]
    clear e hc
    go_enter Tryz.func105, Tryz.ntmps105
    go_wp2
    go_ret
    exact ⟨rfl, rfl⟩
  · have e : Adr.letter x = true := by unfold Adr.letter; simp; omega
    have g97 : ¬ (97 : Int) ≤ x := by omega
    have g65 : (65 : Int) ≤ x := by omega
    have g48 : (48 : Int) ≤ x := by omega
    have k122 : x ≤ (122 : Int) := by omega
    have k90 : x ≤ (90 : Int) := by omega
    have k57 : ¬ x ≤ (57 : Int) := by omega
    rw [e]
    clear e hc
    go_enter Tryz.func105, Tryz.ntmps105
    go_wp2
    go_ret
    exact ⟨rfl, rfl⟩
  · have e : Adr.letter x = false := by unfold Adr.letter; simp; omega
    have g97 : ¬ (97 : Int) ≤ x := by omega
    have g65 : (65 : Int) ≤ x := by omega
    have g48 : (48 : Int) ≤ x := by omega
    have k122 : x ≤ (122 : Int) := by omega
    have k90 : ¬ x ≤ (90 : Int) := by omega
    have k57 : ¬ x ≤ (57 : Int) := by omega
    rw [e]
    clear e hc
    go_enter Tryz.func105, Tryz.ntmps105
    go_wp2
    go_ret
    exact ⟨rfl, rfl⟩
  · have e : Adr.letter x = true := by unfold Adr.letter; simp; omega
    have g97 : (97 : Int) ≤ x := by omega
    have g65 : (65 : Int) ≤ x := by omega
    have g48 : (48 : Int) ≤ x := by omega
    have k122 : x ≤ (122 : Int) := by omega
    have k90 : ¬ x ≤ (90 : Int) := by omega
    have k57 : ¬ x ≤ (57 : Int) := by omega
    rw [e]
    clear e hc
    go_enter Tryz.func105, Tryz.ntmps105
    go_wp2
    go_ret
    exact ⟨rfl, rfl⟩
  · have e : Adr.letter x = false := by unfold Adr.letter; simp; omega
    have g97 : (97 : Int) ≤ x := by omega
    have g65 : (65 : Int) ≤ x := by omega
    have g48 : (48 : Int) ≤ x := by omega
    have k122 : ¬ x ≤ (122 : Int) := by omega
    have k90 : ¬ x ≤ (90 : Int) := by omega
    have k57 : ¬ x ≤ (57 : Int) := by omega
    rw [e]
    clear e hc
    go_enter Tryz.func105, Tryz.ntmps105
    go_wp2
    go_ret
    exact ⟨rfl, rfl⟩
set_option maxRecDepth 100000 in
theorem rletter_any (x : Int) (w : World) (h0 : 0 ≤ x) (h1 : x < 256) : Calls Tryz.prog 80 #[.int .u8 x] w fun e w' => e = .returned (.bool (Adr.letter x)) ∧ w = w' := by
  have hc : (x ≤ 47) ∨ (48 ≤ x ∧ x ≤ 57) ∨ (58 ≤ x ∧ x ≤ 64) ∨ (65 ≤ x ∧ x ≤ 90) ∨ (91 ≤ x ∧ x ≤ 96) ∨ (97 ≤ x ∧ x ≤ 122) ∨ (123 ≤ x) := by omega
  rcases hc with hc | hc | hc | hc | hc | hc | hc
  · have e : Adr.letter x = false := by unfold Adr.letter; simp; omega
    have g97 : ¬ (97 : Int) ≤ x := by omega
    have g65 : ¬ (65 : Int) ≤ x := by omega
    have g48 : ¬ (48 : Int) ≤ x := by omega
    have k122 : x ≤ (122 : Int) := by omega
    have k90 : x ≤ (90 : Int) := by omega
    have k57 : x ≤ (57 : Int) := by omega
    rw [e]
    clear e hc
    go_enter Tryz.func80, Tryz.ntmps80
    go_wp2
    go_ret
    exact ⟨rfl, rfl⟩
  · have e : Adr.letter x = true := by unfold Adr.letter; simp; omega
    have g97 : ¬ (97 : Int) ≤ x := by omega
    have g65 : ¬ (65 : Int) ≤ x := by omega
    have g48 : (48 : Int) ≤ x := by omega
    have k122 : x ≤ (122 : Int) := by omega
    have k90 : x ≤ (90 : Int) := by omega
    have k57 : x ≤ (57 : Int) := by omega
    rw [e]
    clear e hc
    go_enter Tryz.func80, Tryz.ntmps80
    go_wp2
    go_ret
    exact ⟨rfl, rfl⟩
  · have e : Adr.letter x = false := by unfold Adr.letter; simp; omega
    have g97 : ¬ (97 : Int) ≤ x := by omega
    have g65 : ¬ (65 : Int) ≤ x := by omega
    have g48 : (48 : Int) ≤ x := by omega
    have k122 : x ≤ (122 : Int) := by omega
    have k90 : x ≤ (90 : Int) := by omega
    have k57 : ¬ x ≤ (57 : Int) := by omega
    rw [e]
    clear e hc
    go_enter Tryz.func80, Tryz.ntmps80
    go_wp2
    go_ret
    exact ⟨rfl, rfl⟩
  · have e : Adr.letter x = true := by unfold Adr.letter; simp; omega
    have g97 : ¬ (97 : Int) ≤ x := by omega
    have g65 : (65 : Int) ≤ x := by omega
    have g48 : (48 : Int) ≤ x := by omega
    have k122 : x ≤ (122 : Int) := by omega
    have k90 : x ≤ (90 : Int) := by omega
    have k57 : ¬ x ≤ (57 : Int) := by omega
    rw [e]
    clear e hc
    go_enter Tryz.func80, Tryz.ntmps80
    go_wp2
    go_ret
    exact ⟨rfl, rfl⟩
  · have e : Adr.letter x = false := by unfold Adr.letter; simp; omega
    have g97 : ¬ (97 : Int) ≤ x := by omega
    have g65 : (65 : Int) ≤ x := by omega
    have g48 : (48 : Int) ≤ x := by omega
    have k122 : x ≤ (122 : Int) := by omega
    have k90 : ¬ x ≤ (90 : Int) := by omega
    have k57 : ¬ x ≤ (57 : Int) := by omega
    rw [e]
    clear e hc
    go_enter Tryz.func80, Tryz.ntmps80
    go_wp2
    go_ret
    exact ⟨rfl, rfl⟩
  · have e : Adr.letter x = true := by unfold Adr.letter; simp; omega
    have g97 : (97 : Int) ≤ x := by omega
    have g65 : (65 : Int) ≤ x := by omega
    have g48 : (48 : Int) ≤ x := by omega
    have k122 : x ≤ (122 : Int) := by omega
    have k90 : ¬ x ≤ (90 : Int) := by omega
    have k57 : ¬ x ≤ (57 : Int) := by omega
    rw [e]
    clear e hc
    go_enter Tryz.func80, Tryz.ntmps80
    go_wp2
    go_ret
    exact ⟨rfl, rfl⟩
  · have e : Adr.letter x = false := by unfold Adr.letter; simp; omega
    have g97 : (97 : Int) ≤ x := by omega
    have g65 : (65 : Int) ≤ x := by omega
    have g48 : (48 : Int) ≤ x := by omega
    have k122 : ¬ x ≤ (122 : Int) := by omega
    have k90 : ¬ x ≤ (90 : Int) := by omega
    have k57 : ¬ x ≤ (57 : Int) := by omega
    rw [e]
    clear e hc
    go_enter Tryz.func80, Tryz.ntmps80
    go_wp2
    go_ret
    exact ⟨rfl, rfl⟩
end Go.Proofs.YtkchebbolldmbaaGreatDoor
