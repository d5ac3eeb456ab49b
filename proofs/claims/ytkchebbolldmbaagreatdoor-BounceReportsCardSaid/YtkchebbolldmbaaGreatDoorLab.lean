/-
  PROVED HERE: what label and Local compute.
-/
import Derived.Test.YtkchebbolldmbaaGreatDoorAll
set_option linter.unusedVariables false
namespace Adr
/-- A label. -/
def label (t : List UInt8) : Bool := decide (t.length ≤ 63) && (allB labB t && ((t.headD 0 != 45) && (t.getLastD 0 != 45)))
/-- A local part. -/
def localB (t : List UInt8) : Bool := decide (t.length ≤ 64) && allB shownB t
theorem u8_bne (a b : UInt8) : ((a.toNat : Int) != (b.toNat : Int)) = (a != b) := by unfold bne; rw [u8_beq]
theorem allB_pos {p : UInt8 → Bool} {t : List UInt8} (h : allB p t = true) : 0 < t.length := by
  unfold allB at h
  rw [Bool.and_eq_true] at h
  cases t with
  | nil => cases h.2
  | cons c r => exact Nat.succ_pos _
theorem head_at (t : List UInt8) (h : 0 < t.length) : t[0] = t.headD 0 := by
  cases t with
  | nil => cases h
  | cons c r => rfl
theorem last_at (t : List UInt8) (h : t.length - 1 < t.length) : t[t.length - 1] = t.getLastD 0 := by
  cases t with
  | nil => cases h
  | cons c r => rw [List.getLastD_cons, ← List.getLastD_cons (a := c) (b := c), List.getLastD_eq_getLast?, List.getLast?_eq_getElem?, List.getElem?_eq_getElem (by simp)]; rfl
end Adr
namespace Go.Proofs.YtkchebbolldmbaaGreatDoor
open Go.RowKit

set_option maxRecDepth 100000 in
set_option maxHeartbeats 2000000 in
theorem label_any (S : ByteArray) (w : World) (hs : S.size < 4611686018427387904) : Calls Tryz.prog 72 #[.string S] w fun e w' => e = .returned (.bool (Adr.label S.data.toList)) ∧ w = w' := by
  have hz := Lib.size_eq S
  have HA := Lib.hid (fun W : World => all_53 S W hs)
  by_cases hb : S.size ≤ 63
  · have hbz : (S.size : Int) ≤ 63 := by omega
    cases ha : Adr.allB Adr.labB S.data.toList with
    | false =>
      have e : Adr.label S.data.toList = false := by unfold Adr.label; rw [ha, Bool.false_and, Bool.and_false]
      rw [ha] at HA
      rw [e]
      clear hz ha e
      go_enter Tryz.func72, Tryz.ntmps72
      go_wp2_with (go_at_call 74; refine (HA.out _).mono ?_; rintro e w' ⟨rfl, rfl⟩)
      go_ret
      exact ⟨rfl, rfl⟩
    | true =>
      have hp := Adr.allB_pos ha
      have hp0 : 0 < S.size := by omega
      have hp1 : S.size - 1 < S.size := by omega
      have e : Adr.label S.data.toList = ((S[0]'hp0 != 45) && (S[S.size - 1]'hp1 != 45)) := by
        unfold Adr.label
        rw [ha, decide_eq_true (by omega), Bool.true_and, Bool.true_and, at_data S 0 hp0 hp, at_data S (S.size - 1) hp1 (by omega), ← Adr.head_at _ hp]
        congr 2
        rw [← Adr.last_at _ (by omega)]
        congr 1
      have e1 := Adr.u8_bne (S[0]'hp0) 45
      have e2 := Adr.u8_bne (S[S.size - 1]'hp1) 45
      rw [show ((45 : UInt8).toNat : Int) = 45 from rfl] at e1 e2
      rw [ha] at HA
      rw [e]
      clear hz ha e hp
      have a1 : (0 : Int) ≤ (S.size : Int) - 1 := by omega
      have a2 : (S.size : Int) - 1 < (S.size : Int) := by omega
      have a3 : (0 : Int) < (S.size : Int) := by omega
      cases c1 : (S[0]'hp0 != 45) with
      | false =>
        rw [c1] at e1
        clear c1 e2
        go_enter Tryz.func72, Tryz.ntmps72
        go_wp2_with (go_at_call 74; refine (HA.out _).mono ?_; rintro e w' ⟨rfl, rfl⟩)
        go_ret
        exact ⟨rfl, rfl⟩
      | true =>
        rw [c1] at e1
        rw [Bool.true_and]
        clear c1
        go_enter Tryz.func72, Tryz.ntmps72
        go_wp2_with (go_at_call 74; refine (HA.out _).mono ?_; rintro e w' ⟨rfl, rfl⟩)
        go_ret
        exact ⟨rfl, rfl⟩
  · have hbz : ¬ (S.size : Int) ≤ 63 := by omega
    have e : Adr.label S.data.toList = false := by unfold Adr.label; rw [decide_eq_false (by omega), Bool.false_and]
    rw [e]
    clear hz e
    go_enter Tryz.func72, Tryz.ntmps72
    go_wp2
    go_ret
    exact ⟨rfl, rfl⟩
set_option maxRecDepth 100000 in
theorem local_any (S : ByteArray) (w : World) (hs : S.size < 4611686018427387904) : Calls Tryz.prog 57 #[.string S] w fun e w' => e = .returned (.bool (Adr.localB S.data.toList)) ∧ w = w' := by
  have hz := Lib.size_eq S
  have HA := Lib.hid (fun W : World => all_42 S W hs)
  unfold Adr.localB
  by_cases hb : S.size ≤ 64
  · have hbz : (S.size : Int) ≤ 64 := by omega
    rw [decide_eq_true (by omega), Bool.true_and]
    clear hz
    generalize Adr.allB Adr.shownB S.data.toList = r at *
    go_enter Tryz.func57, Tryz.ntmps57
    go_wp2_with (go_at_call 74; refine (HA.out _).mono ?_; rintro e w' ⟨rfl, rfl⟩)
    go_ret
    exact ⟨rfl, rfl⟩
  · have hbz : ¬ (S.size : Int) ≤ 64 := by omega
    rw [decide_eq_false (by omega), Bool.false_and]
    clear hz
    go_enter Tryz.func57, Tryz.ntmps57
    go_wp2
    go_ret
    exact ⟨rfl, rfl⟩
end Go.Proofs.YtkchebbolldmbaaGreatDoor
