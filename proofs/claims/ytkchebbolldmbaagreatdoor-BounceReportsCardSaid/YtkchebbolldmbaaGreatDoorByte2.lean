/-
  PROVED HERE: what the small functions on one byte compute, by bytes: letter, inLabel, inAtom, shown, sign.
-/
import Derived.Test.YtkchebbolldmbaaGreatDoorByte
set_option linter.unusedVariables false
namespace Adr
def letB (c : UInt8) : Bool := letter (c.toNat : Int)
def labB (c : UInt8) : Bool := letB c || (c == 45)
def signs : List UInt8 := [33, 35, 36, 37, 38, 39, 42, 43, 45, 47, 61, 63, 94, 95, 96, 123, 124, 125, 126]
def sgnB (c : UInt8) : Bool := signs.contains c
def atomB (c : UInt8) : Bool := letB c || sgnB c
def shownB (c : UInt8) : Bool := decide (32 ≤ c.toNat) && decide (c.toNat ≤ 126)
theorem u8_range (c : UInt8) : (0 : Int) ≤ (c.toNat : Int) ∧ (c.toNat : Int) < 256 := by
  have := c.toNat_lt
  omega
theorem u8_beq (a b : UInt8) : ((a.toNat : Int) == (b.toNat : Int)) = (a == b) := by
  rw [Bool.eq_iff_iff, beq_iff_eq, beq_iff_eq]
  constructor
  · intro h
    exact UInt8.toNat_inj.1 (by omega)
  · rintro rfl; rfl
theorem index_sign : ∀ n, n < 256 → decide (0 ≤ Go.Lib.indexByte signs n.toUInt8) = sgnB n.toUInt8 := by decide +kernel
theorem index_sgn (c : UInt8) : decide (0 ≤ Go.Lib.indexByte signs c) = sgnB c := by
  have := index_sign c.toNat c.toNat_lt
  rwa [show c.toNat.toUInt8 = c from UInt8.ofNat_toNat] at this
end Adr
namespace Go.Proofs.YtkchebbolldmbaaGreatDoor
open Go.RowKit

theorem letter_b (c : UInt8) (w : World) : Calls Tryz.prog 105 #[.int .u8 (c.toNat : Int)] w fun e w' => e = .returned (.bool (Adr.letB c)) ∧ w = w' :=
  letter_any _ w (Adr.u8_range c).1 (Adr.u8_range c).2
theorem rletter_b (c : UInt8) (w : World) : Calls Tryz.prog 80 #[.int .u8 (c.toNat : Int)] w fun e w' => e = .returned (.bool (Adr.letB c)) ∧ w = w' :=
  rletter_any _ w (Adr.u8_range c).1 (Adr.u8_range c).2
set_option maxRecDepth 100000 in
theorem inLabel_b (c : UInt8) (w : World) : Calls Tryz.prog 97 #[.int .u8 (c.toNat : Int)] w fun e w' => e = .returned (.bool (Adr.labB c)) ∧ w = w' := by
  have HL := Lib.hid (letter_b c)
  have e1 := Adr.u8_beq c 45
  rw [show ((45 : UInt8).toNat : Int) = 45 from rfl] at e1
  unfold Adr.labB
  rw [← e1]
  clear e1
  generalize Adr.letB c = a at *
  generalize (c.toNat : Int) = x at *
  cases a with
  | true =>
    go_enter Tryz.func97, Tryz.ntmps97
    go_wp2_with (go_at_call 105; refine (HL.out _).mono ?_; rintro e w' ⟨rfl, rfl⟩)
    go_ret
    exact ⟨rfl, rfl⟩
  | false =>
    go_enter Tryz.func97, Tryz.ntmps97
    go_wp2_with (go_at_call 105; refine (HL.out _).mono ?_; rintro e w' ⟨rfl, rfl⟩)
    go_ret
    exact ⟨rfl, rfl⟩
set_option maxRecDepth 100000 in
theorem inAtom_b (c : UInt8) (w : World) : Calls Tryz.prog 87 #[.int .u8 (c.toNat : Int)] w fun e w' => e = .returned (.bool (Adr.atomB c)) ∧ w = w' := by
  have HL := Lib.hid (letter_b c)
  have HI := Lib.hid (fun W : World => Tryz.strings_IndexByte ⟨#[33, 35, 36, 37, 38, 39, 42, 43, 45, 47, 61, 63, 94, 95, 96, 123, 124, 125, 126]⟩ (c.toNat : Int) W)
  rw [show (⟨#[33, 35, 36, 37, 38, 39, 42, 43, 45, 47, 61, 63, 94, 95, 96, 123, 124, 125, 126]⟩ : ByteArray).data.toList = Adr.signs from rfl, show ((c.toNat : Int)).toNat.toUInt8 = c from by rw [Int.toNat_natCast]; exact UInt8.ofNat_toNat] at HI
  unfold Adr.atomB
  rw [← Adr.index_sgn]
  generalize Adr.letB c = a at *
  generalize Lib.indexByte Adr.signs c = q at *
  generalize (c.toNat : Int) = x at *
  cases a with
  | true =>
    go_enter Tryz.func87, Tryz.ntmps87
    go_wp2_with (first
      | (go_at_call 105; refine (HL.out _).mono ?_; rintro e w' ⟨rfl, rfl⟩)
      | (go_at_call 106; refine (HI.out _).mono ?_; rintro e w' ⟨rfl, rfl⟩))
    go_ret
    exact ⟨rfl, rfl⟩
  | false =>
    go_enter Tryz.func87, Tryz.ntmps87
    go_wp2_with (first
      | (go_at_call 105; refine (HL.out _).mono ?_; rintro e w' ⟨rfl, rfl⟩)
      | (go_at_call 106; refine ((HI.out _).mono fun e w' h => (⟨h.1, h.2.symm⟩ : e = _ ∧ _ = w')).mono ?_; rintro e w' ⟨rfl, rfl⟩))
    go_ret
    exact ⟨rfl, rfl⟩
set_option maxRecDepth 100000 in
theorem shown_b (c : UInt8) (w : World) : Calls Tryz.prog 75 #[.int .u8 (c.toNat : Int)] w fun e w' => e = .returned (.bool (Adr.shownB c)) ∧ w = w' := by
  unfold Adr.shownB
  generalize c.toNat = n
  by_cases h1 : 32 ≤ n
  · have g1 : (32 : Int) ≤ (n : Int) := by omega
    rw [decide_eq_true h1]
    by_cases h2 : n ≤ 126
    · have g2 : (n : Int) ≤ 126 := by omega
      rw [decide_eq_true h2]
      go_enter Tryz.func75, Tryz.ntmps75
      go_wp2
      go_ret
      exact ⟨rfl, rfl⟩
    · have g2 : ¬ (n : Int) ≤ 126 := by omega
      rw [decide_eq_false h2]
      go_enter Tryz.func75, Tryz.ntmps75
      go_wp2
      go_ret
      exact ⟨rfl, rfl⟩
  · have g1 : ¬ (32 : Int) ≤ (n : Int) := by omega
    rw [decide_eq_false h1]
    go_enter Tryz.func75, Tryz.ntmps75
    go_wp2
    go_ret
    exact ⟨rfl, rfl⟩

theorem sign_step (c : UInt8) (k : Nat) (hk : k < 19) (h : (Adr.signs.take k).contains c = false) :
    ((((⟨#[33, 35, 36, 37, 38, 39, 42, 43, 45, 47, 61, 63, 94, 95, 96, 123, 124, 125, 126]⟩ : ByteArray)[k]'hk).toNat : Int) == (c.toNat : Int)) = (Adr.signs[k]'hk == c) := Adr.u8_beq _ _
theorem sign_more (c : UInt8) (k : Nat) (hk : k < 19) (h : (Adr.signs.take k).contains c = false) (h2 : (Adr.signs[k]'hk == c) = false) : (Adr.signs.take (k + 1)).contains c = false := by
  rw [List.take_add_one, List.getElem?_eq_getElem hk]
  rw [List.contains_eq_mem] at *
  simp only [decide_eq_false_iff_not, Option.toList, List.mem_append, List.mem_singleton, not_or] at *
  exact ⟨h, fun e => by rw [e, beq_self_eq_true] at h2; cases h2⟩
theorem sign_hit (c : UInt8) (k : Nat) (hk : k < 19) (h2 : (Adr.signs[k]'hk == c) = true) : Adr.sgnB c = true := by
  unfold Adr.sgnB
  rw [List.contains_eq_mem, decide_eq_true_iff]
  rw [← eq_of_beq h2]
  exact List.getElem_mem hk
set_option maxRecDepth 100000 in
set_option maxHeartbeats 2000000 in
theorem rsign_b (c : UInt8) (w : World) : Calls Tryz.prog 81 #[.int .u8 (c.toNat : Int)] w fun e w' => e = .returned (.bool (Adr.sgnB c)) ∧ w = w' := by
  have HM := Lib.hid (sign_more c)
  have HH := Lib.hid (sign_hit c)
  have HST := Lib.hid (sign_step c)
  have HE : Hid ((Adr.signs.take 19).contains c = Adr.sgnB c) := rfl
  generalize (c.toNat : Int) = x at *
  generalize Adr.sgnB c = r at *
  go_enter Tryz.func81, Tryz.ntmps81
  go_wp2
  go_loop [4] (fun u => ∃ k : Nat, u = .int .i64 k ∧ k ≤ 19 ∧ Hid ((Adr.signs.take k).contains c = false)) (fun u => 19 - (intOf u).toNat)
  case atStart => exact ⟨0, rfl, by omega, rfl⟩
  case round =>
    obtain ⟨k, rfl, hk, HK⟩ := hrel
    by_cases hlt : k < 19
    · have hltz : (k : Int) < 19 := by omega
      have hsz : k < (⟨#[33, 35, 36, 37, 38, 39, 42, 43, 45, 47, 61, 63, 94, 95, 96, 123, 124, 125, 126]⟩ : ByteArray).size := hlt
      have e1 := HST.out k hlt HK.out
      cases hb : (Adr.signs[k]'hlt == c) with
      | true =>
        rw [hb] at e1
        have HR : Hid (r = true) := HH.out k hlt hb
        clear hb
        go_wp2
        go_ret
        exact ⟨by rw [HR.out]; rfl, rfl⟩
      | false =>
        rw [hb] at e1
        have HR := Lib.hid (HM.out k hlt HK.out hb)
        clear hb
        go_wp2
        go_round
        case rel => exact ⟨k + 1, by go_num, by omega, HR⟩
        case measure => simp [intOf]; omega
    · have hltz : ¬ (k : Int) < 19 := by omega
      obtain rfl : k = 19 := by omega
      have HR : Hid (r = false) := HE.out.symm.trans HK.out
      go_wp2
      go_ret
      exact ⟨by rw [HR.out]; rfl, rfl⟩
end Go.Proofs.YtkchebbolldmbaaGreatDoor
