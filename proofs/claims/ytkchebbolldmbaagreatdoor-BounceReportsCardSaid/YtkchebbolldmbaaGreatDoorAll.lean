/-
  PROVED HERE: what all computes, at the three functions that it is handed: inLabel, shown, inAtom.
-/
import Derived.Test.YtkchebbolldmbaaGreatDoorByte2
set_option linter.unusedVariables false
namespace Adr
/-- All bytes are as asked, and there is one. -/
def allB (p : UInt8 → Bool) (t : List UInt8) : Bool := t.all p && !t.isEmpty
theorem all_more (p : UInt8 → Bool) (t : List UInt8) (k : Nat) (hk : k < t.length) (h : (t.take k).all p = true) (h2 : p t[k] = true) : (t.take (k + 1)).all p = true := by
  rw [List.take_add_one, List.getElem?_eq_getElem hk, List.all_append, h, Bool.true_and]
  simp [h2]
theorem all_stop (p : UInt8 → Bool) (t : List UInt8) (k : Nat) (hk : k < t.length) (h2 : p t[k] = false) : allB p t = false := by
  unfold allB
  rw [Bool.and_eq_false_iff]
  left
  rw [List.all_eq_false]
  exact ⟨t[k], List.getElem_mem hk, by rw [h2]; exact Bool.false_ne_true⟩
theorem all_end (p : UInt8 → Bool) (t : List UInt8) (h : t.all p = true) : allB p t = !t.isEmpty := by unfold allB; rw [h, Bool.true_and]
end Adr
namespace Go.Proofs.YtkchebbolldmbaaGreatDoor
open Go.RowKit

theorem at_data (s : ByteArray) (i : Nat) (h : i < s.size) (h2 : i < s.data.toList.length) : s[i] = s.data.toList[i] := by
  simp [ByteArray.getElem_eq_getElem_data]
theorem emp_beq (s : ByteArray) : (s.toList == []) = s.data.toList.isEmpty := by
  rw [ByteArray.toList_eq]
  cases s.data.toList <;> rfl
theorem emp_bne (s : ByteArray) : (s.toList != []) = !s.data.toList.isEmpty := by unfold bne; rw [emp_beq]

set_option maxRecDepth 100000 in
set_option maxHeartbeats 2000000 in
theorem all_53 (S : ByteArray) (w : World) (hs : S.size < 4611686018427387904) : Calls Tryz.prog 74 #[.string S, .func (.func 97) #[] #[]] w fun e w' => e = .returned (.bool (Adr.allB Adr.labB S.data.toList)) ∧ w = w' := by
  have HZ := Lib.hid (Lib.size_eq S)
  have HM := Lib.hid (Adr.all_more Adr.labB S.data.toList)
  have HS := Lib.hid (Adr.all_stop Adr.labB S.data.toList)
  have HE := Lib.hid (Adr.all_end Adr.labB S.data.toList)
  have he := emp_beq S
  have hn := emp_bne S
  generalize Adr.allB Adr.labB S.data.toList = r at *
  generalize hem : S.data.toList.isEmpty = em at *
  clear hem
  go_enter Tryz.func74, Tryz.ntmps74
  go_wp2
  go_loop [8] (fun u => ∃ k : Nat, u = .int .i64 k ∧ k ≤ S.size ∧ Hid ((S.data.toList.take k).all Adr.labB = true)) (fun u => S.size - (intOf u).toNat)
  case atStart => exact ⟨0, rfl, by omega, rfl⟩
  case round =>
    obtain ⟨k, rfl, hk, HK⟩ := hrel
    by_cases hlt : k < S.size
    · have hltz : (k : Int) < (S.size : Int) := by omega
      have hkl : k < S.data.toList.length := by rw [← HZ.out]; exact hlt
      have hat := at_data S k hlt hkl
      have HC := Lib.hid (fun W : World => inLabel_b (S[k]'hlt) W)
      cases hp : Adr.labB (S[k]'hlt) with
      | true =>
        rw [hp] at HC
        have HR := Lib.hid (HM.out k hkl HK.out (by rw [← hat]; exact hp))
        clear hat hp
        go_wp2_with (go_at_call 97; refine (HC.out _).mono ?_; rintro e w' ⟨rfl, rfl⟩)
        go_round
        case rel => exact ⟨k + 1, by go_num, by omega, HR⟩
        case measure => simp [intOf]; omega
      | false =>
        rw [hp] at HC
        have HR : Hid (r = false) := HS.out k hkl (by rw [← hat]; exact hp)
        clear hat hp
        go_wp2_with (go_at_call 97; refine (HC.out _).mono ?_; rintro e w' ⟨rfl, rfl⟩)
        go_ret
        exact ⟨by rw [HR.out]; rfl, rfl⟩
    · have hltz : ¬ (k : Int) < (S.size : Int) := by omega
      obtain rfl : k = S.size := by omega
      have HR : Hid (r = !em) := HE.out (by have := HK.out; rw [HZ.out, List.take_length] at this; exact this)
      clear HE HK HM HS
      go_wp2
      go_ret
      exact ⟨by rw [HR.out]; first | rfl | (rw [← hn]; rfl), rfl⟩

set_option maxRecDepth 100000 in
set_option maxHeartbeats 2000000 in
theorem all_42 (S : ByteArray) (w : World) (hs : S.size < 4611686018427387904) : Calls Tryz.prog 74 #[.string S, .func (.func 75) #[] #[]] w fun e w' => e = .returned (.bool (Adr.allB Adr.shownB S.data.toList)) ∧ w = w' := by
  have HZ := Lib.hid (Lib.size_eq S)
  have HM := Lib.hid (Adr.all_more Adr.shownB S.data.toList)
  have HS := Lib.hid (Adr.all_stop Adr.shownB S.data.toList)
  have HE := Lib.hid (Adr.all_end Adr.shownB S.data.toList)
  have he := emp_beq S
  have hn := emp_bne S
  generalize Adr.allB Adr.shownB S.data.toList = r at *
  generalize hem : S.data.toList.isEmpty = em at *
  clear hem
  go_enter Tryz.func74, Tryz.ntmps74
  go_wp2
  go_loop [8] (fun u => ∃ k : Nat, u = .int .i64 k ∧ k ≤ S.size ∧ Hid ((S.data.toList.take k).all Adr.shownB = true)) (fun u => S.size - (intOf u).toNat)
  case atStart => exact ⟨0, rfl, by omega, rfl⟩
  case round =>
    obtain ⟨k, rfl, hk, HK⟩ := hrel
    by_cases hlt : k < S.size
    · have hltz : (k : Int) < (S.size : Int) := by omega
      have hkl : k < S.data.toList.length := by rw [← HZ.out]; exact hlt
      have hat := at_data S k hlt hkl
      have HC := Lib.hid (fun W : World => shown_b (S[k]'hlt) W)
      cases hp : Adr.shownB (S[k]'hlt) with
      | true =>
        rw [hp] at HC
        have HR := Lib.hid (HM.out k hkl HK.out (by rw [← hat]; exact hp))
        clear hat hp
        go_wp2_with (go_at_call 75; refine (HC.out _).mono ?_; rintro e w' ⟨rfl, rfl⟩)
        go_round
        case rel => exact ⟨k + 1, by go_num, by omega, HR⟩
        case measure => simp [intOf]; omega
      | false =>
        rw [hp] at HC
        have HR : Hid (r = false) := HS.out k hkl (by rw [← hat]; exact hp)
        clear hat hp
        go_wp2_with (go_at_call 75; refine (HC.out _).mono ?_; rintro e w' ⟨rfl, rfl⟩)
        go_ret
        exact ⟨by rw [HR.out]; rfl, rfl⟩
    · have hltz : ¬ (k : Int) < (S.size : Int) := by omega
      obtain rfl : k = S.size := by omega
      have HR : Hid (r = !em) := HE.out (by have := HK.out; rw [HZ.out, List.take_length] at this; exact this)
      clear HE HK HM HS
      go_wp2
      go_ret
      exact ⟨by rw [HR.out]; first | rfl | (rw [← hn]; rfl), rfl⟩

set_option maxRecDepth 100000 in
set_option maxHeartbeats 2000000 in
theorem all_44 (S : ByteArray) (w : World) (hs : S.size < 4611686018427387904) : Calls Tryz.prog 74 #[.string S, .func (.func 87) #[] #[]] w fun e w' => e = .returned (.bool (Adr.allB Adr.atomB S.data.toList)) ∧ w = w' := by
  have HZ := Lib.hid (Lib.size_eq S)
  have HM := Lib.hid (Adr.all_more Adr.atomB S.data.toList)
  have HS := Lib.hid (Adr.all_stop Adr.atomB S.data.toList)
  have HE := Lib.hid (Adr.all_end Adr.atomB S.data.toList)
  have he := emp_beq S
  have hn := emp_bne S
  generalize Adr.allB Adr.atomB S.data.toList = r at *
  generalize hem : S.data.toList.isEmpty = em at *
  clear hem
  go_enter Tryz.func74, Tryz.ntmps74
  go_wp2
  go_loop [8] (fun u => ∃ k : Nat, u = .int .i64 k ∧ k ≤ S.size ∧ Hid ((S.data.toList.take k).all Adr.atomB = true)) (fun u => S.size - (intOf u).toNat)
  case atStart => exact ⟨0, rfl, by omega, rfl⟩
  case round =>
    obtain ⟨k, rfl, hk, HK⟩ := hrel
    by_cases hlt : k < S.size
    · have hltz : (k : Int) < (S.size : Int) := by omega
      have hkl : k < S.data.toList.length := by rw [← HZ.out]; exact hlt
      have hat := at_data S k hlt hkl
      have HC := Lib.hid (fun W : World => inAtom_b (S[k]'hlt) W)
      cases hp : Adr.atomB (S[k]'hlt) with
      | true =>
        rw [hp] at HC
        have HR := Lib.hid (HM.out k hkl HK.out (by rw [← hat]; exact hp))
        clear hat hp
        go_wp2_with (go_at_call 87; refine (HC.out _).mono ?_; rintro e w' ⟨rfl, rfl⟩)
        go_round
        case rel => exact ⟨k + 1, by go_num, by omega, HR⟩
        case measure => simp [intOf]; omega
      | false =>
        rw [hp] at HC
        have HR : Hid (r = false) := HS.out k hkl (by rw [← hat]; exact hp)
        clear hat hp
        go_wp2_with (go_at_call 87; refine (HC.out _).mono ?_; rintro e w' ⟨rfl, rfl⟩)
        go_ret
        exact ⟨by rw [HR.out]; rfl, rfl⟩
    · have hltz : ¬ (k : Int) < (S.size : Int) := by omega
      obtain rfl : k = S.size := by omega
      have HR : Hid (r = !em) := HE.out (by have := HK.out; rw [HZ.out, List.take_length] at this; exact this)
      clear HE HK HM HS
      go_wp2
      go_ret
      exact ⟨by rw [HR.out]; first | rfl | (rw [← hn]; rfl), rfl⟩
end Go.Proofs.YtkchebbolldmbaaGreatDoor
