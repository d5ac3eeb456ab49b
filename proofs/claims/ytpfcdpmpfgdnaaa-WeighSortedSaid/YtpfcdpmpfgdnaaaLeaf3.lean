/-
  PROVED HERE: what Clamp, Turned and Twice of the program and of the document's answer compute, for every word.
-/
import Derived.Test.YtpfcdpmpfgdnaaaLeaf2
namespace Go.Proofs.Ytpfcdpmpfgdnaaa
open Go.RowKit

theorem clampW_1 {x y z : Nat} (h : Wgh.cmpW x y < 0) : Wgh.clampW x y z = y := by unfold Wgh.clampW; rw [if_pos h]
theorem clampW_2 {x y z : Nat} (h : ¬ Wgh.cmpW x y < 0) (h2 : 0 < Wgh.cmpW x z) : Wgh.clampW x y z = z := by unfold Wgh.clampW; rw [if_neg h, if_pos h2]
theorem clampW_3 {x y z : Nat} (h : ¬ Wgh.cmpW x y < 0) (h2 : ¬ 0 < Wgh.cmpW x z) : Wgh.clampW x y z = x := by unfold Wgh.clampW; rw [if_neg h, if_neg h2]

set_option maxHeartbeats 400000 in
theorem clamp_any (x y z : Int) (w : World) (h0 : 0 ≤ x) (h1 : x < 18446744073709551616) (h2 : 0 ≤ y) (h3 : y < 18446744073709551616) (h4 : 0 ≤ z) (h5 : z < 18446744073709551616) :
    Calls Try.prog 15 #[.int .u64 x, .int .u64 y, .int .u64 z] w fun e w' => e = .returned (.int .u64 (Wgh.clampW x.toNat y.toNat z.toNat)) ∧ w = w' := by
  go_enter Try.func15, Try.ntmps15
  go_wp2_with (go_at_call 13; refine (compare_any _ _ _ (by omega) (by omega) (by omega) (by omega)).mono ?_; rintro e w' ⟨rfl, rfl⟩)
  all_goals go_ret
  · refine ⟨ret_int ?_, rfl⟩; rw [clampW_1 (by assumption)]; omega
  · refine ⟨ret_int ?_, rfl⟩; rw [clampW_2 (by omega) (by assumption)]; omega
  · refine ⟨ret_int ?_, rfl⟩; rw [clampW_3 (by omega) (by omega)]; omega
set_option maxHeartbeats 400000 in
theorem rclamp_any (x y z : Int) (w : World) (h0 : 0 ≤ x) (h1 : x < 18446744073709551616) (h2 : 0 ≤ y) (h3 : y < 18446744073709551616) (h4 : 0 ≤ z) (h5 : z < 18446744073709551616) :
    Calls Try.prog 16 #[.int .u64 x, .int .u64 y, .int .u64 z] w fun e w' => e = .returned (.int .u64 (Wgh.clampW x.toNat y.toNat z.toNat)) ∧ w = w' := by
  go_enter Try.func16, Try.ntmps16
  go_wp2_with (go_at_call 14; refine (rcompare_any _ _ _ (by omega) (by omega) (by omega) (by omega)).mono ?_; rintro e w' ⟨rfl, rfl⟩)
  all_goals go_ret
  · refine ⟨ret_int ?_, rfl⟩; rw [clampW_1 (by assumption)]; omega
  · refine ⟨ret_int ?_, rfl⟩; rw [clampW_2 (by omega) (by assumption)]; omega
  · refine ⟨ret_int ?_, rfl⟩; rw [clampW_3 (by omega) (by omega)]; omega

set_option maxHeartbeats 400000 in
theorem turned_any (x : Int) (w : World) (h0 : 0 ≤ x) (h1 : x < 18446744073709551616) : Calls Try.prog 17 #[.int .u64 x] w fun e w' => e = .returned (.int .u64 (Wgh.turnW x.toNat)) ∧ w = w' := by
  have t1 := Wgh.cls_nan x.toNat
  have hn := run_neg x.toNat
  rw [Wgh.neg_double x.toNat (by omega)] at hn
  have hb := run_bits
  by_cases c : Wgh.isNan x.toNat = true
  · rw [c] at t1
    have H := Lib.hid c
    clear c
    go_enter Try.func17, Try.ntmps17
    go_wp2_with (first | (go_at_call 11; refine (class_any _ _ (by omega) (by omega)).mono ?_; rintro e w' ⟨rfl, rfl⟩) | (go_at_call 29; refine (number_any _ _).mono ?_; rintro e w' ⟨rfl, rfl⟩))
    go_ret
    refine ⟨ret_int ?_, rfl⟩
    rw [Wgh.turnW_nan _ H.out]; omega
  · rw [Bool.not_eq_true] at c
    rw [c] at t1
    have H := Lib.hid c
    clear c
    go_enter Try.func17, Try.ntmps17
    go_wp2_with (first | (go_at_call 11; refine (class_any _ _ (by omega) (by omega)).mono ?_; rintro e w' ⟨rfl, rfl⟩) | (go_at_call 29; refine (number_any _ _).mono ?_; rintro e w' ⟨rfl, rfl⟩))
    go_ret
    refine ⟨ret_int ?_, rfl⟩
    rw [Wgh.turnW_num _ H.out]

theorem xor_top (x : Int) (h0 : 0 ≤ x) (h1 : x < 18446744073709551616) : bits .xor .u64 x 9223372036854775808 = ((Wgh.wd (!Wgh.sgn x.toNat) (Wgh.rung x.toNat) : Nat) : Int) := by
  rw [← Wgh.neg_double x.toNat (by omega)]
  exact u64_xor x 9223372036854775808 h0 h1 (by omega) (by omega)

set_option maxHeartbeats 400000 in
theorem rturned_any (x : Int) (w : World) (h0 : 0 ≤ x) (h1 : x < 18446744073709551616) : Calls Try.prog 18 #[.int .u64 x] w fun e w' => e = .returned (.int .u64 (Wgh.turnW x.toNat)) ∧ w = w' := by
  have t1 := Wgh.cls_nan x.toNat
  have hx := xor_top x h0 h1
  by_cases c : Wgh.isNan x.toNat = true
  · rw [c] at t1
    have H := Lib.hid c
    clear c
    go_enter Try.func18, Try.ntmps18
    go_wp2_with (go_at_call 12; refine (rclass_any _ _ (by omega) (by omega)).mono ?_; rintro e w' ⟨rfl, rfl⟩)
    go_ret
    refine ⟨ret_int ?_, rfl⟩
    rw [Wgh.turnW_nan _ H.out]; omega
  · rw [Bool.not_eq_true] at c
    rw [c] at t1
    have H := Lib.hid c
    clear c
    go_enter Try.func18, Try.ntmps18
    go_wp2_with (go_at_call 12; refine (rclass_any _ _ (by omega) (by omega)).mono ?_; rintro e w' ⟨rfl, rfl⟩)
    go_ret
    refine ⟨ret_int ?_, rfl⟩
    rw [Wgh.turnW_num _ H.out]

theorem mul_two_run (x : Nat) (h : x < 18446744073709551616) (hn : Wgh.isNan x = false) (w : World) : (binOp .mul 43 (.float .f64 4611686018427387904) (.float .f64 x)).run Try.prog w = .ok (.float .f64 (Wgh.twiceW x)) w := by
  refine run_float_arith w .mul 43 .f64 _ _ _ ?_
  unfold floatBits
  exact Wgh.mul_two_bits x h hn

set_option maxHeartbeats 400000 in
theorem twice_any (x : Int) (w : World) (h0 : 0 ≤ x) (h1 : x < 18446744073709551616) : Calls Try.prog 19 #[.int .u64 x] w fun e w' => e = .returned (.int .u64 (Wgh.twoW x.toNat)) ∧ w = w' := by
  have t1 := Wgh.cls_nan x.toNat
  have hb := run_bits
  by_cases c : Wgh.isNan x.toNat = true
  · rw [c] at t1
    have H := Lib.hid c
    clear c
    go_enter Try.func19, Try.ntmps19
    go_wp2_with (first | (go_at_call 11; refine (class_any _ _ (by omega) (by omega)).mono ?_; rintro e w' ⟨rfl, rfl⟩) | (go_at_call 29; refine (number_any _ _).mono ?_; rintro e w' ⟨rfl, rfl⟩))
    go_ret
    refine ⟨ret_int ?_, rfl⟩
    rw [Wgh.twoW_nan _ H.out]; omega
  · rw [Bool.not_eq_true] at c
    rw [c] at t1
    have hm := mul_two_run x.toNat (by omega) c
    have H := Lib.hid c
    clear c
    go_enter Try.func19, Try.ntmps19
    go_wp2_with (first | (go_at_call 11; refine (class_any _ _ (by omega) (by omega)).mono ?_; rintro e w' ⟨rfl, rfl⟩) | (go_at_call 29; refine (number_any _ _).mono ?_; rintro e w' ⟨rfl, rfl⟩))
    go_ret
    refine ⟨ret_int ?_, rfl⟩
    rw [Wgh.twoW_num _ H.out]

theorem cls_is (x : Nat) (c : Int) (h : Wgh.cls x = c) : c = 0 ∧ Wgh.rung x = 0 ∨ c = 1 ∧ 0 < Wgh.rung x ∧ Wgh.rung x < 4503599627370496 ∨ c = 2 ∧ 4503599627370496 ≤ Wgh.rung x ∧ Wgh.rung x < 9218868437227405312 ∨ c = 3 ∧ Wgh.rung x = 9218868437227405312 ∨ c = 4 ∧ 9218868437227405312 < Wgh.rung x := by
  subst h
  unfold Wgh.cls
  repeat' split
  all_goals omega
theorem nan_false {x : Nat} (h : Wgh.rung x ≤ 9218868437227405312) : Wgh.isNan x = false := by unfold Wgh.isNan; simp; omega
theorem nan_true {x : Nat} (h : 9218868437227405312 < Wgh.rung x) : Wgh.isNan x = true := by unfold Wgh.isNan; simp; omega

set_option maxHeartbeats 2000000 in
theorem rtwice_any (x : Int) (w : World) (h0 : 0 ≤ x) (h1 : x < 18446744073709551616) : Calls Try.prog 20 #[.int .u64 x] w fun e w' => e = .returned (.int .u64 (Wgh.twoW x.toNat)) ∧ w = w' := by
  obtain ⟨c, hc⟩ : ∃ c, Wgh.cls x.toNat = c := ⟨_, rfl⟩
  have hr : ((Wgh.rung x.toNat : Nat) : Int) = x % 9223372036854775808 := by unfold Wgh.rung; omega
  have hx : ((x.toNat : Nat) : Int) = x := by omega
  have hw := Wgh.wd_of x.toNat (by omega)
  have hs0 : 0 ≤ x / 9223372036854775808 := by omega
  have hs1 : x / 9223372036854775808 ≤ 1 := by omega
  have hf0 : 0 ≤ x % 4503599627370496 := by omega
  have hf1 : x % 4503599627370496 < 4503599627370496 := by omega
  have he0 : 0 ≤ x / 4503599627370496 % 2048 := by omega
  rcases cls_is _ _ hc with ⟨rfl, h⟩ | ⟨rfl, h, h'⟩ | ⟨rfl, h, h'⟩ | ⟨rfl, h⟩ | ⟨rfl, h⟩
  · have e : Wgh.twoW x.toNat = x.toNat := by
      rw [Wgh.twoW_num _ (nan_false (by omega))]
      unfold Wgh.twiceW
      rw [if_neg (by omega), if_pos (by omega), h]
      rw [h] at hw
      exact hw
    have H := Lib.hid (And.intro e hx)
    clear hr hx hw h e
    go_enter Try.func20, Try.ntmps20
    go_wp2_with (first | (go_at_call 12; refine (rclass_any _ _ (by omega) (by omega)).mono ?_; rintro e w' ⟨rfl, rfl⟩) | (go_at_call 32; refine (parts_any _ _ (by omega) (by omega)).mono ?_; rintro e w' ⟨rfl, rfl⟩))
    go_ret
    exact ⟨ret_int (by rw [H.out.1, H.out.2]), rfl⟩
  · have e : ((Wgh.twoW x.toNat : Nat) : Int) = x / 9223372036854775808 * 9223372036854775808 + 2 * (x % 4503599627370496) := by
      rw [Wgh.twoW_num _ (nan_false (by omega))]
      unfold Wgh.twiceW
      rw [if_neg (by omega), if_pos (by omega), Wgh.wd_int _ _ (by omega), hx]
      omega
    have H := Lib.hid e
    clear hr hx hw h h' e
    go_enter Try.func20, Try.ntmps20
    go_wp2_with (first | (go_at_call 12; refine (rclass_any _ _ (by omega) (by omega)).mono ?_; rintro e w' ⟨rfl, rfl⟩) | (go_at_call 32; refine (parts_any _ _ (by omega) (by omega)).mono ?_; rintro e w' ⟨rfl, rfl⟩))
    go_ret
    exact ⟨ret_int (by rw [H.out]), rfl⟩
  · by_cases hb : x / 4503599627370496 % 2048 = 2046
    · have e : ((Wgh.twoW x.toNat : Nat) : Int) = x / 9223372036854775808 * 9223372036854775808 + 9218868437227405312 := by
        rw [Wgh.twoW_num _ (nan_false (by omega))]
        unfold Wgh.twiceW
        rw [if_neg (by omega), if_neg (by omega), Wgh.wd_int _ _ (by omega), hx]
        omega
      have H := Lib.hid e
      clear hr hx hw h h' e
      go_enter Try.func20, Try.ntmps20
      go_wp2_with (first | (go_at_call 12; refine (rclass_any _ _ (by omega) (by omega)).mono ?_; rintro e w' ⟨rfl, rfl⟩) | (go_at_call 32; refine (parts_any _ _ (by omega) (by omega)).mono ?_; rintro e w' ⟨rfl, rfl⟩))
      go_ret
      exact ⟨ret_int (by rw [H.out]), rfl⟩
    · have e : ((Wgh.twoW x.toNat : Nat) : Int) = x / 9223372036854775808 * 9223372036854775808 + (x / 4503599627370496 % 2048 + 1) * 4503599627370496 + x % 4503599627370496 := by
        rw [Wgh.twoW_num _ (nan_false (by omega))]
        unfold Wgh.twiceW
        rw [if_neg (by omega), if_neg (by omega), Wgh.wd_int _ _ (by omega), hx]
        omega
      have he1 : x / 4503599627370496 % 2048 ≤ 2045 := by omega
      have H := Lib.hid e
      clear hr hx hw h h' e
      go_enter Try.func20, Try.ntmps20
      go_wp2_with (first | (go_at_call 12; refine (rclass_any _ _ (by omega) (by omega)).mono ?_; rintro e w' ⟨rfl, rfl⟩) | (go_at_call 32; refine (parts_any _ _ (by omega) (by omega)).mono ?_; rintro e w' ⟨rfl, rfl⟩))
      go_ret
      exact ⟨ret_int (by rw [H.out]), rfl⟩
  · have e : Wgh.twoW x.toNat = x.toNat := by
      rw [Wgh.twoW_num _ (nan_false (by omega))]
      unfold Wgh.twiceW
      rw [if_pos (by omega)]
    have H := Lib.hid (And.intro e hx)
    clear hr hx hw h e
    go_enter Try.func20, Try.ntmps20
    go_wp2_with (first | (go_at_call 12; refine (rclass_any _ _ (by omega) (by omega)).mono ?_; rintro e w' ⟨rfl, rfl⟩) | (go_at_call 32; refine (parts_any _ _ (by omega) (by omega)).mono ?_; rintro e w' ⟨rfl, rfl⟩))
    go_ret
    exact ⟨ret_int (by rw [H.out.1, H.out.2]), rfl⟩
  · have e : Wgh.twoW x.toNat = x.toNat := Wgh.twoW_nan _ (nan_true h)
    have H := Lib.hid (And.intro e hx)
    clear hr hx hw h e
    go_enter Try.func20, Try.ntmps20
    go_wp2_with (first | (go_at_call 12; refine (rclass_any _ _ (by omega) (by omega)).mono ?_; rintro e w' ⟨rfl, rfl⟩) | (go_at_call 32; refine (parts_any _ _ (by omega) (by omega)).mono ?_; rintro e w' ⟨rfl, rfl⟩))
    go_ret
    exact ⟨ret_int (by rw [H.out.1, H.out.2]), rfl⟩

end Go.Proofs.Ytpfcdpmpfgdnaaa
