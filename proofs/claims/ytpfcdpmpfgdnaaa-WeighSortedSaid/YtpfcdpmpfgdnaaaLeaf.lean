/-
  PROVED HERE: what the small functions of the program and of the document's answer compute (classes, comparisons), for every word. No condition but that a word has 64 bits.
-/
import Derived.Test.YtpfcdpmpfgdnaaaProg
import Derived.Test.YtpfcdpmpfgdnaaaFloat2
import Derived.WalkKit
import Derived.WalkSpells
import Derived.WalkLawsBesides
import Derived.Laws.FloatArith
import Derived.Laws.Externs
import Derived.Laws.BitsAllLaws
import Derived.Lib.Hide
namespace Go.Proofs.Ytpfcdpmpfgdnaaa
open Go.RowKit

theorem run_frombits (x : Int) (w : World) : (callFunc 37 #[.int .u64 x]).run Try.prog w = .ok (.value (.float .f64 x.toNat)) w := by
  rw [run_callFunc_extern (e := Extern.MathFloatBits.float64frombits) Try.func37 (by kernel_rfl) (by kernel_rfl) (by kernel_rfl) (by kernel_rfl)]
  rfl
theorem run_bits (x : Nat) (w : World) : (callFunc 33 #[.float .f64 x]).run Try.prog w = .ok (.value (.int .u64 x)) w := by
  rw [run_callFunc_extern (e := Extern.MathFloatBits.float64bits) Try.func33 (by kernel_rfl) (by kernel_rfl) (by kernel_rfl) (by kernel_rfl)]
  rfl
theorem run_neg (x : Nat) (w : World) : (Op.unary .neg (.float .f64 x)).run Try.prog w = .ok (.float .f64 (Op.negFloat .f64 x)) w := rfl

set_option maxHeartbeats 400000 in
theorem number_any (x : Int) (w : World) : Calls Try.prog 29 #[.int .u64 x] w fun e w' => e = .returned (.float .f64 x.toNat) ∧ w = w' := by
  have h1 := run_frombits x
  go_enter Try.func29, Try.ntmps29
  go_wp2
  go_ret
  exact ⟨rfl, rfl⟩

set_option maxHeartbeats 400000 in
theorem abs_any (x : Nat) (w : World) (h : x < 18446744073709551616) : Calls Try.prog 31 #[.float .f64 x] w fun e w' => e = .returned (.float .f64 (Wgh.rung x)) ∧ w = w' := by
  have h1 := run_bits x
  have h2 := run_frombits
  have h3 := Wgh.andNot_rung x h
  go_enter Try.func31, Try.ntmps31
  go_wp2
  go_ret
  exact ⟨rfl, rfl⟩

theorem inf_test (x : Nat) : (FloatKind.f64.format.order (Wgh.rung x) 9218868437227405311 == some .gt) = decide (Wgh.rung x = 9218868437227405312) := by
  rw [Wgh.t_gt]
  unfold Wgh.flt
  rw [Wgh.nan_rung, Wgh.key_of_rung, (Wgh.key_rung 9218868437227405311 (by omega)).1]
  have h2 : Wgh.isNan 9218868437227405311 = false := by unfold Wgh.isNan; rw [(Wgh.key_rung 9218868437227405311 (by omega)).2]; simp
  rw [h2]
  unfold Wgh.isNan
  rcases Nat.lt_trichotomy (Wgh.rung x) 9218868437227405312 with h | h | h
  · have e1 : decide (9218868437227405312 < Wgh.rung x) = false := by simp; omega
    have e2 : decide (Wgh.rung x = 9218868437227405312) = false := by simp; omega
    rw [e1, e2]; simp; omega
  · rw [h]; rfl
  · have e1 : decide (9218868437227405312 < Wgh.rung x) = true := by simp; omega
    have e2 : decide (Wgh.rung x = 9218868437227405312) = false := by simp; omega
    rw [e1, e2]; rfl

set_option maxHeartbeats 400000 in
theorem isInf_any (x : Nat) (w : World) (h : x < 18446744073709551616) : Calls Try.prog 30 #[.float .f64 x, .int .i64 0] w fun e w' => e = .returned (.bool (decide (Wgh.rung x = 9218868437227405312))) ∧ w = w' := by
  have h3 := inf_test x
  go_enter Try.func30, Try.ntmps30
  go_wp2_with (go_at_call 31; refine (abs_any _ _ h).mono ?_; rintro e w' ⟨rfl, rfl⟩)
  go_ret
  exact ⟨rfl, rfl⟩

theorem zero_test (x : Nat) : (FloatKind.f64.format.order x 0 == some .eq) = decide (Wgh.rung x = 0) := by
  rw [Wgh.t_eq]
  unfold Wgh.feq
  have h2 : Wgh.isNan 0 = false := rfl
  have h3 : Wgh.key 0 = 0 := rfl
  rw [h2, h3]
  unfold Wgh.isNan Wgh.key
  have := Wgh.rung_lt x
  by_cases h : Wgh.rung x = 0
  · rw [h]; cases Wgh.sgn x <;> rfl
  · have e2 : decide (Wgh.rung x = 0) = false := by simp; omega
    rw [e2]
    cases Wgh.sgn x <;> simp <;> omega

theorem tiny_test (x : Nat) : (FloatKind.f64.format.order (Wgh.rung x) 4503599627370496 == some .lt) = decide (Wgh.rung x < 4503599627370496) := by
  rw [Wgh.t_lt]
  unfold Wgh.flt
  rw [Wgh.nan_rung, Wgh.key_of_rung, (Wgh.key_rung 4503599627370496 (by omega)).1]
  have h2 : Wgh.isNan 4503599627370496 = false := by unfold Wgh.isNan; rw [(Wgh.key_rung 4503599627370496 (by omega)).2]; simp
  rw [h2]
  unfold Wgh.isNan
  by_cases h : Wgh.rung x < 4503599627370496
  · simp [h]; omega
  · simp [h]; omega

theorem nan_test (x : Nat) : (FloatKind.f64.format.order x x != some .eq) = Wgh.isNan x := by
  rw [Wgh.t_ne]
  unfold Wgh.feq
  cases Wgh.isNan x <;> simp

set_option maxHeartbeats 1000000 in
theorem class_any (x : Int) (w : World) (h0 : 0 ≤ x) (h1 : x < 18446744073709551616) : Calls Try.prog 11 #[.int .u64 x] w fun e w' => e = .returned (.int .i64 (Wgh.cls x.toNat)) ∧ w = w' := by
  obtain ⟨n, rfl⟩ := Int.eq_ofNat_of_zero_le h0
  rw [Int.toNat_natCast]
  have hn : n < 18446744073709551616 := by omega
  have t1 := nan_test n
  have t2 := zero_test n
  have t3 := tiny_test n
  unfold Wgh.cls
  by_cases c1 : 9218868437227405312 < Wgh.rung n
  · have e1 : Wgh.isNan n = true := by unfold Wgh.isNan; simp [c1]
    rw [e1] at t1
    rw [if_pos c1]
    go_enter Try.func11, Try.ntmps11
    go_wp2_with (first | (go_at_call 29; refine (number_any _ _).mono ?_; rintro e w' ⟨rfl, rfl⟩) | (go_at_call 30; refine (isInf_any _ _ hn).mono ?_; rintro e w' ⟨rfl, rfl⟩) | (go_at_call 31; refine (abs_any _ _ hn).mono ?_; rintro e w' ⟨rfl, rfl⟩))
    go_ret
    exact ⟨rfl, rfl⟩
  · have e1 : Wgh.isNan n = false := by unfold Wgh.isNan; simp [c1]
    rw [e1] at t1
    rw [if_neg c1]
    by_cases c2 : Wgh.rung n = 9218868437227405312
    · have e2 : decide (Wgh.rung n = 9218868437227405312) = true := by simp [c2]
      rw [if_pos c2]
      clear c2
      go_enter Try.func11, Try.ntmps11
      go_wp2_with (first | (go_at_call 29; refine (number_any _ _).mono ?_; rintro e w' ⟨rfl, rfl⟩) | (go_at_call 30; refine (isInf_any _ _ hn).mono ?_; rintro e w' ⟨rfl, rfl⟩) | (go_at_call 31; refine (abs_any _ _ hn).mono ?_; rintro e w' ⟨rfl, rfl⟩))
      go_ret
      exact ⟨rfl, rfl⟩
    · have e2 : decide (Wgh.rung n = 9218868437227405312) = false := by simp [c2]
      rw [if_neg c2]
      by_cases c3 : Wgh.rung n = 0
      · have e3 : decide (Wgh.rung n = 0) = true := by simp [c3]
        rw [e3] at t2
        rw [if_pos c3]
        clear c2 c3 e3
        go_enter Try.func11, Try.ntmps11
        go_wp2_with (first | (go_at_call 29; refine (number_any _ _).mono ?_; rintro e w' ⟨rfl, rfl⟩) | (go_at_call 30; refine (isInf_any _ _ hn).mono ?_; rintro e w' ⟨rfl, rfl⟩) | (go_at_call 31; refine (abs_any _ _ hn).mono ?_; rintro e w' ⟨rfl, rfl⟩))
        go_ret
        exact ⟨rfl, rfl⟩
      · have e3 : decide (Wgh.rung n = 0) = false := by simp [c3]
        rw [e3] at t2
        rw [if_neg c3]
        by_cases c4 : Wgh.rung n < 4503599627370496
        · have e4 : decide (Wgh.rung n < 4503599627370496) = true := by simp [c4]
          rw [e4] at t3
          rw [if_pos c4]
          clear c2 c3 e3
          go_enter Try.func11, Try.ntmps11
          go_wp2_with (first | (go_at_call 29; refine (number_any _ _).mono ?_; rintro e w' ⟨rfl, rfl⟩) | (go_at_call 30; refine (isInf_any _ _ hn).mono ?_; rintro e w' ⟨rfl, rfl⟩) | (go_at_call 31; refine (abs_any _ _ hn).mono ?_; rintro e w' ⟨rfl, rfl⟩))
          go_ret
          exact ⟨rfl, rfl⟩
        · have e4 : decide (Wgh.rung n < 4503599627370496) = false := by simp [c4]
          rw [e4] at t3
          rw [if_neg c4]
          clear c2 c3 e3
          go_enter Try.func11, Try.ntmps11
          go_wp2_with (first | (go_at_call 29; refine (number_any _ _).mono ?_; rintro e w' ⟨rfl, rfl⟩) | (go_at_call 30; refine (isInf_any _ _ hn).mono ?_; rintro e w' ⟨rfl, rfl⟩) | (go_at_call 31; refine (abs_any _ _ hn).mono ?_; rintro e w' ⟨rfl, rfl⟩))
          go_ret
          exact ⟨rfl, rfl⟩

end Go.Proofs.Ytpfcdpmpfgdnaaa
