/-
  PROVED HERE: what Whole and From of the program and of the document's answer compute, for every word and every whole number.
-/
import Derived.Test.YtpfcdpmpfgdnaaaLeaf3
import Derived.Test.YtpfcdpmpfgdnaaaFloat3
namespace Go.Proofs.Ytpfcdpmpfgdnaaa
open Go.RowKit

section
attribute [local irreducible] FloatKind.decode
theorem archTrunc_entry (x : Nat) (s : Bool) (m : Nat) (p : Int) (h : FloatKind.f64.decode x = .number s m p) :
    Extern.MathFloor.toIntegral "math.archTrunc" .zero #[.float .f64 x] = pure (Value.float .f64 (FloatKind.f64.encode ((Ieee.Datum.number s m p).integral .zero))) := by
  conv => lhs; whnf
  rw [h]
end
theorem run_archTrunc (x : Nat) (h : Wgh.rung x ≤ 4845873199050653696) (w : World) : (callFunc 38 #[.float .f64 x]).run Try.prog w = .ok (.value (.float .f64 (Wgh.wd (Wgh.sgn x) (Wgh.rungOf (Wgh.whole x))))) w := by
  rw [run_callFunc_extern (e := Extern.MathFloor.toIntegral "math.archTrunc" .zero) Try.func38 (by kernel_rfl) (by kernel_rfl) (by kernel_rfl) (by kernel_rfl)]
  have e := Wgh.trunc_word x h
  obtain ⟨m, a, er, _⟩ := Wgh.read_fin x (by omega)
  have e2 : Extern.MathFloor.toIntegral "math.archTrunc" .zero #[.float .f64 x] = pure (.float .f64 (Wgh.wd (Wgh.sgn x) (Wgh.rungOf (Wgh.whole x)))) := by
    rw [er] at e
    rw [← e, archTrunc_entry x _ _ _ er]
    rfl
  rw [e2]
  rfl

set_option maxHeartbeats 400000 in
theorem trunc_any (x : Nat) (w : World) (h : Wgh.rung x ≤ 4845873199050653696) : Calls Try.prog 34 #[.float .f64 x] w fun e w' => e = .returned (.float .f64 (Wgh.wd (Wgh.sgn x) (Wgh.rungOf (Wgh.whole x)))) ∧ w = w' := by
  have h1 := run_archTrunc x h
  go_enter Try.func34, Try.ntmps34
  go_wp2
  go_ret
  exact ⟨rfl, rfl⟩

theorem most_lt (x : Nat) : (FloatKind.f64.format.order (Wgh.rung x) 4845873199050653696 == some .lt) = decide (Wgh.rung x < 4845873199050653696) := by
  rw [Wgh.t_lt]
  unfold Wgh.flt
  rw [Wgh.nan_rung, Wgh.key_of_rung, (Wgh.key_rung 4845873199050653696 (by omega)).1]
  have h2 : Wgh.isNan 4845873199050653696 = false := by unfold Wgh.isNan; rw [(Wgh.key_rung 4845873199050653696 (by omega)).2]; simp
  rw [h2]
  unfold Wgh.isNan
  by_cases h : Wgh.rung x < 4845873199050653696
  · simp [h]; omega
  · simp [h]; omega
theorem most_eq (x : Nat) : (FloatKind.f64.format.order (Wgh.rung x) 4845873199050653696 == some .eq) = decide (Wgh.rung x = 4845873199050653696) := by
  rw [Wgh.t_eq]
  unfold Wgh.feq
  rw [Wgh.nan_rung, Wgh.key_of_rung, (Wgh.key_rung 4845873199050653696 (by omega)).1]
  have h2 : Wgh.isNan 4845873199050653696 = false := by unfold Wgh.isNan; rw [(Wgh.key_rung 4845873199050653696 (by omega)).2]; simp
  rw [h2]
  unfold Wgh.isNan
  by_cases h : Wgh.rung x = 4845873199050653696
  · simp [h]
  · simp [h]; omega

theorem whV_no {x : Nat} (h : Wgh.whB x = false) : Wgh.whV x = 0 := by unfold Wgh.whV; rw [h]; rfl
theorem whV_yes {x : Nat} (h : Wgh.whB x = true) : Wgh.whV x = Wgh.sg (Wgh.sgn x) (Wgh.whole x) := by unfold Wgh.whV; rw [if_pos h]

set_option maxHeartbeats 1000000 in
theorem whole_any (x : Int) (w : World) (h0 : 0 ≤ x) (h1 : x < 18446744073709551616) :
    Calls Try.prog 21 #[.int .u64 x] w fun e w' => e = .returned (.tuple #[.int .i64 (Wgh.whV x.toNat), .bool (Wgh.whB x.toNat)]) ∧ w = w' := by
  have t1 := most_lt x.toNat
  have t2 := most_eq x.toNat
  have hx : x.toNat < 18446744073709551616 := by omega
  by_cases c : Wgh.rung x.toNat ≤ 4845873199050653696
  · have t3 := Wgh.trunc_ne x.toNat c
    have hcv := fun w => run_convert_float_int (P := Try.prog) w 43 2 .f64 .i64 _ _ (by kernel_rfl) Try.underlying2 (Wgh.toInt_whole x.toNat c)
    have hB : Wgh.whB x.toNat = decide (Wgh.val (Wgh.rung x.toNat) % Wgh.unit1 = 0) := by unfold Wgh.whB; rw [decide_eq_true c, Bool.true_and]
    by_cases d : Wgh.val (Wgh.rung x.toNat) % Wgh.unit1 = 0
    · rw [decide_eq_true d] at hB t3
      have hV := whV_yes hB
      rw [hV, hB]
      clear hV hB d
      rcases Nat.lt_or_ge (Wgh.rung x.toNat) 4845873199050653696 with g | g
      · rw [decide_eq_true g] at t1
        rw [decide_eq_false (by omega)] at t2
        have C := Lib.hid c
        clear c g
        go_enter Try.func21, Try.ntmps21
        go_wp2_with (first | (go_at_call 29; refine (number_any _ _).mono ?_; rintro e w' ⟨rfl, rfl⟩) | (go_at_call 31; refine (abs_any _ _ hx).mono ?_; rintro e w' ⟨rfl, rfl⟩) | (go_at_call 34; refine (trunc_any _ _ C.out).mono ?_; rintro e w' ⟨rfl, rfl⟩))
        go_ret2
        exact ⟨rfl, rfl⟩
      · rw [decide_eq_false (by omega)] at t1
        rw [decide_eq_true (by omega)] at t2
        have C := Lib.hid c
        clear c g
        go_enter Try.func21, Try.ntmps21
        go_wp2_with (first | (go_at_call 29; refine (number_any _ _).mono ?_; rintro e w' ⟨rfl, rfl⟩) | (go_at_call 31; refine (abs_any _ _ hx).mono ?_; rintro e w' ⟨rfl, rfl⟩) | (go_at_call 34; refine (trunc_any _ _ C.out).mono ?_; rintro e w' ⟨rfl, rfl⟩))
        go_ret2
        exact ⟨rfl, rfl⟩
    · rw [decide_eq_false d] at hB t3
      have hV := whV_no hB
      rw [hV, hB]
      clear hV hB d hcv
      rcases Nat.lt_or_ge (Wgh.rung x.toNat) 4845873199050653696 with g | g
      · rw [decide_eq_true g] at t1
        rw [decide_eq_false (by omega)] at t2
        have C := Lib.hid c
        clear c g
        go_enter Try.func21, Try.ntmps21
        go_wp2_with (first | (go_at_call 29; refine (number_any _ _).mono ?_; rintro e w' ⟨rfl, rfl⟩) | (go_at_call 31; refine (abs_any _ _ hx).mono ?_; rintro e w' ⟨rfl, rfl⟩) | (go_at_call 34; refine (trunc_any _ _ C.out).mono ?_; rintro e w' ⟨rfl, rfl⟩))
        go_ret2
        exact ⟨rfl, rfl⟩
      · rw [decide_eq_false (by omega)] at t1
        rw [decide_eq_true (by omega)] at t2
        have C := Lib.hid c
        clear c g
        go_enter Try.func21, Try.ntmps21
        go_wp2_with (first | (go_at_call 29; refine (number_any _ _).mono ?_; rintro e w' ⟨rfl, rfl⟩) | (go_at_call 31; refine (abs_any _ _ hx).mono ?_; rintro e w' ⟨rfl, rfl⟩) | (go_at_call 34; refine (trunc_any _ _ C.out).mono ?_; rintro e w' ⟨rfl, rfl⟩))
        go_ret2
        exact ⟨rfl, rfl⟩
  · have hB : Wgh.whB x.toNat = false := by unfold Wgh.whB; rw [decide_eq_false c, Bool.false_and]
    rw [decide_eq_false (by omega)] at t1
    rw [decide_eq_false (by omega)] at t2
    rw [whV_no hB, hB]
    clear hB c
    go_enter Try.func21, Try.ntmps21
    go_wp2_with (first | (go_at_call 29; refine (number_any _ _).mono ?_; rintro e w' ⟨rfl, rfl⟩) | (go_at_call 31; refine (abs_any _ _ hx).mono ?_; rintro e w' ⟨rfl, rfl⟩))
    go_ret2
    exact ⟨rfl, rfl⟩

set_option maxHeartbeats 1000000 in
theorem from_any (n : Int) (w : World) : Calls Try.prog 23 #[.int .i64 n] w fun e w' => e = .returned (.tuple #[.int .u64 (Wgh.fromW n), .int .i64 (Wgh.fromE n)]) ∧ w = w' := by
  have hb := run_bits
  have t : Wgh.outB n = (decide (n < -9007199254740992) || decide (9007199254740992 < n)) := rfl
  by_cases c1 : n < -9007199254740992
  · have e : Wgh.outB n = true := by rw [t]; simp [c1]
    have e1 : Wgh.fromW n = 0 := by unfold Wgh.fromW; rw [if_pos e]
    have e2 : Wgh.fromE n = 3 := by unfold Wgh.fromE; rw [if_pos e]
    rw [e1, e2]
    clear t e e1 e2
    go_enter Try.func23, Try.ntmps23
    go_wp2
    go_ret2
    exact ⟨rfl, rfl⟩
  · by_cases c2 : 9007199254740992 < n
    · have e : Wgh.outB n = true := by rw [t]; simp [c2]
      have e1 : Wgh.fromW n = 0 := by unfold Wgh.fromW; rw [if_pos e]
      have e2 : Wgh.fromE n = 3 := by unfold Wgh.fromE; rw [if_pos e]
      rw [e1, e2]
      clear t e e1 e2
      go_enter Try.func23, Try.ntmps23
      go_wp2
      go_ret2
      exact ⟨rfl, rfl⟩
    · have e : Wgh.outB n = false := by rw [t]; simp; omega
      have e1 := Wgh.of_int n e
      have e2 : Wgh.fromE n = 0 := by unfold Wgh.fromE; rw [e]; rfl
      rw [e2]
      have hcv := fun w => run_convert_int_float (P := Try.prog) w 2 43 .i64 .f64 n (by kernel_rfl) Try.underlying43
      rw [e1] at hcv
      clear t e e1 e2
      go_enter Try.func23, Try.ntmps23
      go_wp2
      go_ret2
      exact ⟨rfl, rfl⟩

end Go.Proofs.Ytpfcdpmpfgdnaaa
