/-
  PROVED HERE: what further small functions of the program and of the document's answer compute (comparisons, clamps, signs, doubles), for every word.
-/
import Derived.Test.YtocjjfjcepflnaaDoorLeaf
namespace Go.Proofs.YtocjjfjcepflnaaDoor
open Go.RowKit

set_option maxHeartbeats 400000 in
theorem parts_any (x : Int) (w : World) (h0 : 0 ≤ x) (h1 : x < 18446744073709551616) : Calls Tryd.prog 41 #[.int .u64 x] w fun e w' =>
    e = .returned (.tuple #[.int .u64 (x / 9223372036854775808), .int .u64 (x / 4503599627370496 % 2048), .int .u64 (x % 4503599627370496)]) ∧ w = w' := by
  go_enter Tryd.func41, Tryd.ntmps41
  go_wp2
  go_ret3
  exact ⟨rfl, rfl⟩

theorem ret_int {k : IntKind} {a b : Int} (h : a = b) : Ending.returned (.int k a) = .returned (.int k b) := by rw [h]

set_option maxHeartbeats 1000000 in
theorem rclass_any (x : Int) (w : World) (h0 : 0 ≤ x) (h1 : x < 18446744073709551616) : Calls Tryd.prog 40 #[.int .u64 x] w fun e w' => e = .returned (.int .i64 (Wgh.cls x.toNat)) ∧ w = w' := by
  have hm0 : 0 ≤ x / 4503599627370496 % 2048 := by omega
  have hf0 : 0 ≤ x % 4503599627370496 := by omega
  go_enter Tryd.func40, Tryd.ntmps40
  go_wp2_with (go_at_call 41; refine (parts_any _ _ h0 h1).mono ?_; rintro e w' ⟨rfl, rfl⟩)
  all_goals
    go_ret
    refine ⟨ret_int ?_, rfl⟩
    unfold Wgh.cls Wgh.rung
    repeat' split
    all_goals omega

set_option maxHeartbeats 1000000 in
theorem compare_any (x y : Int) (w : World) (h0 : 0 ≤ x) (h1 : x < 18446744073709551616) (h2 : 0 ≤ y) (h3 : y < 18446744073709551616) :
    Calls Tryd.prog 53 #[.int .u64 x, .int .u64 y] w fun e w' => e = .returned (.int .i64 (Wgh.cmpW x.toNat y.toNat)) ∧ w = w' := by
  obtain ⟨n, rfl⟩ := Int.eq_ofNat_of_zero_le h0
  obtain ⟨m, rfl⟩ := Int.eq_ofNat_of_zero_le h2
  rw [Int.toNat_natCast, Int.toNat_natCast]
  have t1 := Wgh.t_lt n m
  have t2 := Wgh.t_gt n m
  have t3 := nan_test n
  have t4 := nan_test m
  have t5 := Wgh.t_eq n n
  have t6 := Wgh.t_eq m m
  unfold Wgh.flt at t1 t2
  unfold Wgh.feq at t5 t6
  by_cases cx : Wgh.isNan n = true
  · by_cases cy : Wgh.isNan m = true
    · rw [Wgh.cmpW_nan3 n m cx cy]
      simp only [cx, cy, Bool.not_true, Bool.false_and, Bool.and_false] at t1 t2 t3 t4 t5 t6
      clear h0 h1 h2 h3 cx cy
      go_enter Tryd.func53, Tryd.ntmps53
      go_wp2_with (go_at_call 62; refine (number_any _ _).mono ?_; rintro e w' ⟨rfl, rfl⟩)
      go_ret
      exact ⟨rfl, rfl⟩
    · rw [Bool.not_eq_true] at cy
      rw [Wgh.cmpW_nan1 n m cx cy]
      simp only [cx, cy, Bool.not_true, Bool.not_false, Bool.false_and, Bool.and_false, Bool.true_and, decide_true] at t1 t2 t3 t4 t5 t6
      clear h0 h1 h2 h3 cx cy
      go_enter Tryd.func53, Tryd.ntmps53
      go_wp2_with (go_at_call 62; refine (number_any _ _).mono ?_; rintro e w' ⟨rfl, rfl⟩)
      go_ret
      exact ⟨rfl, rfl⟩
  · rw [Bool.not_eq_true] at cx
    by_cases cy : Wgh.isNan m = true
    · rw [Wgh.cmpW_nan2 n m cx cy]
      simp only [cx, cy, Bool.not_true, Bool.not_false, Bool.false_and, Bool.and_false, Bool.true_and, decide_true] at t1 t2 t3 t4 t5 t6
      clear h0 h1 h2 h3 cx cy
      go_enter Tryd.func53, Tryd.ntmps53
      go_wp2_with (go_at_call 62; refine (number_any _ _).mono ?_; rintro e w' ⟨rfl, rfl⟩)
      go_ret
      exact ⟨rfl, rfl⟩
    · rw [Bool.not_eq_true] at cy
      rw [Wgh.cmpW_nums n m cx cy]
      simp only [cx, cy, Bool.not_false, Bool.true_and, decide_true] at t1 t2 t3 t4 t5 t6
      rcases Int.lt_trichotomy (Wgh.key n) (Wgh.key m) with c | c | c
      · rw [if_pos c]
        rw [decide_eq_true c] at t1
        rw [decide_eq_false (by omega)] at t2
        clear h0 h1 h2 h3 cx cy c
        go_enter Tryd.func53, Tryd.ntmps53
        go_wp2_with (go_at_call 62; refine (number_any _ _).mono ?_; rintro e w' ⟨rfl, rfl⟩)
        go_ret
        exact ⟨rfl, rfl⟩
      · rw [if_neg (by omega), if_neg (by omega)]
        rw [decide_eq_false (by omega)] at t1
        rw [decide_eq_false (by omega)] at t2
        clear h0 h1 h2 h3 cx cy c
        go_enter Tryd.func53, Tryd.ntmps53
        go_wp2_with (go_at_call 62; refine (number_any _ _).mono ?_; rintro e w' ⟨rfl, rfl⟩)
        go_ret
        exact ⟨rfl, rfl⟩
      · rw [if_neg (by omega), if_pos c]
        rw [decide_eq_false (by omega)] at t1
        rw [decide_eq_true c] at t2
        clear h0 h1 h2 h3 cx cy c
        go_enter Tryd.func53, Tryd.ntmps53
        go_wp2_with (go_at_call 62; refine (number_any _ _).mono ?_; rintro e w' ⟨rfl, rfl⟩)
        go_ret
        exact ⟨rfl, rfl⟩

set_option maxHeartbeats 1000000 in
theorem rcompare_any (x y : Int) (w : World) (h0 : 0 ≤ x) (h1 : x < 18446744073709551616) (h2 : 0 ≤ y) (h3 : y < 18446744073709551616) :
    Calls Tryd.prog 29 #[.int .u64 x, .int .u64 y] w fun e w' => e = .returned (.int .i64 (Wgh.cmpW x.toNat y.toNat)) ∧ w = w' := by
  have t1 := Wgh.cls_nan x.toNat
  have t2 := Wgh.cls_nan y.toNat
  by_cases cx : Wgh.isNan x.toNat = true
  · rw [cx] at t1
    have t3 : Wgh.cls x.toNat = 4 := by simpa using t1
    by_cases cy : Wgh.isNan y.toNat = true
    · rw [cy] at t2
      have t4 : Wgh.cls y.toNat = 4 := by simpa using t2
      rw [Wgh.cmpW_nan3 _ _ cx cy]
      clear t1 t2 cx cy
      go_enter Tryd.func29, Tryd.ntmps29
      go_wp2_with (go_at_call 40; refine (rclass_any _ _ (by omega) (by omega)).mono ?_; rintro e w' ⟨rfl, rfl⟩)
      go_ret
      exact ⟨rfl, rfl⟩
    · rw [Bool.not_eq_true] at cy
      rw [cy] at t2
      have t5 : (4 == Wgh.cls y.toNat) = false := by simp at t2 ⊢; omega
      rw [Wgh.cmpW_nan1 _ _ cx cy]
      clear t1 cx cy
      go_enter Tryd.func29, Tryd.ntmps29
      go_wp2_with (go_at_call 40; refine (rclass_any _ _ (by omega) (by omega)).mono ?_; rintro e w' ⟨rfl, rfl⟩)
      go_ret
      exact ⟨rfl, rfl⟩
  · rw [Bool.not_eq_true] at cx
    rw [cx] at t1
    by_cases cy : Wgh.isNan y.toNat = true
    · rw [cy] at t2
      have t4 : Wgh.cls y.toNat = 4 := by simpa using t2
      rw [Wgh.cmpW_nan2 _ _ cx cy]
      clear t2 cx cy
      go_enter Tryd.func29, Tryd.ntmps29
      go_wp2_with (go_at_call 40; refine (rclass_any _ _ (by omega) (by omega)).mono ?_; rintro e w' ⟨rfl, rfl⟩)
      go_ret
      exact ⟨rfl, rfl⟩
    · rw [Bool.not_eq_true] at cy
      rw [cy] at t2
      have H := Lib.hid (And.intro cx cy)
      clear cx cy
      have hs : x / 9223372036854775808 = 0 ∨ x / 9223372036854775808 = 1 := by omega
      have ht : y / 9223372036854775808 = 0 ∨ y / 9223372036854775808 = 1 := by omega
      rcases hs with hs | hs <;> rcases ht with ht | ht <;> rcases Int.lt_trichotomy (x % 9223372036854775808) (y % 9223372036854775808) with c | c | c
      all_goals
        go_enter Tryd.func29, Tryd.ntmps29
        go_wp2_with (first | (go_at_call 40; refine (rclass_any _ _ (by omega) (by omega)).mono ?_; rintro e w' ⟨rfl, rfl⟩) | (go_at_call 41; refine (parts_any _ _ (by omega) (by omega)).mono ?_; rintro e w' ⟨rfl, rfl⟩))
        all_goals
          go_ret
          refine ⟨ret_int ?_, rfl⟩
          clear t1 t2
          rw [Wgh.cmpW_nums _ _ H.out.1 H.out.2, Wgh.key_int _ (by omega), Wgh.key_int _ (by omega)]
          clear H
          obtain ⟨n, rfl⟩ := Int.eq_ofNat_of_zero_le h0
          obtain ⟨m, rfl⟩ := Int.eq_ofNat_of_zero_le h2
          simp only [Int.toNat_natCast]
          repeat' split
          all_goals first | omega | (simp at *; omega)

end Go.Proofs.YtocjjfjcepflnaaDoor
