/-
  PROVED HERE: awake() of the statements of layer 17 answers true, and leaves what was there.
-/
import Derived.Test.YtpfcdpmpfgdnaaaLeast
import Derived.Test.YtpfcdpmpfgdnaaaLeaf6
namespace Go.Proofs.Ytpfcdpmpfgdnaaa
open Go.RowKit Go.Sort

/-- The four words that awake orders. -/
def aw4 (k : Nat) : Nat := if k = 0 then 9221120237041090560 else if k = 1 then 4607182418800017408 else if k = 2 then 13826050856027422720 else 18442240474082181120
def aw2 (k : Nat) : Nat := if k = 0 then 4607182418800017408 else 13826050856027422720
theorem aw4_lt (k : Nat) : aw4 k < 18446744073709551616 := by
  unfold aw4
  repeat' split
  all_goals omega
theorem aw2_lt (k : Nat) : aw2 k < 18446744073709551616 := by unfold aw2; split <;> omega
theorem ord_aw4 : ordL aw4 4 = [3, 2, 1, 0] := by decide +kernel
theorem least_aw2 : leastI aw2 2 = 1 := by decide +kernel

theorem cls_a : Wgh.cls 9221120237041090560 = 4 ∧ Wgh.cls 18442240474082181120 = 3 ∧ Wgh.cls 4607182418800017408 = 2 ∧ Wgh.cls 1 = 1 ∧ Wgh.cls 9223372036854775808 = 0 := by decide +kernel
theorem cmp_a : Wgh.cmpW 9223372036854775808 0 = 0 ∧ Wgh.cmpW 18442240474082181120 13826050856027422720 = -1 ∧ Wgh.cmpW 9221120237041090560 4607182418800017408 = 1 ∧ Wgh.cmpW 9221120237041090560 9221120237041090561 = 0 := by decide +kernel
theorem clamp_a : Wgh.clampW 4607182418800017408 18442240474082181120 13826050856027422720 = 13826050856027422720 := by decide +kernel
theorem turn_a : Wgh.turnW 4607182418800017408 = 13830554455654793216 := by decide +kernel
theorem two_a : Wgh.twoW 1 = 2 ∧ Wgh.twoW 13826050856027422720 = 13830554455654793216 := by decide +kernel
theorem from_a : Wgh.fromW 1 = 4607182418800017408 ∧ Wgh.fromE 1 = 0 ∧ Wgh.fromE 9007199254740993 = 3 := by decide +kernel

theorem whole_a : Wgh.whV 4607182418800017408 = 1 ∧ Wgh.whB 4607182418800017408 = true ∧ Wgh.whV 13826050856027422720 = 0 ∧ Wgh.whB 13826050856027422720 = false := by decide +kernel

theorem a_c1 (w : World) : Calls Try.prog 11 #[.int .u64 9221120237041090560] w fun e w' => e = .returned (.int .i64 4) ∧ w = w' := (class_any 9221120237041090560 w (by omega) (by omega)).mono fun e w' h => ⟨h.1.trans (ret_int cls_a.1), h.2⟩
theorem a_c2 (w : World) : Calls Try.prog 11 #[.int .u64 18442240474082181120] w fun e w' => e = .returned (.int .i64 3) ∧ w = w' := (class_any 18442240474082181120 w (by omega) (by omega)).mono fun e w' h => ⟨h.1.trans (ret_int cls_a.2.1), h.2⟩
theorem a_c3 (w : World) : Calls Try.prog 11 #[.int .u64 4607182418800017408] w fun e w' => e = .returned (.int .i64 2) ∧ w = w' := (class_any 4607182418800017408 w (by omega) (by omega)).mono fun e w' h => ⟨h.1.trans (ret_int cls_a.2.2.1), h.2⟩
theorem a_c4 (w : World) : Calls Try.prog 11 #[.int .u64 1] w fun e w' => e = .returned (.int .i64 1) ∧ w = w' := (class_any 1 w (by omega) (by omega)).mono fun e w' h => ⟨h.1.trans (ret_int cls_a.2.2.2.1), h.2⟩
theorem a_c5 (w : World) : Calls Try.prog 11 #[.int .u64 9223372036854775808] w fun e w' => e = .returned (.int .i64 0) ∧ w = w' := (class_any 9223372036854775808 w (by omega) (by omega)).mono fun e w' h => ⟨h.1.trans (ret_int cls_a.2.2.2.2), h.2⟩
theorem a_m1 (w : World) : Calls Try.prog 13 #[.int .u64 9223372036854775808, .int .u64 0] w fun e w' => e = .returned (.int .i64 0) ∧ w = w' := (compare_any 9223372036854775808 0 w (by omega) (by omega) (by omega) (by omega)).mono fun e w' h => ⟨h.1.trans (ret_int cmp_a.1), h.2⟩
theorem a_m2 (w : World) : Calls Try.prog 13 #[.int .u64 18442240474082181120, .int .u64 13826050856027422720] w fun e w' => e = .returned (.int .i64 (-1)) ∧ w = w' := (compare_any 18442240474082181120 13826050856027422720 w (by omega) (by omega) (by omega) (by omega)).mono fun e w' h => ⟨h.1.trans (ret_int cmp_a.2.1), h.2⟩
theorem a_m3 (w : World) : Calls Try.prog 13 #[.int .u64 9221120237041090560, .int .u64 4607182418800017408] w fun e w' => e = .returned (.int .i64 1) ∧ w = w' := (compare_any 9221120237041090560 4607182418800017408 w (by omega) (by omega) (by omega) (by omega)).mono fun e w' h => ⟨h.1.trans (ret_int cmp_a.2.2.1), h.2⟩
theorem a_m4 (w : World) : Calls Try.prog 13 #[.int .u64 9221120237041090560, .int .u64 9221120237041090561] w fun e w' => e = .returned (.int .i64 0) ∧ w = w' := (compare_any 9221120237041090560 9221120237041090561 w (by omega) (by omega) (by omega) (by omega)).mono fun e w' h => ⟨h.1.trans (ret_int cmp_a.2.2.2), h.2⟩
theorem a_cl (w : World) : Calls Try.prog 15 #[.int .u64 4607182418800017408, .int .u64 18442240474082181120, .int .u64 13826050856027422720] w fun e w' => e = .returned (.int .u64 13826050856027422720) ∧ w = w' :=
  (clamp_any 4607182418800017408 18442240474082181120 13826050856027422720 w (by omega) (by omega) (by omega) (by omega) (by omega) (by omega)).mono fun e w' h => ⟨h.1.trans (ret_int (congrArg Nat.cast clamp_a)), h.2⟩
theorem a_tu (w : World) : Calls Try.prog 17 #[.int .u64 4607182418800017408] w fun e w' => e = .returned (.int .u64 13830554455654793216) ∧ w = w' := (turned_any 4607182418800017408 w (by omega) (by omega)).mono fun e w' h => ⟨h.1.trans (ret_int (congrArg Nat.cast turn_a)), h.2⟩
theorem a_t1 (w : World) : Calls Try.prog 19 #[.int .u64 1] w fun e w' => e = .returned (.int .u64 2) ∧ w = w' := (twice_any 1 w (by omega) (by omega)).mono fun e w' h => ⟨h.1.trans (ret_int (congrArg Nat.cast two_a.1)), h.2⟩
theorem a_t2 (w : World) : Calls Try.prog 19 #[.int .u64 13826050856027422720] w fun e w' => e = .returned (.int .u64 13830554455654793216) ∧ w = w' := (twice_any 13826050856027422720 w (by omega) (by omega)).mono fun e w' h => ⟨h.1.trans (ret_int (congrArg Nat.cast two_a.2)), h.2⟩
theorem ret_vb {k : IntKind} {a b : Int} {x y : Bool} (h : a = b) (g : x = y) : Ending.returned (.tuple #[.int k a, .bool x]) = .returned (.tuple #[.int k b, .bool y]) := by rw [h, g]
theorem ret_vv {k l : IntKind} {a b c d : Int} (h : a = b) (g : c = d) : Ending.returned (.tuple #[.int k a, .int l c]) = .returned (.tuple #[.int k b, .int l d]) := by rw [h, g]
theorem a_w1 (w : World) : Calls Try.prog 21 #[.int .u64 4607182418800017408] w fun e w' => e = .returned (.tuple #[.int .i64 1, .bool true]) ∧ w = w' := (whole_any 4607182418800017408 w (by omega) (by omega)).mono fun e w' h => ⟨h.1.trans (ret_vb whole_a.1 whole_a.2.1), h.2⟩
theorem a_w2 (w : World) : Calls Try.prog 21 #[.int .u64 13826050856027422720] w fun e w' => e = .returned (.tuple #[.int .i64 0, .bool false]) ∧ w = w' := (whole_any 13826050856027422720 w (by omega) (by omega)).mono fun e w' h => ⟨h.1.trans (ret_vb whole_a.2.2.1 whole_a.2.2.2), h.2⟩
theorem a_f1 (w : World) : Calls Try.prog 23 #[.int .i64 1] w fun e w' => e = .returned (.tuple #[.int .u64 4607182418800017408, .int .i64 0]) ∧ w = w' := (from_any 1 w).mono fun _ _ h => ⟨h.1.trans (ret_vv (congrArg Nat.cast from_a.1) from_a.2.1), h.2⟩
theorem a_f2 (w : World) : Calls Try.prog 23 #[.int .i64 9007199254740993] w fun e w' => e = .returned (.tuple #[.int .u64 0, .int .i64 3]) ∧ w = w' := (from_any 9007199254740993 w).mono fun e w' h => ⟨h.1.trans (ret_vv (by decide +kernel) from_a.2.2), h.2⟩
theorem a_l0 (w : World) : Calls Try.prog 27 #[.slice none 0 0] w fun e w' => e = .returned (.int .i64 (-1)) ∧ w = w' := least_none none 0 w

theorem a_or (w : World) : Calls Try.prog 25 #[.slice (some ⟨w.heap.size, 0, none⟩) 4 4] (w.alloc (.cells #[.int .u64 9221120237041090560, .int .u64 4607182418800017408, .int .u64 13826050856027422720, .int .u64 18442240474082181120] 22)) fun e w' =>
    ∃ g cap, e = .returned (.slice (some ⟨g, 0, none⟩) 4 cap) ∧ w'.cell? ⟨g, 0, none⟩ = some (.int .i64 3) ∧ w'.cell? ⟨g, 3, none⟩ = some (.int .i64 0) ∧ Below w.heap.size w w' := by
  refine (order_some aw4 aw4_lt w.heap.size 0 4 4 _ (by omega) (by omega) (by simp) ?_).mono ?_
  · intro k hk
    have : k = 0 ∨ k = 1 ∨ k = 2 ∨ k = 3 := by omega
    rcases this with rfl | rfl | rfl | rfl <;> (simp; rfl)
  · rintro e w' ⟨g, cap, h1, h2, h3, h4⟩
    have e0 := h3 0 (by omega)
    have e3 := h3 3 (by omega)
    rw [ord_aw4] at e0 e3
    exact ⟨g, cap, h1, e0, e3, ((Below.refl _ _).alloc (Nat.le_refl _) _).trans (h4.mono (by simp))⟩
theorem a_le (w : World) : Calls Try.prog 27 #[.slice (some ⟨w.heap.size, 0, none⟩) 2 2] (w.alloc (.cells #[.int .u64 4607182418800017408, .int .u64 13826050856027422720] 22)) fun e w' =>
    e = .returned (.int .i64 1) ∧ w.alloc (.cells #[.int .u64 4607182418800017408, .int .u64 13826050856027422720] 22) = w' := by
  refine (least_some aw2 aw2_lt w.heap.size 0 2 2 _ (by omega) (by omega) ?_).mono ?_
  · intro k hk
    have : k = 0 ∨ k = 1 := by omega
    rcases this with rfl | rfl <;> (simp; rfl)
  · rintro e w' ⟨h1, h2⟩
    exact ⟨h1.trans (ret_int least_aw2), h2⟩

set_option maxRecDepth 100000 in
set_option maxHeartbeats 2000000 in
theorem awake_any (w : World) : Calls Try.prog 10 #[] w fun e w' => e = .returned (.bool true) ∧ Below w.heap.size w w' := by
  go_enter Try.func10, Try.ntmps10
  go_wp2_with fail
  refine (a_or _).mono ?_
  rintro e w1 ⟨g, cap, rfl, hc0, hc3, hb⟩
  have HB := Lib.hid hb
  clear hb
  go_wp2_with fail
  refine (a_w1 _).mono ?_
  rintro e w' ⟨rfl, rfl⟩
  go_wp2_with fail
  refine (a_w2 _).mono ?_
  rintro e w' ⟨rfl, rfl⟩
  go_wp2_with fail
  refine (a_f1 _).mono ?_
  rintro e w' ⟨rfl, rfl⟩
  go_wp2_with fail
  refine (a_f2 _).mono ?_
  rintro e w' ⟨rfl, rfl⟩
  go_wp2_with fail
  refine (a_c1 _).mono ?_
  rintro e w' ⟨rfl, rfl⟩
  go_wp2_with fail
  refine (a_c2 _).mono ?_
  rintro e w' ⟨rfl, rfl⟩
  go_wp2_with fail
  refine (a_c3 _).mono ?_
  rintro e w' ⟨rfl, rfl⟩
  go_wp2_with fail
  refine (a_c4 _).mono ?_
  rintro e w' ⟨rfl, rfl⟩
  go_wp2_with fail
  refine (a_c5 _).mono ?_
  rintro e w' ⟨rfl, rfl⟩
  go_wp2_with fail
  refine (a_m1 _).mono ?_
  rintro e w' ⟨rfl, rfl⟩
  go_wp2_with fail
  refine (a_m2 _).mono ?_
  rintro e w' ⟨rfl, rfl⟩
  go_wp2_with fail
  refine (a_m3 _).mono ?_
  rintro e w' ⟨rfl, rfl⟩
  go_wp2_with fail
  refine (a_m4 _).mono ?_
  rintro e w' ⟨rfl, rfl⟩
  go_wp2_with fail
  refine (a_le _).mono ?_
  rintro e w' ⟨rfl, rfl⟩
  go_wp2_with fail
  refine (a_l0 _).mono ?_
  rintro e w' ⟨rfl, rfl⟩
  go_wp2_with fail
  refine (a_cl _).mono ?_
  rintro e w' ⟨rfl, rfl⟩
  go_wp2_with fail
  refine (a_tu _).mono ?_
  rintro e w' ⟨rfl, rfl⟩
  go_wp2_with fail
  refine (a_t1 _).mono ?_
  rintro e w' ⟨rfl, rfl⟩
  go_wp2_with fail
  refine (a_t2 _).mono ?_
  rintro e w' ⟨rfl, rfl⟩
  go_wp2_with fail
  go_ret
  exact ⟨rfl, HB.out.alloc HB.out.size _⟩

theorem wf_u64 {a : Int} (h : (Lit.int .u64 a).wf = true) : 0 ≤ a ∧ a < 18446744073709551616 := by
  have e1 : IntKind.u64.min = 0 := by decide
  have e2 : IntKind.u64.max = 18446744073709551615 := by decide
  simp [Lit.wf, e1, e2] at h
  omega
theorem wf_i64 {a : Int} (h : (Lit.int .i64 a).wf = true) : -9223372036854775808 ≤ a ∧ a < 9223372036854775808 := by
  have e1 : IntKind.i64.min = -9223372036854775808 := by decide
  have e2 : IntKind.i64.max = 9223372036854775807 := by decide
  simp [Lit.wf, e1, e2] at h
  omega

end Go.Proofs.Ytpfcdpmpfgdnaaa
