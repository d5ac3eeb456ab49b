/-
  PROVED HERE: the statement WeighBack of layer 17: for every input, no condition.
  The shell round the walk was written by the kit's program proof-skeleton.mjs.
-/
import Derived.Test.YtpfcdpmpfgdnaaaRows
import Derived.Test.YtpfcdpmpfgdnaaaAwake
import Derived.Test.YtpfcdpmpfgdnaaaLeaf6
import Derived.Test.YtpfcdpmpfgdnaaaFacts2
import Derived.WalkKit
import Derived.ProofKit
import Derived.OpenShut
import Derived.ShutString
import Derived.Below
namespace Go.Proofs.Ytpfcdpmpfgdnaaa.weighBack
open Go.ChangeShapes Go.WideShapes Go.ChangeAt Go.RowKit
open Go.ChangeMaps (open_string shut_string)
set_option linter.unusedVariables false      -- a walk need not use every 'w<i>' (that an integer argument fits its kind)

theorem own : ownKnob Try.prog.godebug = none := by kernel_rfl

/-! The walk. -/
set_option maxRecDepth 100000 in
set_option maxHeartbeats 8000000 in
theorem walk (a0 : Int) (a1 : Int) (a2 : Int) (w0 : (Lit.int .i64 a0).wf = true) (w1 : (Lit.int .i64 a1).wf = true) (w2 : (Lit.int .u64 a2).wf = true) (w : World) :
    Calls Try.prog 9 #[.int .i64 a0, .int .i64 a1, .int .u64 a2] w fun e w' => e = .returned (.bool true) ∧ Below w.heap.size w w' := by
  obtain ⟨p2, q2⟩ := wf_u64 w2
  obtain ⟨n1, n2⟩ := wf_i64 w0
  clear w0 w1 w2
  have kn : ∀ W, Calls Try.prog 23 #[.int .i64 a0] W fun e w' => e = .returned (.tuple #[.int .u64 ((Wgh.fromW a0 : Nat) : Int), .int .i64 (Wgh.fromE a0)]) ∧ W = w' := fun W => from_any a0 W
  have km : ∀ W, Calls Try.prog 23 #[.int .i64 a1] W fun e w' => e = .returned (.tuple #[.int .u64 ((Wgh.fromW a1 : Nat) : Int), .int .i64 (Wgh.fromE a1)]) ∧ W = w' := fun W => from_any a1 W
  have kx : ∀ W, Calls Try.prog 21 #[.int .u64 a2] W fun e w' => e = .returned (.tuple #[.int .i64 (Wgh.whV a2.toNat), .bool (Wgh.whB a2.toNat)]) ∧ W = w' := fun W => whole_any a2 W p2 q2
  have ky : ∀ W, Calls Try.prog 23 #[.int .i64 (Wgh.whV a2.toNat)] W fun e w' => e = .returned (.tuple #[.int .u64 ((Wgh.fromW (Wgh.whV a2.toNat) : Nat) : Int), .int .i64 (Wgh.fromE (Wgh.whV a2.toNat))]) ∧ W = w' := fun W => from_any _ W
  have k2 : ∀ W, Calls Try.prog 23 #[.int .i64 (2 * a0)] W fun e w' => e = .returned (.tuple #[.int .u64 ((Wgh.fromW (2 * a0) : Nat) : Int), .int .i64 (Wgh.fromE (2 * a0))]) ∧ W = w' := fun W => from_any (2 * a0) W
  have kw : ∀ W, Calls Try.prog 21 #[.int .u64 ((Wgh.fromW a0 : Nat) : Int)] W fun e w' => e = .returned (.tuple #[.int .i64 (Wgh.whV (Wgh.fromW a0)), .bool (Wgh.whB (Wgh.fromW a0))]) ∧ W = w' := fun W =>
    (whole_any _ W (by omega) (by have := from_lt64 a0; omega)).mono fun e w' h => ⟨h.1.trans (ret_vb (by rw [Int.toNat_natCast]) (by rw [Int.toNat_natCast])), h.2⟩
  have kc : ∀ W, Calls Try.prog 13 #[.int .u64 ((Wgh.fromW a0 : Nat) : Int), .int .u64 ((Wgh.fromW a1 : Nat) : Int)] W fun e w' => e = .returned (.int .i64 (Wgh.cmpW (Wgh.fromW a0) (Wgh.fromW a1))) ∧ W = w' := fun W =>
    (compare_any _ _ W (by omega) (by have := from_lt64 a0; omega) (by omega) (by have := from_lt64 a1; omega)).mono fun e w' h => ⟨h.1.trans (ret_int (by rw [Int.toNat_natCast, Int.toNat_natCast])), h.2⟩
  have kt : ∀ W, Calls Try.prog 19 #[.int .u64 ((Wgh.fromW a0 : Nat) : Int)] W fun e w' => e = .returned (.int .u64 ((Wgh.twoW (Wgh.fromW a0) : Nat) : Int)) ∧ W = w' := fun W =>
    (twice_any _ W (by omega) (by have := from_lt64 a0; omega)).mono fun e w' h => ⟨h.1.trans (ret_int (by rw [Int.toNat_natCast])), h.2⟩
  have KN := Lib.hid kn
  have KM := Lib.hid km
  have KX := Lib.hid kx
  have KY := Lib.hid ky
  have K2 := Lib.hid k2
  have KW := Lib.hid kw
  have KC := Lib.hid kc
  have KT := Lib.hid kt
  clear kn km kx ky k2 kw kc kt
  have on : Wgh.outB a0 = (decide (a0 < -9007199254740992) || decide (9007199254740992 < a0)) := rfl
  have hback : Wgh.whB a2.toNat = true → Wgh.outB (Wgh.whV a2.toNat) = false ∧ (((Wgh.fromW (Wgh.whV a2.toNat) : Nat) : Int) = a2 ∨ Wgh.whV a2.toNat = 0 ∧ a2 = 9223372036854775808) := fun h => by
    obtain ⟨h1, h2⟩ := back_from (x := a2.toNat) (by omega) h
    refine ⟨h1, ?_⟩
    rcases h2 with h2 | h2
    · left; rw [h2]; omega
    · right; exact ⟨h2.1, by omega⟩
  have HBK := Lib.hid hback
  clear hback
  by_cases c1 : a0 < -9007199254740992
  · have e1 : Wgh.fromE a0 = 3 := by unfold Wgh.fromE; rw [on]; simp [c1]
    clear on
    cases cx : Wgh.whB a2.toNat with
    | false =>
      have vx := whV_no cx
      go_enter Try.func9, Try.ntmps9
      go_wp2_with (first
        | (go_at_call 10; refine (awake_any _).mono ?_; rintro e w1 ⟨rfl, hb⟩; have HB := Lib.hid hb; clear hb)
        | (go_at_call 23; ((with_reducible refine Calls.mono (KN.out _) ?_); rintro e w' ⟨rfl, rfl⟩))
        | (go_at_call 23; ((with_reducible refine Calls.mono (KM.out _) ?_); rintro e w' ⟨rfl, rfl⟩))
        | (go_at_call 23; ((with_reducible refine Calls.mono (K2.out _) ?_); rintro e w' ⟨rfl, rfl⟩))
        | (go_at_call 23; ((with_reducible refine Calls.mono (KY.out _) ?_); rintro e w' ⟨rfl, rfl⟩))
        | (go_at_call 21; ((with_reducible refine Calls.mono (KX.out _) ?_); rintro e w' ⟨rfl, rfl⟩))
        | (go_at_call 21; ((with_reducible refine Calls.mono (KW.out _) ?_); rintro e w' ⟨rfl, rfl⟩))
        | (go_at_call 13; ((with_reducible refine Calls.mono (KC.out _) ?_); rintro e w' ⟨rfl, rfl⟩))
        | (go_at_call 19; ((with_reducible refine Calls.mono (KT.out _) ?_); rintro e w' ⟨rfl, rfl⟩)))
      go_ret
      exact ⟨rfl, HB.out⟩
    | true =>
      obtain ⟨ox, hx⟩ := HBK.out cx
      have ex : Wgh.fromE (Wgh.whV a2.toNat) = 0 := fromE_in ox
      clear ox
      rcases hx with hx | ⟨hx, hx2⟩
      · have hx' : (((Wgh.fromW (Wgh.whV a2.toNat) : Nat) : Int) == a2) = true := by rw [hx]; simp
        clear hx
        go_enter Try.func9, Try.ntmps9
        go_wp2_with (first
          | (go_at_call 10; refine (awake_any _).mono ?_; rintro e w1 ⟨rfl, hb⟩; have HB := Lib.hid hb; clear hb)
          | (go_at_call 23; ((with_reducible refine Calls.mono (KN.out _) ?_); rintro e w' ⟨rfl, rfl⟩))
          | (go_at_call 23; ((with_reducible refine Calls.mono (KM.out _) ?_); rintro e w' ⟨rfl, rfl⟩))
          | (go_at_call 23; ((with_reducible refine Calls.mono (K2.out _) ?_); rintro e w' ⟨rfl, rfl⟩))
          | (go_at_call 23; ((with_reducible refine Calls.mono (KY.out _) ?_); rintro e w' ⟨rfl, rfl⟩))
          | (go_at_call 21; ((with_reducible refine Calls.mono (KX.out _) ?_); rintro e w' ⟨rfl, rfl⟩))
          | (go_at_call 21; ((with_reducible refine Calls.mono (KW.out _) ?_); rintro e w' ⟨rfl, rfl⟩))
          | (go_at_call 13; ((with_reducible refine Calls.mono (KC.out _) ?_); rintro e w' ⟨rfl, rfl⟩))
          | (go_at_call 19; ((with_reducible refine Calls.mono (KT.out _) ?_); rintro e w' ⟨rfl, rfl⟩)))
        go_ret
        exact ⟨rfl, HB.out⟩
      · have hx3 : (((Wgh.fromW (Wgh.whV a2.toNat) : Nat) : Int) == a2) = false := by rw [hx, hx2]; rfl
        have hx4 : (Wgh.whV a2.toNat == 0) = true := by rw [hx]; rfl
        have hx5 : (a2 == 9223372036854775808) = true := by rw [hx2]; rfl
        clear hx hx2
        go_enter Try.func9, Try.ntmps9
        go_wp2_with (first
          | (go_at_call 10; refine (awake_any _).mono ?_; rintro e w1 ⟨rfl, hb⟩; have HB := Lib.hid hb; clear hb)
          | (go_at_call 23; ((with_reducible refine Calls.mono (KN.out _) ?_); rintro e w' ⟨rfl, rfl⟩))
          | (go_at_call 23; ((with_reducible refine Calls.mono (KM.out _) ?_); rintro e w' ⟨rfl, rfl⟩))
          | (go_at_call 23; ((with_reducible refine Calls.mono (K2.out _) ?_); rintro e w' ⟨rfl, rfl⟩))
          | (go_at_call 23; ((with_reducible refine Calls.mono (KY.out _) ?_); rintro e w' ⟨rfl, rfl⟩))
          | (go_at_call 21; ((with_reducible refine Calls.mono (KX.out _) ?_); rintro e w' ⟨rfl, rfl⟩))
          | (go_at_call 21; ((with_reducible refine Calls.mono (KW.out _) ?_); rintro e w' ⟨rfl, rfl⟩))
          | (go_at_call 13; ((with_reducible refine Calls.mono (KC.out _) ?_); rintro e w' ⟨rfl, rfl⟩))
          | (go_at_call 19; ((with_reducible refine Calls.mono (KT.out _) ?_); rintro e w' ⟨rfl, rfl⟩)))
        go_ret
        exact ⟨rfl, HB.out⟩
  by_cases c2 : 9007199254740992 < a0
  · have e1 : Wgh.fromE a0 = 3 := by unfold Wgh.fromE; rw [on]; simp [c2]
    clear on
    cases cx : Wgh.whB a2.toNat with
    | false =>
      have vx := whV_no cx
      go_enter Try.func9, Try.ntmps9
      go_wp2_with (first
        | (go_at_call 10; refine (awake_any _).mono ?_; rintro e w1 ⟨rfl, hb⟩; have HB := Lib.hid hb; clear hb)
        | (go_at_call 23; ((with_reducible refine Calls.mono (KN.out _) ?_); rintro e w' ⟨rfl, rfl⟩))
        | (go_at_call 23; ((with_reducible refine Calls.mono (KM.out _) ?_); rintro e w' ⟨rfl, rfl⟩))
        | (go_at_call 23; ((with_reducible refine Calls.mono (K2.out _) ?_); rintro e w' ⟨rfl, rfl⟩))
        | (go_at_call 23; ((with_reducible refine Calls.mono (KY.out _) ?_); rintro e w' ⟨rfl, rfl⟩))
        | (go_at_call 21; ((with_reducible refine Calls.mono (KX.out _) ?_); rintro e w' ⟨rfl, rfl⟩))
        | (go_at_call 21; ((with_reducible refine Calls.mono (KW.out _) ?_); rintro e w' ⟨rfl, rfl⟩))
        | (go_at_call 13; ((with_reducible refine Calls.mono (KC.out _) ?_); rintro e w' ⟨rfl, rfl⟩))
        | (go_at_call 19; ((with_reducible refine Calls.mono (KT.out _) ?_); rintro e w' ⟨rfl, rfl⟩)))
      go_ret
      exact ⟨rfl, HB.out⟩
    | true =>
      obtain ⟨ox, hx⟩ := HBK.out cx
      have ex : Wgh.fromE (Wgh.whV a2.toNat) = 0 := fromE_in ox
      clear ox
      rcases hx with hx | ⟨hx, hx2⟩
      · have hx' : (((Wgh.fromW (Wgh.whV a2.toNat) : Nat) : Int) == a2) = true := by rw [hx]; simp
        clear hx
        go_enter Try.func9, Try.ntmps9
        go_wp2_with (first
          | (go_at_call 10; refine (awake_any _).mono ?_; rintro e w1 ⟨rfl, hb⟩; have HB := Lib.hid hb; clear hb)
          | (go_at_call 23; ((with_reducible refine Calls.mono (KN.out _) ?_); rintro e w' ⟨rfl, rfl⟩))
          | (go_at_call 23; ((with_reducible refine Calls.mono (KM.out _) ?_); rintro e w' ⟨rfl, rfl⟩))
          | (go_at_call 23; ((with_reducible refine Calls.mono (K2.out _) ?_); rintro e w' ⟨rfl, rfl⟩))
          | (go_at_call 23; ((with_reducible refine Calls.mono (KY.out _) ?_); rintro e w' ⟨rfl, rfl⟩))
          | (go_at_call 21; ((with_reducible refine Calls.mono (KX.out _) ?_); rintro e w' ⟨rfl, rfl⟩))
          | (go_at_call 21; ((with_reducible refine Calls.mono (KW.out _) ?_); rintro e w' ⟨rfl, rfl⟩))
          | (go_at_call 13; ((with_reducible refine Calls.mono (KC.out _) ?_); rintro e w' ⟨rfl, rfl⟩))
          | (go_at_call 19; ((with_reducible refine Calls.mono (KT.out _) ?_); rintro e w' ⟨rfl, rfl⟩)))
        go_ret
        exact ⟨rfl, HB.out⟩
      · have hx3 : (((Wgh.fromW (Wgh.whV a2.toNat) : Nat) : Int) == a2) = false := by rw [hx, hx2]; rfl
        have hx4 : (Wgh.whV a2.toNat == 0) = true := by rw [hx]; rfl
        have hx5 : (a2 == 9223372036854775808) = true := by rw [hx2]; rfl
        clear hx hx2
        go_enter Try.func9, Try.ntmps9
        go_wp2_with (first
          | (go_at_call 10; refine (awake_any _).mono ?_; rintro e w1 ⟨rfl, hb⟩; have HB := Lib.hid hb; clear hb)
          | (go_at_call 23; ((with_reducible refine Calls.mono (KN.out _) ?_); rintro e w' ⟨rfl, rfl⟩))
          | (go_at_call 23; ((with_reducible refine Calls.mono (KM.out _) ?_); rintro e w' ⟨rfl, rfl⟩))
          | (go_at_call 23; ((with_reducible refine Calls.mono (K2.out _) ?_); rintro e w' ⟨rfl, rfl⟩))
          | (go_at_call 23; ((with_reducible refine Calls.mono (KY.out _) ?_); rintro e w' ⟨rfl, rfl⟩))
          | (go_at_call 21; ((with_reducible refine Calls.mono (KX.out _) ?_); rintro e w' ⟨rfl, rfl⟩))
          | (go_at_call 21; ((with_reducible refine Calls.mono (KW.out _) ?_); rintro e w' ⟨rfl, rfl⟩))
          | (go_at_call 13; ((with_reducible refine Calls.mono (KC.out _) ?_); rintro e w' ⟨rfl, rfl⟩))
          | (go_at_call 19; ((with_reducible refine Calls.mono (KT.out _) ?_); rintro e w' ⟨rfl, rfl⟩)))
        go_ret
        exact ⟨rfl, HB.out⟩
  have o1 : Wgh.outB a0 = false := by rw [on]; simp; omega
  have e1 : Wgh.fromE a0 = 0 := fromE_in o1
  obtain ⟨g1, g2⟩ := whole_from o1
  clear on
  cases cm : Wgh.outB a1 with
  | true =>
    have e2 : Wgh.fromE a1 = 3 := by unfold Wgh.fromE; rw [if_pos cm]
    clear cm
    by_cases c3 : a0 = 0
    · have c3' : (a0 != 0) = false := by simp [c3]
      have e3 : Wgh.fromE (2 * a0) = 0 := by rw [c3]; rfl
      clear c3 o1
      cases cx : Wgh.whB a2.toNat with
      | false =>
        have vx := whV_no cx
        go_enter Try.func9, Try.ntmps9
        go_wp2_with (first
          | (go_at_call 10; refine (awake_any _).mono ?_; rintro e w1 ⟨rfl, hb⟩; have HB := Lib.hid hb; clear hb)
          | (go_at_call 23; ((with_reducible refine Calls.mono (KN.out _) ?_); rintro e w' ⟨rfl, rfl⟩))
          | (go_at_call 23; ((with_reducible refine Calls.mono (KM.out _) ?_); rintro e w' ⟨rfl, rfl⟩))
          | (go_at_call 23; ((with_reducible refine Calls.mono (K2.out _) ?_); rintro e w' ⟨rfl, rfl⟩))
          | (go_at_call 23; ((with_reducible refine Calls.mono (KY.out _) ?_); rintro e w' ⟨rfl, rfl⟩))
          | (go_at_call 21; ((with_reducible refine Calls.mono (KX.out _) ?_); rintro e w' ⟨rfl, rfl⟩))
          | (go_at_call 21; ((with_reducible refine Calls.mono (KW.out _) ?_); rintro e w' ⟨rfl, rfl⟩))
          | (go_at_call 13; ((with_reducible refine Calls.mono (KC.out _) ?_); rintro e w' ⟨rfl, rfl⟩))
          | (go_at_call 19; ((with_reducible refine Calls.mono (KT.out _) ?_); rintro e w' ⟨rfl, rfl⟩)))
        go_ret
        exact ⟨rfl, HB.out⟩
      | true =>
        obtain ⟨ox, hx⟩ := HBK.out cx
        have ex : Wgh.fromE (Wgh.whV a2.toNat) = 0 := fromE_in ox
        clear ox
        rcases hx with hx | ⟨hx, hx2⟩
        · have hx' : (((Wgh.fromW (Wgh.whV a2.toNat) : Nat) : Int) == a2) = true := by rw [hx]; simp
          clear hx
          go_enter Try.func9, Try.ntmps9
          go_wp2_with (first
            | (go_at_call 10; refine (awake_any _).mono ?_; rintro e w1 ⟨rfl, hb⟩; have HB := Lib.hid hb; clear hb)
            | (go_at_call 23; ((with_reducible refine Calls.mono (KN.out _) ?_); rintro e w' ⟨rfl, rfl⟩))
            | (go_at_call 23; ((with_reducible refine Calls.mono (KM.out _) ?_); rintro e w' ⟨rfl, rfl⟩))
            | (go_at_call 23; ((with_reducible refine Calls.mono (K2.out _) ?_); rintro e w' ⟨rfl, rfl⟩))
            | (go_at_call 23; ((with_reducible refine Calls.mono (KY.out _) ?_); rintro e w' ⟨rfl, rfl⟩))
            | (go_at_call 21; ((with_reducible refine Calls.mono (KX.out _) ?_); rintro e w' ⟨rfl, rfl⟩))
            | (go_at_call 21; ((with_reducible refine Calls.mono (KW.out _) ?_); rintro e w' ⟨rfl, rfl⟩))
            | (go_at_call 13; ((with_reducible refine Calls.mono (KC.out _) ?_); rintro e w' ⟨rfl, rfl⟩))
            | (go_at_call 19; ((with_reducible refine Calls.mono (KT.out _) ?_); rintro e w' ⟨rfl, rfl⟩)))
          go_ret
          exact ⟨rfl, HB.out⟩
        · have hx3 : (((Wgh.fromW (Wgh.whV a2.toNat) : Nat) : Int) == a2) = false := by rw [hx, hx2]; rfl
          have hx4 : (Wgh.whV a2.toNat == 0) = true := by rw [hx]; rfl
          have hx5 : (a2 == 9223372036854775808) = true := by rw [hx2]; rfl
          clear hx hx2
          go_enter Try.func9, Try.ntmps9
          go_wp2_with (first
            | (go_at_call 10; refine (awake_any _).mono ?_; rintro e w1 ⟨rfl, hb⟩; have HB := Lib.hid hb; clear hb)
            | (go_at_call 23; ((with_reducible refine Calls.mono (KN.out _) ?_); rintro e w' ⟨rfl, rfl⟩))
            | (go_at_call 23; ((with_reducible refine Calls.mono (KM.out _) ?_); rintro e w' ⟨rfl, rfl⟩))
            | (go_at_call 23; ((with_reducible refine Calls.mono (K2.out _) ?_); rintro e w' ⟨rfl, rfl⟩))
            | (go_at_call 23; ((with_reducible refine Calls.mono (KY.out _) ?_); rintro e w' ⟨rfl, rfl⟩))
            | (go_at_call 21; ((with_reducible refine Calls.mono (KX.out _) ?_); rintro e w' ⟨rfl, rfl⟩))
            | (go_at_call 21; ((with_reducible refine Calls.mono (KW.out _) ?_); rintro e w' ⟨rfl, rfl⟩))
            | (go_at_call 13; ((with_reducible refine Calls.mono (KC.out _) ?_); rintro e w' ⟨rfl, rfl⟩))
            | (go_at_call 19; ((with_reducible refine Calls.mono (KT.out _) ?_); rintro e w' ⟨rfl, rfl⟩)))
          go_ret
          exact ⟨rfl, HB.out⟩
    · have c3' : (a0 != 0) = true := by simp [c3]
      cases c2n : Wgh.outB (2 * a0) with
      | true =>
        have e3 : Wgh.fromE (2 * a0) = 3 := by unfold Wgh.fromE; rw [if_pos c2n]
        clear c3 c2n o1
        cases cx : Wgh.whB a2.toNat with
        | false =>
          have vx := whV_no cx
          go_enter Try.func9, Try.ntmps9
          go_wp2_with (first
            | (go_at_call 10; refine (awake_any _).mono ?_; rintro e w1 ⟨rfl, hb⟩; have HB := Lib.hid hb; clear hb)
            | (go_at_call 23; ((with_reducible refine Calls.mono (KN.out _) ?_); rintro e w' ⟨rfl, rfl⟩))
            | (go_at_call 23; ((with_reducible refine Calls.mono (KM.out _) ?_); rintro e w' ⟨rfl, rfl⟩))
            | (go_at_call 23; ((with_reducible refine Calls.mono (K2.out _) ?_); rintro e w' ⟨rfl, rfl⟩))
            | (go_at_call 23; ((with_reducible refine Calls.mono (KY.out _) ?_); rintro e w' ⟨rfl, rfl⟩))
            | (go_at_call 21; ((with_reducible refine Calls.mono (KX.out _) ?_); rintro e w' ⟨rfl, rfl⟩))
            | (go_at_call 21; ((with_reducible refine Calls.mono (KW.out _) ?_); rintro e w' ⟨rfl, rfl⟩))
            | (go_at_call 13; ((with_reducible refine Calls.mono (KC.out _) ?_); rintro e w' ⟨rfl, rfl⟩))
            | (go_at_call 19; ((with_reducible refine Calls.mono (KT.out _) ?_); rintro e w' ⟨rfl, rfl⟩)))
          go_ret
          exact ⟨rfl, HB.out⟩
        | true =>
          obtain ⟨ox, hx⟩ := HBK.out cx
          have ex : Wgh.fromE (Wgh.whV a2.toNat) = 0 := fromE_in ox
          clear ox
          rcases hx with hx | ⟨hx, hx2⟩
          · have hx' : (((Wgh.fromW (Wgh.whV a2.toNat) : Nat) : Int) == a2) = true := by rw [hx]; simp
            clear hx
            go_enter Try.func9, Try.ntmps9
            go_wp2_with (first
              | (go_at_call 10; refine (awake_any _).mono ?_; rintro e w1 ⟨rfl, hb⟩; have HB := Lib.hid hb; clear hb)
              | (go_at_call 23; ((with_reducible refine Calls.mono (KN.out _) ?_); rintro e w' ⟨rfl, rfl⟩))
              | (go_at_call 23; ((with_reducible refine Calls.mono (KM.out _) ?_); rintro e w' ⟨rfl, rfl⟩))
              | (go_at_call 23; ((with_reducible refine Calls.mono (K2.out _) ?_); rintro e w' ⟨rfl, rfl⟩))
              | (go_at_call 23; ((with_reducible refine Calls.mono (KY.out _) ?_); rintro e w' ⟨rfl, rfl⟩))
              | (go_at_call 21; ((with_reducible refine Calls.mono (KX.out _) ?_); rintro e w' ⟨rfl, rfl⟩))
              | (go_at_call 21; ((with_reducible refine Calls.mono (KW.out _) ?_); rintro e w' ⟨rfl, rfl⟩))
              | (go_at_call 13; ((with_reducible refine Calls.mono (KC.out _) ?_); rintro e w' ⟨rfl, rfl⟩))
              | (go_at_call 19; ((with_reducible refine Calls.mono (KT.out _) ?_); rintro e w' ⟨rfl, rfl⟩)))
            go_ret
            exact ⟨rfl, HB.out⟩
          · have hx3 : (((Wgh.fromW (Wgh.whV a2.toNat) : Nat) : Int) == a2) = false := by rw [hx, hx2]; rfl
            have hx4 : (Wgh.whV a2.toNat == 0) = true := by rw [hx]; rfl
            have hx5 : (a2 == 9223372036854775808) = true := by rw [hx2]; rfl
            clear hx hx2
            go_enter Try.func9, Try.ntmps9
            go_wp2_with (first
              | (go_at_call 10; refine (awake_any _).mono ?_; rintro e w1 ⟨rfl, hb⟩; have HB := Lib.hid hb; clear hb)
              | (go_at_call 23; ((with_reducible refine Calls.mono (KN.out _) ?_); rintro e w' ⟨rfl, rfl⟩))
              | (go_at_call 23; ((with_reducible refine Calls.mono (KM.out _) ?_); rintro e w' ⟨rfl, rfl⟩))
              | (go_at_call 23; ((with_reducible refine Calls.mono (K2.out _) ?_); rintro e w' ⟨rfl, rfl⟩))
              | (go_at_call 23; ((with_reducible refine Calls.mono (KY.out _) ?_); rintro e w' ⟨rfl, rfl⟩))
              | (go_at_call 21; ((with_reducible refine Calls.mono (KX.out _) ?_); rintro e w' ⟨rfl, rfl⟩))
              | (go_at_call 21; ((with_reducible refine Calls.mono (KW.out _) ?_); rintro e w' ⟨rfl, rfl⟩))
              | (go_at_call 13; ((with_reducible refine Calls.mono (KC.out _) ?_); rintro e w' ⟨rfl, rfl⟩))
              | (go_at_call 19; ((with_reducible refine Calls.mono (KT.out _) ?_); rintro e w' ⟨rfl, rfl⟩)))
            go_ret
            exact ⟨rfl, HB.out⟩
      | false =>
        have e3 : Wgh.fromE (2 * a0) = 0 := fromE_in c2n
        have e4 := two_from o1 c2n c3
        clear c3 c2n o1
        cases cx : Wgh.whB a2.toNat with
        | false =>
          have vx := whV_no cx
          go_enter Try.func9, Try.ntmps9
          go_wp2_with (first
            | (go_at_call 10; refine (awake_any _).mono ?_; rintro e w1 ⟨rfl, hb⟩; have HB := Lib.hid hb; clear hb)
            | (go_at_call 23; ((with_reducible refine Calls.mono (KN.out _) ?_); rintro e w' ⟨rfl, rfl⟩))
            | (go_at_call 23; ((with_reducible refine Calls.mono (KM.out _) ?_); rintro e w' ⟨rfl, rfl⟩))
            | (go_at_call 23; ((with_reducible refine Calls.mono (K2.out _) ?_); rintro e w' ⟨rfl, rfl⟩))
            | (go_at_call 23; ((with_reducible refine Calls.mono (KY.out _) ?_); rintro e w' ⟨rfl, rfl⟩))
            | (go_at_call 21; ((with_reducible refine Calls.mono (KX.out _) ?_); rintro e w' ⟨rfl, rfl⟩))
            | (go_at_call 21; ((with_reducible refine Calls.mono (KW.out _) ?_); rintro e w' ⟨rfl, rfl⟩))
            | (go_at_call 13; ((with_reducible refine Calls.mono (KC.out _) ?_); rintro e w' ⟨rfl, rfl⟩))
            | (go_at_call 19; ((with_reducible refine Calls.mono (KT.out _) ?_); rintro e w' ⟨rfl, rfl⟩)))
          go_ret
          exact ⟨rfl, HB.out⟩
        | true =>
          obtain ⟨ox, hx⟩ := HBK.out cx
          have ex : Wgh.fromE (Wgh.whV a2.toNat) = 0 := fromE_in ox
          clear ox
          rcases hx with hx | ⟨hx, hx2⟩
          · have hx' : (((Wgh.fromW (Wgh.whV a2.toNat) : Nat) : Int) == a2) = true := by rw [hx]; simp
            clear hx
            go_enter Try.func9, Try.ntmps9
            go_wp2_with (first
              | (go_at_call 10; refine (awake_any _).mono ?_; rintro e w1 ⟨rfl, hb⟩; have HB := Lib.hid hb; clear hb)
              | (go_at_call 23; ((with_reducible refine Calls.mono (KN.out _) ?_); rintro e w' ⟨rfl, rfl⟩))
              | (go_at_call 23; ((with_reducible refine Calls.mono (KM.out _) ?_); rintro e w' ⟨rfl, rfl⟩))
              | (go_at_call 23; ((with_reducible refine Calls.mono (K2.out _) ?_); rintro e w' ⟨rfl, rfl⟩))
              | (go_at_call 23; ((with_reducible refine Calls.mono (KY.out _) ?_); rintro e w' ⟨rfl, rfl⟩))
              | (go_at_call 21; ((with_reducible refine Calls.mono (KX.out _) ?_); rintro e w' ⟨rfl, rfl⟩))
              | (go_at_call 21; ((with_reducible refine Calls.mono (KW.out _) ?_); rintro e w' ⟨rfl, rfl⟩))
              | (go_at_call 13; ((with_reducible refine Calls.mono (KC.out _) ?_); rintro e w' ⟨rfl, rfl⟩))
              | (go_at_call 19; ((with_reducible refine Calls.mono (KT.out _) ?_); rintro e w' ⟨rfl, rfl⟩)))
            go_ret
            exact ⟨rfl, HB.out⟩
          · have hx3 : (((Wgh.fromW (Wgh.whV a2.toNat) : Nat) : Int) == a2) = false := by rw [hx, hx2]; rfl
            have hx4 : (Wgh.whV a2.toNat == 0) = true := by rw [hx]; rfl
            have hx5 : (a2 == 9223372036854775808) = true := by rw [hx2]; rfl
            clear hx hx2
            go_enter Try.func9, Try.ntmps9
            go_wp2_with (first
              | (go_at_call 10; refine (awake_any _).mono ?_; rintro e w1 ⟨rfl, hb⟩; have HB := Lib.hid hb; clear hb)
              | (go_at_call 23; ((with_reducible refine Calls.mono (KN.out _) ?_); rintro e w' ⟨rfl, rfl⟩))
              | (go_at_call 23; ((with_reducible refine Calls.mono (KM.out _) ?_); rintro e w' ⟨rfl, rfl⟩))
              | (go_at_call 23; ((with_reducible refine Calls.mono (K2.out _) ?_); rintro e w' ⟨rfl, rfl⟩))
              | (go_at_call 23; ((with_reducible refine Calls.mono (KY.out _) ?_); rintro e w' ⟨rfl, rfl⟩))
              | (go_at_call 21; ((with_reducible refine Calls.mono (KX.out _) ?_); rintro e w' ⟨rfl, rfl⟩))
              | (go_at_call 21; ((with_reducible refine Calls.mono (KW.out _) ?_); rintro e w' ⟨rfl, rfl⟩))
              | (go_at_call 13; ((with_reducible refine Calls.mono (KC.out _) ?_); rintro e w' ⟨rfl, rfl⟩))
              | (go_at_call 19; ((with_reducible refine Calls.mono (KT.out _) ?_); rintro e w' ⟨rfl, rfl⟩)))
            go_ret
            exact ⟨rfl, HB.out⟩
  | false =>
    have e2 : Wgh.fromE a1 = 0 := fromE_in cm
    have hq : decide (Wgh.cmpW (Wgh.fromW a0) (Wgh.fromW a1) < 0) = decide (a0 < a1) := by rw [decide_eq_decide]; exact from_order o1 cm
    clear cm
    by_cases c3 : a0 = 0
    · have c3' : (a0 != 0) = false := by simp [c3]
      have e3 : Wgh.fromE (2 * a0) = 0 := by rw [c3]; rfl
      clear c3 o1
      cases cx : Wgh.whB a2.toNat with
      | false =>
        have vx := whV_no cx
        go_enter Try.func9, Try.ntmps9
        go_wp2_with (first
          | (go_at_call 10; refine (awake_any _).mono ?_; rintro e w1 ⟨rfl, hb⟩; have HB := Lib.hid hb; clear hb)
          | (go_at_call 23; ((with_reducible refine Calls.mono (KN.out _) ?_); rintro e w' ⟨rfl, rfl⟩))
          | (go_at_call 23; ((with_reducible refine Calls.mono (KM.out _) ?_); rintro e w' ⟨rfl, rfl⟩))
          | (go_at_call 23; ((with_reducible refine Calls.mono (K2.out _) ?_); rintro e w' ⟨rfl, rfl⟩))
          | (go_at_call 23; ((with_reducible refine Calls.mono (KY.out _) ?_); rintro e w' ⟨rfl, rfl⟩))
          | (go_at_call 21; ((with_reducible refine Calls.mono (KX.out _) ?_); rintro e w' ⟨rfl, rfl⟩))
          | (go_at_call 21; ((with_reducible refine Calls.mono (KW.out _) ?_); rintro e w' ⟨rfl, rfl⟩))
          | (go_at_call 13; ((with_reducible refine Calls.mono (KC.out _) ?_); rintro e w' ⟨rfl, rfl⟩))
          | (go_at_call 19; ((with_reducible refine Calls.mono (KT.out _) ?_); rintro e w' ⟨rfl, rfl⟩)))
        go_ret
        exact ⟨rfl, HB.out⟩
      | true =>
        obtain ⟨ox, hx⟩ := HBK.out cx
        have ex : Wgh.fromE (Wgh.whV a2.toNat) = 0 := fromE_in ox
        clear ox
        rcases hx with hx | ⟨hx, hx2⟩
        · have hx' : (((Wgh.fromW (Wgh.whV a2.toNat) : Nat) : Int) == a2) = true := by rw [hx]; simp
          clear hx
          go_enter Try.func9, Try.ntmps9
          go_wp2_with (first
            | (go_at_call 10; refine (awake_any _).mono ?_; rintro e w1 ⟨rfl, hb⟩; have HB := Lib.hid hb; clear hb)
            | (go_at_call 23; ((with_reducible refine Calls.mono (KN.out _) ?_); rintro e w' ⟨rfl, rfl⟩))
            | (go_at_call 23; ((with_reducible refine Calls.mono (KM.out _) ?_); rintro e w' ⟨rfl, rfl⟩))
            | (go_at_call 23; ((with_reducible refine Calls.mono (K2.out _) ?_); rintro e w' ⟨rfl, rfl⟩))
            | (go_at_call 23; ((with_reducible refine Calls.mono (KY.out _) ?_); rintro e w' ⟨rfl, rfl⟩))
            | (go_at_call 21; ((with_reducible refine Calls.mono (KX.out _) ?_); rintro e w' ⟨rfl, rfl⟩))
            | (go_at_call 21; ((with_reducible refine Calls.mono (KW.out _) ?_); rintro e w' ⟨rfl, rfl⟩))
            | (go_at_call 13; ((with_reducible refine Calls.mono (KC.out _) ?_); rintro e w' ⟨rfl, rfl⟩))
            | (go_at_call 19; ((with_reducible refine Calls.mono (KT.out _) ?_); rintro e w' ⟨rfl, rfl⟩)))
          go_ret
          exact ⟨rfl, HB.out⟩
        · have hx3 : (((Wgh.fromW (Wgh.whV a2.toNat) : Nat) : Int) == a2) = false := by rw [hx, hx2]; rfl
          have hx4 : (Wgh.whV a2.toNat == 0) = true := by rw [hx]; rfl
          have hx5 : (a2 == 9223372036854775808) = true := by rw [hx2]; rfl
          clear hx hx2
          go_enter Try.func9, Try.ntmps9
          go_wp2_with (first
            | (go_at_call 10; refine (awake_any _).mono ?_; rintro e w1 ⟨rfl, hb⟩; have HB := Lib.hid hb; clear hb)
            | (go_at_call 23; ((with_reducible refine Calls.mono (KN.out _) ?_); rintro e w' ⟨rfl, rfl⟩))
            | (go_at_call 23; ((with_reducible refine Calls.mono (KM.out _) ?_); rintro e w' ⟨rfl, rfl⟩))
            | (go_at_call 23; ((with_reducible refine Calls.mono (K2.out _) ?_); rintro e w' ⟨rfl, rfl⟩))
            | (go_at_call 23; ((with_reducible refine Calls.mono (KY.out _) ?_); rintro e w' ⟨rfl, rfl⟩))
            | (go_at_call 21; ((with_reducible refine Calls.mono (KX.out _) ?_); rintro e w' ⟨rfl, rfl⟩))
            | (go_at_call 21; ((with_reducible refine Calls.mono (KW.out _) ?_); rintro e w' ⟨rfl, rfl⟩))
            | (go_at_call 13; ((with_reducible refine Calls.mono (KC.out _) ?_); rintro e w' ⟨rfl, rfl⟩))
            | (go_at_call 19; ((with_reducible refine Calls.mono (KT.out _) ?_); rintro e w' ⟨rfl, rfl⟩)))
          go_ret
          exact ⟨rfl, HB.out⟩
    · have c3' : (a0 != 0) = true := by simp [c3]
      cases c2n : Wgh.outB (2 * a0) with
      | true =>
        have e3 : Wgh.fromE (2 * a0) = 3 := by unfold Wgh.fromE; rw [if_pos c2n]
        clear c3 c2n o1
        cases cx : Wgh.whB a2.toNat with
        | false =>
          have vx := whV_no cx
          go_enter Try.func9, Try.ntmps9
          go_wp2_with (first
            | (go_at_call 10; refine (awake_any _).mono ?_; rintro e w1 ⟨rfl, hb⟩; have HB := Lib.hid hb; clear hb)
            | (go_at_call 23; ((with_reducible refine Calls.mono (KN.out _) ?_); rintro e w' ⟨rfl, rfl⟩))
            | (go_at_call 23; ((with_reducible refine Calls.mono (KM.out _) ?_); rintro e w' ⟨rfl, rfl⟩))
            | (go_at_call 23; ((with_reducible refine Calls.mono (K2.out _) ?_); rintro e w' ⟨rfl, rfl⟩))
            | (go_at_call 23; ((with_reducible refine Calls.mono (KY.out _) ?_); rintro e w' ⟨rfl, rfl⟩))
            | (go_at_call 21; ((with_reducible refine Calls.mono (KX.out _) ?_); rintro e w' ⟨rfl, rfl⟩))
            | (go_at_call 21; ((with_reducible refine Calls.mono (KW.out _) ?_); rintro e w' ⟨rfl, rfl⟩))
            | (go_at_call 13; ((with_reducible refine Calls.mono (KC.out _) ?_); rintro e w' ⟨rfl, rfl⟩))
            | (go_at_call 19; ((with_reducible refine Calls.mono (KT.out _) ?_); rintro e w' ⟨rfl, rfl⟩)))
          go_ret
          exact ⟨rfl, HB.out⟩
        | true =>
          obtain ⟨ox, hx⟩ := HBK.out cx
          have ex : Wgh.fromE (Wgh.whV a2.toNat) = 0 := fromE_in ox
          clear ox
          rcases hx with hx | ⟨hx, hx2⟩
          · have hx' : (((Wgh.fromW (Wgh.whV a2.toNat) : Nat) : Int) == a2) = true := by rw [hx]; simp
            clear hx
            go_enter Try.func9, Try.ntmps9
            go_wp2_with (first
              | (go_at_call 10; refine (awake_any _).mono ?_; rintro e w1 ⟨rfl, hb⟩; have HB := Lib.hid hb; clear hb)
              | (go_at_call 23; ((with_reducible refine Calls.mono (KN.out _) ?_); rintro e w' ⟨rfl, rfl⟩))
              | (go_at_call 23; ((with_reducible refine Calls.mono (KM.out _) ?_); rintro e w' ⟨rfl, rfl⟩))
              | (go_at_call 23; ((with_reducible refine Calls.mono (K2.out _) ?_); rintro e w' ⟨rfl, rfl⟩))
              | (go_at_call 23; ((with_reducible refine Calls.mono (KY.out _) ?_); rintro e w' ⟨rfl, rfl⟩))
              | (go_at_call 21; ((with_reducible refine Calls.mono (KX.out _) ?_); rintro e w' ⟨rfl, rfl⟩))
              | (go_at_call 21; ((with_reducible refine Calls.mono (KW.out _) ?_); rintro e w' ⟨rfl, rfl⟩))
              | (go_at_call 13; ((with_reducible refine Calls.mono (KC.out _) ?_); rintro e w' ⟨rfl, rfl⟩))
              | (go_at_call 19; ((with_reducible refine Calls.mono (KT.out _) ?_); rintro e w' ⟨rfl, rfl⟩)))
            go_ret
            exact ⟨rfl, HB.out⟩
          · have hx3 : (((Wgh.fromW (Wgh.whV a2.toNat) : Nat) : Int) == a2) = false := by rw [hx, hx2]; rfl
            have hx4 : (Wgh.whV a2.toNat == 0) = true := by rw [hx]; rfl
            have hx5 : (a2 == 9223372036854775808) = true := by rw [hx2]; rfl
            clear hx hx2
            go_enter Try.func9, Try.ntmps9
            go_wp2_with (first
              | (go_at_call 10; refine (awake_any _).mono ?_; rintro e w1 ⟨rfl, hb⟩; have HB := Lib.hid hb; clear hb)
              | (go_at_call 23; ((with_reducible refine Calls.mono (KN.out _) ?_); rintro e w' ⟨rfl, rfl⟩))
              | (go_at_call 23; ((with_reducible refine Calls.mono (KM.out _) ?_); rintro e w' ⟨rfl, rfl⟩))
              | (go_at_call 23; ((with_reducible refine Calls.mono (K2.out _) ?_); rintro e w' ⟨rfl, rfl⟩))
              | (go_at_call 23; ((with_reducible refine Calls.mono (KY.out _) ?_); rintro e w' ⟨rfl, rfl⟩))
              | (go_at_call 21; ((with_reducible refine Calls.mono (KX.out _) ?_); rintro e w' ⟨rfl, rfl⟩))
              | (go_at_call 21; ((with_reducible refine Calls.mono (KW.out _) ?_); rintro e w' ⟨rfl, rfl⟩))
              | (go_at_call 13; ((with_reducible refine Calls.mono (KC.out _) ?_); rintro e w' ⟨rfl, rfl⟩))
              | (go_at_call 19; ((with_reducible refine Calls.mono (KT.out _) ?_); rintro e w' ⟨rfl, rfl⟩)))
            go_ret
            exact ⟨rfl, HB.out⟩
      | false =>
        have e3 : Wgh.fromE (2 * a0) = 0 := fromE_in c2n
        have e4 := two_from o1 c2n c3
        clear c3 c2n o1
        cases cx : Wgh.whB a2.toNat with
        | false =>
          have vx := whV_no cx
          go_enter Try.func9, Try.ntmps9
          go_wp2_with (first
            | (go_at_call 10; refine (awake_any _).mono ?_; rintro e w1 ⟨rfl, hb⟩; have HB := Lib.hid hb; clear hb)
            | (go_at_call 23; ((with_reducible refine Calls.mono (KN.out _) ?_); rintro e w' ⟨rfl, rfl⟩))
            | (go_at_call 23; ((with_reducible refine Calls.mono (KM.out _) ?_); rintro e w' ⟨rfl, rfl⟩))
            | (go_at_call 23; ((with_reducible refine Calls.mono (K2.out _) ?_); rintro e w' ⟨rfl, rfl⟩))
            | (go_at_call 23; ((with_reducible refine Calls.mono (KY.out _) ?_); rintro e w' ⟨rfl, rfl⟩))
            | (go_at_call 21; ((with_reducible refine Calls.mono (KX.out _) ?_); rintro e w' ⟨rfl, rfl⟩))
            | (go_at_call 21; ((with_reducible refine Calls.mono (KW.out _) ?_); rintro e w' ⟨rfl, rfl⟩))
            | (go_at_call 13; ((with_reducible refine Calls.mono (KC.out _) ?_); rintro e w' ⟨rfl, rfl⟩))
            | (go_at_call 19; ((with_reducible refine Calls.mono (KT.out _) ?_); rintro e w' ⟨rfl, rfl⟩)))
          go_ret
          exact ⟨rfl, HB.out⟩
        | true =>
          obtain ⟨ox, hx⟩ := HBK.out cx
          have ex : Wgh.fromE (Wgh.whV a2.toNat) = 0 := fromE_in ox
          clear ox
          rcases hx with hx | ⟨hx, hx2⟩
          · have hx' : (((Wgh.fromW (Wgh.whV a2.toNat) : Nat) : Int) == a2) = true := by rw [hx]; simp
            clear hx
            go_enter Try.func9, Try.ntmps9
            go_wp2_with (first
              | (go_at_call 10; refine (awake_any _).mono ?_; rintro e w1 ⟨rfl, hb⟩; have HB := Lib.hid hb; clear hb)
              | (go_at_call 23; ((with_reducible refine Calls.mono (KN.out _) ?_); rintro e w' ⟨rfl, rfl⟩))
              | (go_at_call 23; ((with_reducible refine Calls.mono (KM.out _) ?_); rintro e w' ⟨rfl, rfl⟩))
              | (go_at_call 23; ((with_reducible refine Calls.mono (K2.out _) ?_); rintro e w' ⟨rfl, rfl⟩))
              | (go_at_call 23; ((with_reducible refine Calls.mono (KY.out _) ?_); rintro e w' ⟨rfl, rfl⟩))
              | (go_at_call 21; ((with_reducible refine Calls.mono (KX.out _) ?_); rintro e w' ⟨rfl, rfl⟩))
              | (go_at_call 21; ((with_reducible refine Calls.mono (KW.out _) ?_); rintro e w' ⟨rfl, rfl⟩))
              | (go_at_call 13; ((with_reducible refine Calls.mono (KC.out _) ?_); rintro e w' ⟨rfl, rfl⟩))
              | (go_at_call 19; ((with_reducible refine Calls.mono (KT.out _) ?_); rintro e w' ⟨rfl, rfl⟩)))
            go_ret
            exact ⟨rfl, HB.out⟩
          · have hx3 : (((Wgh.fromW (Wgh.whV a2.toNat) : Nat) : Int) == a2) = false := by rw [hx, hx2]; rfl
            have hx4 : (Wgh.whV a2.toNat == 0) = true := by rw [hx]; rfl
            have hx5 : (a2 == 9223372036854775808) = true := by rw [hx2]; rfl
            clear hx hx2
            go_enter Try.func9, Try.ntmps9
            go_wp2_with (first
              | (go_at_call 10; refine (awake_any _).mono ?_; rintro e w1 ⟨rfl, hb⟩; have HB := Lib.hid hb; clear hb)
              | (go_at_call 23; ((with_reducible refine Calls.mono (KN.out _) ?_); rintro e w' ⟨rfl, rfl⟩))
              | (go_at_call 23; ((with_reducible refine Calls.mono (KM.out _) ?_); rintro e w' ⟨rfl, rfl⟩))
              | (go_at_call 23; ((with_reducible refine Calls.mono (K2.out _) ?_); rintro e w' ⟨rfl, rfl⟩))
              | (go_at_call 23; ((with_reducible refine Calls.mono (KY.out _) ?_); rintro e w' ⟨rfl, rfl⟩))
              | (go_at_call 21; ((with_reducible refine Calls.mono (KX.out _) ?_); rintro e w' ⟨rfl, rfl⟩))
              | (go_at_call 21; ((with_reducible refine Calls.mono (KW.out _) ?_); rintro e w' ⟨rfl, rfl⟩))
              | (go_at_call 13; ((with_reducible refine Calls.mono (KC.out _) ?_); rintro e w' ⟨rfl, rfl⟩))
              | (go_at_call 19; ((with_reducible refine Calls.mono (KT.out _) ?_); rintro e w' ⟨rfl, rfl⟩)))
            go_ret
            exact ⟨rfl, HB.out⟩

/-! The row's step, as the shell has it. -/
set_option maxRecDepth 100000 in
theorem lifted (os : Os) (started : os.Started) (H : Type) (enc : TypeId × Value → H) :
    ReturnsInHanded {} Try.checked os 9 .any (Rows.weighBackSpec.pre6 enc Try.prog Try.f9 Rows.weighBackRow.domain false) (Rows.weighBackSpec.post enc Try.prog Try.f9 false true false false) := by
  refine returnsInHanded_of_change (C := Try.checked) own started (by kernel_rfl) Try.func9
    (ChangeSpec.witness6 (enc := enc) (C := Try.checked) false ⟨#[], #[.int .i64 0, .int .i64 0, .int .u64 0], []⟩ 8 (by kernel_rfl) (by kernel_rfl) (by kernel_rfl) (by kernel_rfl)) ?_
  intro W base args ds gs before hval0 hW hcnd _
  have hval : ∀ (j : Nat) t v, Try.f9.params[j]? = some t → args[j]? = some v → Value.okWide Try.prog W .any base t v := hval0
  have hW' := hW
  obtain ⟨p, q, hA0, hV, rfl, hfz, hnd⟩ := hW
  have hA : DataW.TrodAll enc Try.prog W 0 (fun _ => true) true Try.f9.params.toList args.toList ds p := hA0
  rw [Try.params9] at hA hval
  obtain ⟨v0, vs0, d0, ds0, p0, q0, hargs, rfl, rfl, h0, r0⟩ := trodAll_cons hA
  obtain ⟨v1, vs1, d1, ds1, p1, q1, rfl, rfl, rfl, h1, r1⟩ := trodAll_cons r0
  obtain ⟨v2, vs2, d2, ds2, p2, q2, rfl, rfl, rfl, h2, r2⟩ := trodAll_cons r1
  obtain ⟨rfl, rfl, rfl⟩ := trodAll_nil r2
  obtain rfl : args = #[v0, v1, v2] := by cases args; simp_all
  obtain ⟨rfl, rfl⟩ := trodVars_none hV
  obtain ⟨a0, rfl, rfl, rfl, w0⟩ := open_int Try.underlying2 (hval 0 2 v0 rfl rfl) h0
  obtain ⟨a1, rfl, rfl, rfl, w1⟩ := open_int Try.underlying2 (hval 1 2 v1 rfl rfl) h1
  obtain ⟨a2, rfl, rfl, rfl, w2⟩ := open_int Try.underlying22 (hval 2 22 v2 rfl rfl) h2
  clear hA0 hval0
  simp only [List.append_nil] at hW'
  refine (walk a0 a1 a2 w0 w1 w2 W).mono fun e W' ⟨he, hg⟩ => ?_
  subst he
  exact ⟨_, rfl, _, _, _, [], [], [], hW', (trodAll_cons_mk (shut_bool Try.underlying4 _) trodAll_mk0), (trodAll_cons_mk (shut_int Try.underlying2 w0) (trodAll_cons_mk (shut_int Try.underlying2 w1) (trodAll_cons_mk (shut_int Try.underlying22 w2) trodAll_mk0))), rfl, hg.frame _, fun h => by cases h⟩

theorem over : Rows.weighBackRow.holds Try.pinned (OpenSpec.ofChange Rows.weighBackSpec) :=
  OpenClaim.holds_of_wide 9 Try.f9 rfl rfl rfl rfl rfl rfl rfl ⟨rfl, rfl, rfl, rfl, rfl⟩ rfl rfl rfl rfl rfl (by kernel_rfl) Try.func9 (by kernel_rfl)
    (of_decide_eq_true (by kernel_rfl)) (by unfold Func.isWrapper; first | (rw [if_pos (by decide +kernel)]; kernel_rfl) | (rw [if_neg (by decide +kernel)]; exact ⟨rfl, rfl⟩))
    (fun os started H enc _ => lifted os started H enc)

/-- The statement. -/
theorem proved : Rows.WeighBackSaid :=
  over
#print axioms proved
end Go.Proofs.Ytpfcdpmpfgdnaaa.weighBack
