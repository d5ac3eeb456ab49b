/-
  PROVED HERE: the statement WeighTurns of layer 17: for every input, no condition.
  The shell round the walk was written by the kit's program proof-skeleton.mjs.
-/
import Derived.Test.YtpfcdpmpfgdnaaaRows
import Derived.Test.YtpfcdpmpfgdnaaaAwake
import Derived.Test.YtpfcdpmpfgdnaaaLeaf6
import Derived.Test.YtpfcdpmpfgdnaaaFacts
import Derived.WalkKit
import Derived.ProofKit
import Derived.OpenShut
import Derived.ShutString
import Derived.Below
namespace Go.Proofs.Ytpfcdpmpfgdnaaa.weighTurns
open Go.ChangeShapes Go.WideShapes Go.ChangeAt Go.RowKit
open Go.ChangeMaps (open_string shut_string)
set_option linter.unusedVariables false      -- a walk need not use every 'w<i>' (that an integer argument fits its kind)

theorem own : ownKnob Try.prog.godebug = none := by kernel_rfl

/-! The walk. -/
set_option maxRecDepth 100000 in
set_option maxHeartbeats 8000000 in
theorem walk (a0 : Int) (a1 : Int) (w0 : (Lit.int .u64 a0).wf = true) (w1 : (Lit.int .u64 a1).wf = true) (w : World) :
    Calls Try.prog 8 #[.int .u64 a0, .int .u64 a1] w fun e w' => e = .returned (.bool true) ∧ Below w.heap.size w w' := by
  obtain ⟨p0, q0⟩ := wf_u64 w0
  obtain ⟨p1, q1⟩ := wf_u64 w1
  clear w0 w1
  obtain ⟨p2, q2⟩ := turned_t p0 q0
  obtain ⟨p3, q3⟩ := turned_t p1 q1
  have ka : ∀ W, Calls Try.prog 17 #[.int .u64 a0] W fun e w' => e = .returned (.int .u64 ((Wgh.turnW a0.toNat : Nat) : Int)) ∧ W = w' := fun W => turned_any a0 W p0 q0
  have kb : ∀ W, Calls Try.prog 17 #[.int .u64 a1] W fun e w' => e = .returned (.int .u64 ((Wgh.turnW a1.toNat : Nat) : Int)) ∧ W = w' := fun W => turned_any a1 W p1 q1
  have kc : ∀ W, Calls Try.prog 17 #[.int .u64 ((Wgh.turnW a0.toNat : Nat) : Int)] W fun e w' => e = .returned (.int .u64 a0) ∧ W = w' := fun W =>
    (turned_any _ W p2 q2).mono fun e w' h => ⟨h.1.trans (ret_int (by rw [Int.toNat_natCast, turn_turn _ (by omega)]; omega)), h.2⟩
  have kd : ∀ W, Calls Try.prog 11 #[.int .u64 ((Wgh.turnW a0.toNat : Nat) : Int)] W fun e w' => e = .returned (.int .i64 (Wgh.cls a0.toNat)) ∧ W = w' := fun W =>
    (class_any _ W p2 q2).mono fun e w' h => ⟨h.1.trans (ret_int (by rw [Int.toNat_natCast, turn_cls])), h.2⟩
  have ke : ∀ W, Calls Try.prog 11 #[.int .u64 a0] W fun e w' => e = .returned (.int .i64 (Wgh.cls a0.toNat)) ∧ W = w' := fun W => class_any a0 W p0 q0
  have kf : ∀ W, Calls Try.prog 11 #[.int .u64 a1] W fun e w' => e = .returned (.int .i64 (Wgh.cls a1.toNat)) ∧ W = w' := fun W => class_any a1 W p1 q1
  have kg : ∀ W, Calls Try.prog 13 #[.int .u64 ((Wgh.turnW a0.toNat : Nat) : Int), .int .u64 ((Wgh.turnW a1.toNat : Nat) : Int)] W fun e w' => e = .returned (.int .i64 (Wgh.cmpW (Wgh.turnW a0.toNat) (Wgh.turnW a1.toNat))) ∧ W = w' := fun W =>
    (compare_any _ _ W p2 q2 p3 q3).mono fun e w' h => ⟨h.1.trans (ret_int (by rw [Int.toNat_natCast, Int.toNat_natCast])), h.2⟩
  have kh : ∀ W, Calls Try.prog 13 #[.int .u64 a1, .int .u64 a0] W fun e w' => e = .returned (.int .i64 (Wgh.cmpW a1.toNat a0.toNat)) ∧ W = w' := fun W => compare_any a1 a0 W p1 q1 p0 q0
  have f3 : Wgh.isNan a0.toNat = true → ((Wgh.turnW a0.toNat : Nat) : Int) = a0 := fun h => by rw [Wgh.turnW_nan _ h]; omega
  have F3 := Lib.hid f3
  have KA := Lib.hid ka
  have KB := Lib.hid kb
  have KC := Lib.hid kc
  have KD := Lib.hid kd
  have KE := Lib.hid ke
  have KF := Lib.hid kf
  have KG := Lib.hid kg
  have KH := Lib.hid kh
  clear ka kb kc kd ke kf kg kh p2 q2 p3 q3 f3
  have t1 := Wgh.cls_nan a0.toNat
  have t2 := Wgh.cls_nan a1.toNat
  cases cx : Wgh.isNan a0.toNat with
  | true =>
    rw [cx] at t1
    have t1' : Wgh.cls a0.toNat = 4 := by simpa using t1
    have f4 : (((Wgh.turnW a0.toNat : Nat) : Int) == a0) = true := by rw [F3.out cx]; simp
    clear cx t2 p0 q0 p1 q1 t1
    go_enter Try.func8, Try.ntmps8
    go_wp2_with (first
      | (go_at_call 10; refine (awake_any _).mono ?_; rintro e w1 ⟨rfl, hb⟩; have HB := Lib.hid hb; clear hb)
      | (go_at_call 17; ((with_reducible refine Calls.mono (KA.out _) ?_); rintro e w' ⟨rfl, rfl⟩))
      | (go_at_call 17; ((with_reducible refine Calls.mono (KB.out _) ?_); rintro e w' ⟨rfl, rfl⟩))
      | (go_at_call 17; ((with_reducible refine Calls.mono (KC.out _) ?_); rintro e w' ⟨rfl, rfl⟩))
      | (go_at_call 11; ((with_reducible refine Calls.mono (KD.out _) ?_); rintro e w' ⟨rfl, rfl⟩))
      | (go_at_call 11; ((with_reducible refine Calls.mono (KE.out _) ?_); rintro e w' ⟨rfl, rfl⟩))
      | (go_at_call 11; ((with_reducible refine Calls.mono (KF.out _) ?_); rintro e w' ⟨rfl, rfl⟩))
      | (go_at_call 13; ((with_reducible refine Calls.mono (KG.out _) ?_); rintro e w' ⟨rfl, rfl⟩))
      | (go_at_call 13; ((with_reducible refine Calls.mono (KH.out _) ?_); rintro e w' ⟨rfl, rfl⟩)))
    go_ret
    exact ⟨rfl, HB.out⟩
  | false =>
    cases cy : Wgh.isNan a1.toNat with
    | true =>
      rw [cx] at t1
      rw [cy] at t2
      have t3 : (Wgh.cls a0.toNat != 4) = true := by rw [bne, t1]; rfl
      clear cx cy p0 q0 p1 q1
      go_enter Try.func8, Try.ntmps8
      go_wp2_with (first
        | (go_at_call 10; refine (awake_any _).mono ?_; rintro e w1 ⟨rfl, hb⟩; have HB := Lib.hid hb; clear hb)
        | (go_at_call 17; ((with_reducible refine Calls.mono (KA.out _) ?_); rintro e w' ⟨rfl, rfl⟩))
        | (go_at_call 17; ((with_reducible refine Calls.mono (KB.out _) ?_); rintro e w' ⟨rfl, rfl⟩))
        | (go_at_call 17; ((with_reducible refine Calls.mono (KC.out _) ?_); rintro e w' ⟨rfl, rfl⟩))
        | (go_at_call 11; ((with_reducible refine Calls.mono (KD.out _) ?_); rintro e w' ⟨rfl, rfl⟩))
        | (go_at_call 11; ((with_reducible refine Calls.mono (KE.out _) ?_); rintro e w' ⟨rfl, rfl⟩))
        | (go_at_call 11; ((with_reducible refine Calls.mono (KF.out _) ?_); rintro e w' ⟨rfl, rfl⟩))
        | (go_at_call 13; ((with_reducible refine Calls.mono (KG.out _) ?_); rintro e w' ⟨rfl, rfl⟩))
        | (go_at_call 13; ((with_reducible refine Calls.mono (KH.out _) ?_); rintro e w' ⟨rfl, rfl⟩)))
      go_ret
      exact ⟨rfl, HB.out⟩
    | false =>
      have f4 := turn_cmp a0.toNat a1.toNat cx cy
      rw [cx] at t1
      rw [cy] at t2
      clear cx cy p0 q0 p1 q1
      go_enter Try.func8, Try.ntmps8
      go_wp2_with (first
        | (go_at_call 10; refine (awake_any _).mono ?_; rintro e w1 ⟨rfl, hb⟩; have HB := Lib.hid hb; clear hb)
        | (go_at_call 17; ((with_reducible refine Calls.mono (KA.out _) ?_); rintro e w' ⟨rfl, rfl⟩))
        | (go_at_call 17; ((with_reducible refine Calls.mono (KB.out _) ?_); rintro e w' ⟨rfl, rfl⟩))
        | (go_at_call 17; ((with_reducible refine Calls.mono (KC.out _) ?_); rintro e w' ⟨rfl, rfl⟩))
        | (go_at_call 11; ((with_reducible refine Calls.mono (KD.out _) ?_); rintro e w' ⟨rfl, rfl⟩))
        | (go_at_call 11; ((with_reducible refine Calls.mono (KE.out _) ?_); rintro e w' ⟨rfl, rfl⟩))
        | (go_at_call 11; ((with_reducible refine Calls.mono (KF.out _) ?_); rintro e w' ⟨rfl, rfl⟩))
        | (go_at_call 13; ((with_reducible refine Calls.mono (KG.out _) ?_); rintro e w' ⟨rfl, rfl⟩))
        | (go_at_call 13; ((with_reducible refine Calls.mono (KH.out _) ?_); rintro e w' ⟨rfl, rfl⟩)))
      go_ret
      exact ⟨rfl, HB.out⟩

/-! The row's step, as the shell has it. -/
set_option maxRecDepth 100000 in
theorem lifted (os : Os) (started : os.Started) (H : Type) (enc : TypeId × Value → H) :
    ReturnsInHanded {} Try.checked os 8 .any (Rows.weighTurnsSpec.pre6 enc Try.prog Try.f8 Rows.weighTurnsRow.domain false) (Rows.weighTurnsSpec.post enc Try.prog Try.f8 false true false false) := by
  refine returnsInHanded_of_change (C := Try.checked) own started (by kernel_rfl) Try.func8
    (ChangeSpec.witness6 (enc := enc) (C := Try.checked) false ⟨#[], #[.int .u64 0, .int .u64 0], []⟩ 8 (by kernel_rfl) (by kernel_rfl) (by kernel_rfl) (by kernel_rfl)) ?_
  intro W base args ds gs before hval0 hW hcnd _
  have hval : ∀ (j : Nat) t v, Try.f8.params[j]? = some t → args[j]? = some v → Value.okWide Try.prog W .any base t v := hval0
  have hW' := hW
  obtain ⟨p, q, hA0, hV, rfl, hfz, hnd⟩ := hW
  have hA : DataW.TrodAll enc Try.prog W 0 (fun _ => true) true Try.f8.params.toList args.toList ds p := hA0
  rw [Try.params8] at hA hval
  obtain ⟨v0, vs0, d0, ds0, p0, q0, hargs, rfl, rfl, h0, r0⟩ := trodAll_cons hA
  obtain ⟨v1, vs1, d1, ds1, p1, q1, rfl, rfl, rfl, h1, r1⟩ := trodAll_cons r0
  obtain ⟨rfl, rfl, rfl⟩ := trodAll_nil r1
  obtain rfl : args = #[v0, v1] := by cases args; simp_all
  obtain ⟨rfl, rfl⟩ := trodVars_none hV
  obtain ⟨a0, rfl, rfl, rfl, w0⟩ := open_int Try.underlying22 (hval 0 22 v0 rfl rfl) h0
  obtain ⟨a1, rfl, rfl, rfl, w1⟩ := open_int Try.underlying22 (hval 1 22 v1 rfl rfl) h1
  clear hA0 hval0
  simp only [List.append_nil] at hW'
  refine (walk a0 a1 w0 w1 W).mono fun e W' ⟨he, hg⟩ => ?_
  subst he
  exact ⟨_, rfl, _, _, _, [], [], [], hW', (trodAll_cons_mk (shut_bool Try.underlying4 _) trodAll_mk0), (trodAll_cons_mk (shut_int Try.underlying22 w0) (trodAll_cons_mk (shut_int Try.underlying22 w1) trodAll_mk0)), rfl, hg.frame _, fun h => by cases h⟩

theorem over : Rows.weighTurnsRow.holds Try.pinned (OpenSpec.ofChange Rows.weighTurnsSpec) :=
  OpenClaim.holds_of_wide 8 Try.f8 rfl rfl rfl rfl rfl rfl rfl ⟨rfl, rfl, rfl, rfl, rfl⟩ rfl rfl rfl rfl rfl (by kernel_rfl) Try.func8 (by kernel_rfl)
    (of_decide_eq_true (by kernel_rfl)) (by unfold Func.isWrapper; first | (rw [if_pos (by decide +kernel)]; kernel_rfl) | (rw [if_neg (by decide +kernel)]; exact ⟨rfl, rfl⟩))
    (fun os started H enc _ => lifted os started H enc)

/-- The statement. -/
theorem proved : Rows.WeighTurnsSaid :=
  over
#print axioms proved
end Go.Proofs.Ytpfcdpmpfgdnaaa.weighTurns
