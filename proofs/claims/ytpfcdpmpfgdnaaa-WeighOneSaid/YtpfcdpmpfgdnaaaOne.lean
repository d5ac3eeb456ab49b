/-
  PROVED HERE: the statement WeighOne of layer 17: for every input, no condition.
  The shell round the walk was written by the kit's program proof-skeleton.mjs.
-/
import Derived.Test.YtpfcdpmpfgdnaaaRows
import Derived.Test.YtpfcdpmpfgdnaaaAwake
import Derived.Test.YtpfcdpmpfgdnaaaLeaf6
import Derived.Test.YtpfcdpmpfgdnaaaFacts
import Derived.WalkKit
import Derived.ProofKit
import Derived.OpenShut
import Derived.ShutString
import Derived.Below
namespace Go.Proofs.Ytpfcdpmpfgdnaaa.weighOne
open Go.ChangeShapes Go.WideShapes Go.ChangeAt Go.RowKit
open Go.ChangeMaps (open_string shut_string)
set_option linter.unusedVariables false      -- a walk need not use every 'w<i>' (that an integer argument fits its kind)

theorem own : ownKnob Try.prog.godebug = none := by kernel_rfl

/-! The walk. -/
set_option maxRecDepth 100000 in
set_option maxHeartbeats 8000000 in
theorem walk (a0 : Int) (a1 : Int) (a2 : Int) (w0 : (Lit.int .u64 a0).wf = true) (w1 : (Lit.int .u64 a1).wf = true) (w2 : (Lit.int .u64 a2).wf = true) (w : World) :
    Calls Try.prog 6 #[.int .u64 a0, .int .u64 a1, .int .u64 a2] w fun e w' => e = .returned (.bool true) ∧ Below w.heap.size w w' := by
  obtain ⟨p0, q0⟩ := wf_u64 w0
  obtain ⟨p1, q1⟩ := wf_u64 w1
  obtain ⟨p2, q2⟩ := wf_u64 w2
  clear w0 w1 w2
  have exx : Wgh.cmpW a0.toNat a0.toNat = 0 := cmpW_e rfl
  rcases (show (Wgh.wt a0.toNat < Wgh.wt a1.toNat ∧ Wgh.wt a1.toNat < Wgh.wt a2.toNat ∧ Wgh.wt a0.toNat < Wgh.wt a2.toNat) ∨ (Wgh.wt a0.toNat < Wgh.wt a1.toNat ∧ Wgh.wt a1.toNat = Wgh.wt a2.toNat ∧ Wgh.wt a0.toNat < Wgh.wt a2.toNat) ∨ (Wgh.wt a0.toNat < Wgh.wt a1.toNat ∧ Wgh.wt a2.toNat < Wgh.wt a1.toNat ∧ Wgh.wt a0.toNat < Wgh.wt a2.toNat) ∨ (Wgh.wt a0.toNat < Wgh.wt a1.toNat ∧ Wgh.wt a2.toNat < Wgh.wt a1.toNat ∧ Wgh.wt a0.toNat = Wgh.wt a2.toNat) ∨ (Wgh.wt a0.toNat < Wgh.wt a1.toNat ∧ Wgh.wt a2.toNat < Wgh.wt a1.toNat ∧ Wgh.wt a2.toNat < Wgh.wt a0.toNat) ∨ (Wgh.wt a0.toNat = Wgh.wt a1.toNat ∧ Wgh.wt a1.toNat < Wgh.wt a2.toNat ∧ Wgh.wt a0.toNat < Wgh.wt a2.toNat) ∨ (Wgh.wt a0.toNat = Wgh.wt a1.toNat ∧ Wgh.wt a1.toNat = Wgh.wt a2.toNat ∧ Wgh.wt a0.toNat = Wgh.wt a2.toNat) ∨ (Wgh.wt a0.toNat = Wgh.wt a1.toNat ∧ Wgh.wt a2.toNat < Wgh.wt a1.toNat ∧ Wgh.wt a2.toNat < Wgh.wt a0.toNat) ∨ (Wgh.wt a1.toNat < Wgh.wt a0.toNat ∧ Wgh.wt a1.toNat < Wgh.wt a2.toNat ∧ Wgh.wt a0.toNat < Wgh.wt a2.toNat) ∨ (Wgh.wt a1.toNat < Wgh.wt a0.toNat ∧ Wgh.wt a1.toNat < Wgh.wt a2.toNat ∧ Wgh.wt a0.toNat = Wgh.wt a2.toNat) ∨ (Wgh.wt a1.toNat < Wgh.wt a0.toNat ∧ Wgh.wt a1.toNat < Wgh.wt a2.toNat ∧ Wgh.wt a2.toNat < Wgh.wt a0.toNat) ∨ (Wgh.wt a1.toNat < Wgh.wt a0.toNat ∧ Wgh.wt a1.toNat = Wgh.wt a2.toNat ∧ Wgh.wt a2.toNat < Wgh.wt a0.toNat) ∨ (Wgh.wt a1.toNat < Wgh.wt a0.toNat ∧ Wgh.wt a2.toNat < Wgh.wt a1.toNat ∧ Wgh.wt a2.toNat < Wgh.wt a0.toNat) from by omega) with ⟨c1, c2, c3⟩ | ⟨c1, c2, c3⟩ | ⟨c1, c2, c3⟩ | ⟨c1, c2, c3⟩ | ⟨c1, c2, c3⟩ | ⟨c1, c2, c3⟩ | ⟨c1, c2, c3⟩ | ⟨c1, c2, c3⟩ | ⟨c1, c2, c3⟩ | ⟨c1, c2, c3⟩ | ⟨c1, c2, c3⟩ | ⟨c1, c2, c3⟩ | ⟨c1, c2, c3⟩
  · have exy : Wgh.cmpW a0.toNat a1.toNat = -1 := cmpW_l c1
    have eyx : Wgh.cmpW a1.toNat a0.toNat = 1 := cmpW_g c1
    have eyz : Wgh.cmpW a1.toNat a2.toNat = -1 := cmpW_l c2
    have exz : Wgh.cmpW a0.toNat a2.toNat = -1 := cmpW_l c3
    clear c1 c2 c3
    go_enter Try.func6, Try.ntmps6
    go_wp2_with (first | (go_at_call 10; refine (awake_any _).mono ?_; rintro e w1 ⟨rfl, hb⟩; have HB := Lib.hid hb; clear hb) | (go_at_call 13; refine (compare_any _ _ _ (by assumption) (by assumption) (by assumption) (by assumption)).mono ?_; rintro e w' ⟨rfl, rfl⟩))
    go_ret
    exact ⟨rfl, HB.out⟩
  · have exy : Wgh.cmpW a0.toNat a1.toNat = -1 := cmpW_l c1
    have eyx : Wgh.cmpW a1.toNat a0.toNat = 1 := cmpW_g c1
    have eyz : Wgh.cmpW a1.toNat a2.toNat = 0 := cmpW_e c2
    have exz : Wgh.cmpW a0.toNat a2.toNat = -1 := cmpW_l c3
    clear c1 c2 c3
    go_enter Try.func6, Try.ntmps6
    go_wp2_with (first | (go_at_call 10; refine (awake_any _).mono ?_; rintro e w1 ⟨rfl, hb⟩; have HB := Lib.hid hb; clear hb) | (go_at_call 13; refine (compare_any _ _ _ (by assumption) (by assumption) (by assumption) (by assumption)).mono ?_; rintro e w' ⟨rfl, rfl⟩))
    go_ret
    exact ⟨rfl, HB.out⟩
  · have exy : Wgh.cmpW a0.toNat a1.toNat = -1 := cmpW_l c1
    have eyx : Wgh.cmpW a1.toNat a0.toNat = 1 := cmpW_g c1
    have eyz : Wgh.cmpW a1.toNat a2.toNat = 1 := cmpW_g c2
    have exz : Wgh.cmpW a0.toNat a2.toNat = -1 := cmpW_l c3
    clear c1 c2 c3
    go_enter Try.func6, Try.ntmps6
    go_wp2_with (first | (go_at_call 10; refine (awake_any _).mono ?_; rintro e w1 ⟨rfl, hb⟩; have HB := Lib.hid hb; clear hb) | (go_at_call 13; refine (compare_any _ _ _ (by assumption) (by assumption) (by assumption) (by assumption)).mono ?_; rintro e w' ⟨rfl, rfl⟩))
    go_ret
    exact ⟨rfl, HB.out⟩
  · have exy : Wgh.cmpW a0.toNat a1.toNat = -1 := cmpW_l c1
    have eyx : Wgh.cmpW a1.toNat a0.toNat = 1 := cmpW_g c1
    have eyz : Wgh.cmpW a1.toNat a2.toNat = 1 := cmpW_g c2
    have exz : Wgh.cmpW a0.toNat a2.toNat = 0 := cmpW_e c3
    clear c1 c2 c3
    go_enter Try.func6, Try.ntmps6
    go_wp2_with (first | (go_at_call 10; refine (awake_any _).mono ?_; rintro e w1 ⟨rfl, hb⟩; have HB := Lib.hid hb; clear hb) | (go_at_call 13; refine (compare_any _ _ _ (by assumption) (by assumption) (by assumption) (by assumption)).mono ?_; rintro e w' ⟨rfl, rfl⟩))
    go_ret
    exact ⟨rfl, HB.out⟩
  · have exy : Wgh.cmpW a0.toNat a1.toNat = -1 := cmpW_l c1
    have eyx : Wgh.cmpW a1.toNat a0.toNat = 1 := cmpW_g c1
    have eyz : Wgh.cmpW a1.toNat a2.toNat = 1 := cmpW_g c2
    have exz : Wgh.cmpW a0.toNat a2.toNat = 1 := cmpW_g c3
    clear c1 c2 c3
    go_enter Try.func6, Try.ntmps6
    go_wp2_with (first | (go_at_call 10; refine (awake_any _).mono ?_; rintro e w1 ⟨rfl, hb⟩; have HB := Lib.hid hb; clear hb) | (go_at_call 13; refine (compare_any _ _ _ (by assumption) (by assumption) (by assumption) (by assumption)).mono ?_; rintro e w' ⟨rfl, rfl⟩))
    go_ret
    exact ⟨rfl, HB.out⟩
  · have exy : Wgh.cmpW a0.toNat a1.toNat = 0 := cmpW_e c1
    have eyx : Wgh.cmpW a1.toNat a0.toNat = 0 := cmpW_e c1.symm
    have eyz : Wgh.cmpW a1.toNat a2.toNat = -1 := cmpW_l c2
    have exz : Wgh.cmpW a0.toNat a2.toNat = -1 := cmpW_l c3
    clear c1 c2 c3
    go_enter Try.func6, Try.ntmps6
    go_wp2_with (first | (go_at_call 10; refine (awake_any _).mono ?_; rintro e w1 ⟨rfl, hb⟩; have HB := Lib.hid hb; clear hb) | (go_at_call 13; refine (compare_any _ _ _ (by assumption) (by assumption) (by assumption) (by assumption)).mono ?_; rintro e w' ⟨rfl, rfl⟩))
    go_ret
    exact ⟨rfl, HB.out⟩
  · have exy : Wgh.cmpW a0.toNat a1.toNat = 0 := cmpW_e c1
    have eyx : Wgh.cmpW a1.toNat a0.toNat = 0 := cmpW_e c1.symm
    have eyz : Wgh.cmpW a1.toNat a2.toNat = 0 := cmpW_e c2
    have exz : Wgh.cmpW a0.toNat a2.toNat = 0 := cmpW_e c3
    clear c1 c2 c3
    go_enter Try.func6, Try.ntmps6
    go_wp2_with (first | (go_at_call 10; refine (awake_any _).mono ?_; rintro e w1 ⟨rfl, hb⟩; have HB := Lib.hid hb; clear hb) | (go_at_call 13; refine (compare_any _ _ _ (by assumption) (by assumption) (by assumption) (by assumption)).mono ?_; rintro e w' ⟨rfl, rfl⟩))
    go_ret
    exact ⟨rfl, HB.out⟩
  · have exy : Wgh.cmpW a0.toNat a1.toNat = 0 := cmpW_e c1
    have eyx : Wgh.cmpW a1.toNat a0.toNat = 0 := cmpW_e c1.symm
    have eyz : Wgh.cmpW a1.toNat a2.toNat = 1 := cmpW_g c2
    have exz : Wgh.cmpW a0.toNat a2.toNat = 1 := cmpW_g c3
    clear c1 c2 c3
    go_enter Try.func6, Try.ntmps6
    go_wp2_with (first | (go_at_call 10; refine (awake_any _).mono ?_; rintro e w1 ⟨rfl, hb⟩; have HB := Lib.hid hb; clear hb) | (go_at_call 13; refine (compare_any _ _ _ (by assumption) (by assumption) (by assumption) (by assumption)).mono ?_; rintro e w' ⟨rfl, rfl⟩))
    go_ret
    exact ⟨rfl, HB.out⟩
  · have exy : Wgh.cmpW a0.toNat a1.toNat = 1 := cmpW_g c1
    have eyx : Wgh.cmpW a1.toNat a0.toNat = -1 := cmpW_l c1
    have eyz : Wgh.cmpW a1.toNat a2.toNat = -1 := cmpW_l c2
    have exz : Wgh.cmpW a0.toNat a2.toNat = -1 := cmpW_l c3
    clear c1 c2 c3
    go_enter Try.func6, Try.ntmps6
    go_wp2_with (first | (go_at_call 10; refine (awake_any _).mono ?_; rintro e w1 ⟨rfl, hb⟩; have HB := Lib.hid hb; clear hb) | (go_at_call 13; refine (compare_any _ _ _ (by assumption) (by assumption) (by assumption) (by assumption)).mono ?_; rintro e w' ⟨rfl, rfl⟩))
    go_ret
    exact ⟨rfl, HB.out⟩
  · have exy : Wgh.cmpW a0.toNat a1.toNat = 1 := cmpW_g c1
    have eyx : Wgh.cmpW a1.toNat a0.toNat = -1 := cmpW_l c1
    have eyz : Wgh.cmpW a1.toNat a2.toNat = -1 := cmpW_l c2
    have exz : Wgh.cmpW a0.toNat a2.toNat = 0 := cmpW_e c3
    clear c1 c2 c3
    go_enter Try.func6, Try.ntmps6
    go_wp2_with (first | (go_at_call 10; refine (awake_any _).mono ?_; rintro e w1 ⟨rfl, hb⟩; have HB := Lib.hid hb; clear hb) | (go_at_call 13; refine (compare_any _ _ _ (by assumption) (by assumption) (by assumption) (by assumption)).mono ?_; rintro e w' ⟨rfl, rfl⟩))
    go_ret
    exact ⟨rfl, HB.out⟩
  · have exy : Wgh.cmpW a0.toNat a1.toNat = 1 := cmpW_g c1
    have eyx : Wgh.cmpW a1.toNat a0.toNat = -1 := cmpW_l c1
    have eyz : Wgh.cmpW a1.toNat a2.toNat = -1 := cmpW_l c2
    have exz : Wgh.cmpW a0.toNat a2.toNat = 1 := cmpW_g c3
    clear c1 c2 c3
    go_enter Try.func6, Try.ntmps6
    go_wp2_with (first | (go_at_call 10; refine (awake_any _).mono ?_; rintro e w1 ⟨rfl, hb⟩; have HB := Lib.hid hb; clear hb) | (go_at_call 13; refine (compare_any _ _ _ (by assumption) (by assumption) (by assumption) (by assumption)).mono ?_; rintro e w' ⟨rfl, rfl⟩))
    go_ret
    exact ⟨rfl, HB.out⟩
  · have exy : Wgh.cmpW a0.toNat a1.toNat = 1 := cmpW_g c1
    have eyx : Wgh.cmpW a1.toNat a0.toNat = -1 := cmpW_l c1
    have eyz : Wgh.cmpW a1.toNat a2.toNat = 0 := cmpW_e c2
    have exz : Wgh.cmpW a0.toNat a2.toNat = 1 := cmpW_g c3
    clear c1 c2 c3
    go_enter Try.func6, Try.ntmps6
    go_wp2_with (first | (go_at_call 10; refine (awake_any _).mono ?_; rintro e w1 ⟨rfl, hb⟩; have HB := Lib.hid hb; clear hb) | (go_at_call 13; refine (compare_any _ _ _ (by assumption) (by assumption) (by assumption) (by assumption)).mono ?_; rintro e w' ⟨rfl, rfl⟩))
    go_ret
    exact ⟨rfl, HB.out⟩
  · have exy : Wgh.cmpW a0.toNat a1.toNat = 1 := cmpW_g c1
    have eyx : Wgh.cmpW a1.toNat a0.toNat = -1 := cmpW_l c1
    have eyz : Wgh.cmpW a1.toNat a2.toNat = 1 := cmpW_g c2
    have exz : Wgh.cmpW a0.toNat a2.toNat = 1 := cmpW_g c3
    clear c1 c2 c3
    go_enter Try.func6, Try.ntmps6
    go_wp2_with (first | (go_at_call 10; refine (awake_any _).mono ?_; rintro e w1 ⟨rfl, hb⟩; have HB := Lib.hid hb; clear hb) | (go_at_call 13; refine (compare_any _ _ _ (by assumption) (by assumption) (by assumption) (by assumption)).mono ?_; rintro e w' ⟨rfl, rfl⟩))
    go_ret
    exact ⟨rfl, HB.out⟩

/-! The row's step, as the shell has it. -/
set_option maxRecDepth 100000 in
theorem lifted (os : Os) (started : os.Started) (H : Type) (enc : TypeId × Value → H) :
    ReturnsInHanded {} Try.checked os 6 .any (Rows.weighOneSpec.pre6 enc Try.prog Try.f6 Rows.weighOneRow.domain false) (Rows.weighOneSpec.post enc Try.prog Try.f6 false true false false) := by
  refine returnsInHanded_of_change (C := Try.checked) own started (by kernel_rfl) Try.func6
    (ChangeSpec.witness6 (enc := enc) (C := Try.checked) false ⟨#[], #[.int .u64 0, .int .u64 0, .int .u64 0], []⟩ 8 (by kernel_rfl) (by kernel_rfl) (by kernel_rfl) (by kernel_rfl)) ?_
  intro W base args ds gs before hval0 hW hcnd _
  have hval : ∀ (j : Nat) t v, Try.f6.params[j]? = some t → args[j]? = some v → Value.okWide Try.prog W .any base t v := hval0
  have hW' := hW
  obtain ⟨p, q, hA0, hV, rfl, hfz, hnd⟩ := hW
  have hA : DataW.TrodAll enc Try.prog W 0 (fun _ => true) true Try.f6.params.toList args.toList ds p := hA0
  rw [Try.params6] at hA hval
  obtain ⟨v0, vs0, d0, ds0, p0, q0, hargs, rfl, rfl, h0, r0⟩ := trodAll_cons hA
  obtain ⟨v1, vs1, d1, ds1, p1, q1, rfl, rfl, rfl, h1, r1⟩ := trodAll_cons r0
  obtain ⟨v2, vs2, d2, ds2, p2, q2, rfl, rfl, rfl, h2, r2⟩ := trodAll_cons r1
  obtain ⟨rfl, rfl, rfl⟩ := trodAll_nil r2
  obtain rfl : args = #[v0, v1, v2] := by cases args; simp_all
  obtain ⟨rfl, rfl⟩ := trodVars_none hV
  obtain ⟨a0, rfl, rfl, rfl, w0⟩ := open_int Try.underlying22 (hval 0 22 v0 rfl rfl) h0
  obtain ⟨a1, rfl, rfl, rfl, w1⟩ := open_int Try.underlying22 (hval 1 22 v1 rfl rfl) h1
  obtain ⟨a2, rfl, rfl, rfl, w2⟩ := open_int Try.underlying22 (hval 2 22 v2 rfl rfl) h2
  clear hA0 hval0
  simp only [List.append_nil] at hW'
  refine (walk a0 a1 a2 w0 w1 w2 W).mono fun e W' ⟨he, hg⟩ => ?_
  subst he
  exact ⟨_, rfl, _, _, _, [], [], [], hW', (trodAll_cons_mk (shut_bool Try.underlying4 _) trodAll_mk0), (trodAll_cons_mk (shut_int Try.underlying22 w0) (trodAll_cons_mk (shut_int Try.underlying22 w1) (trodAll_cons_mk (shut_int Try.underlying22 w2) trodAll_mk0))), rfl, hg.frame _, fun h => by cases h⟩

theorem over : Rows.weighOneRow.holds Try.pinned (OpenSpec.ofChange Rows.weighOneSpec) :=
  OpenClaim.holds_of_wide 6 Try.f6 rfl rfl rfl rfl rfl rfl rfl ⟨rfl, rfl, rfl, rfl, rfl⟩ rfl rfl rfl rfl rfl (by kernel_rfl) Try.func6 (by kernel_rfl)
    (of_decide_eq_true (by kernel_rfl)) (by unfold Func.isWrapper; first | (rw [if_pos (by decide +kernel)]; kernel_rfl) | (rw [if_neg (by decide +kernel)]; exact ⟨rfl, rfl⟩))
    (fun os started H enc _ => lifted os started H enc)

/-- The statement. -/
theorem proved : Rows.WeighOneSaid :=
  over
#print axioms proved
end Go.Proofs.Ytpfcdpmpfgdnaaa.weighOne
