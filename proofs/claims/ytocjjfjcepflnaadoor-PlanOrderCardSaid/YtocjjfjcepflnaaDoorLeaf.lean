/-
  PROVED HERE: what the small functions of the program and of the document's answer compute (classes, comparisons), for every word. No condition but that a word has 64 bits.
-/
import Derived.Test.YtocjjfjcepflnaaDoorProg
import Derived.Test.YtocjjfjcepflnaaDoorFloat2
import Derived.WalkKit
import Derived.WalkSpells
import Derived.WalkLawsBesides
import Derived.Laws.FloatArith
import Derived.Laws.Externs
import Derived.Laws.BitsAllLaws
import Derived.Lib.Hide
namespace Go.Proofs.YtocjjfjcepflnaaDoor
open Go.RowKit

theorem run_frombits (x : Int) (w : World) : (callFunc 71 #[.int .u64 x]).run Tryd.prog w = .ok (.value (.float .f64 x.toNat)) w := by
  rw [run_callFunc_extern (e := Extern.MathFloatBits.float64frombits) Tryd.func71 (by kernel_rfl) (by kernel_rfl) (by kernel_rfl) (by kernel_rfl)]
  rfl
theorem run_neg (x : Nat) (w : World) : (Op.unary .neg (.float .f64 x)).run Tryd.prog w = .ok (.float .f64 (Op.negFloat .f64 x)) w := rfl

set_option maxHeartbeats 400000 in
theorem number_any (x : Int) (w : World) : Calls Tryd.prog 62 #[.int .u64 x] w fun e w' => e = .returned (.float .f64 x.toNat) ∧ w = w' := by
  have h1 := run_frombits x
  go_enter Tryd.func62, Tryd.ntmps62
  go_wp2
  go_ret
  exact ⟨rfl, rfl⟩

theorem inf_test (x : Nat) : (FloatKind.f64.format.order (Wgh.rung x) 9218868437227405311 == some .gt) = decide (Wgh.rung x = 9218868437227405312) := by
  rw [Wgh.t_gt]
  unfold Wgh.flt
  rw [Wgh.nan_rung, Wgh.key_of_rung, (Wgh.key_rung 9218868437227405311 (by omega)).1]
  have h2 : Wgh.isNan 9218868437227405311 = false := by unfold Wgh.isNan; rw [(Wgh.key_rung 9218868437227405311 (by omega)).2]; simp
  rw [h2]
  unfold Wgh.isNan
  rcases Nat.lt_trichotomy (Wgh.rung x) 9218868437227405312 with h | h | h
  · have e1 : decide (9218868437227405312 < Wgh.rung x) = false := by simp; omega
    have e2 : decide (Wgh.rung x = 9218868437227405312) = false := by simp; omega
    rw [e1, e2]; simp; omega
  · rw [h]; rfl
  · have e1 : decide (9218868437227405312 < Wgh.rung x) = true := by simp; omega
    have e2 : decide (Wgh.rung x = 9218868437227405312) = false := by simp; omega
    rw [e1, e2]; rfl

theorem zero_test (x : Nat) : (FloatKind.f64.format.order x 0 == some .eq) = decide (Wgh.rung x = 0) := by
  rw [Wgh.t_eq]
  unfold Wgh.feq
  have h2 : Wgh.isNan 0 = false := rfl
  have h3 : Wgh.key 0 = 0 := rfl
  rw [h2, h3]
  unfold Wgh.isNan Wgh.key
  have := Wgh.rung_lt x
  by_cases h : Wgh.rung x = 0
  · rw [h]; cases Wgh.sgn x <;> rfl
  · have e2 : decide (Wgh.rung x = 0) = false := by simp; omega
    rw [e2]
    cases Wgh.sgn x <;> simp <;> omega

theorem tiny_test (x : Nat) : (FloatKind.f64.format.order (Wgh.rung x) 4503599627370496 == some .lt) = decide (Wgh.rung x < 4503599627370496) := by
  rw [Wgh.t_lt]
  unfold Wgh.flt
  rw [Wgh.nan_rung, Wgh.key_of_rung, (Wgh.key_rung 4503599627370496 (by omega)).1]
  have h2 : Wgh.isNan 4503599627370496 = false := by unfold Wgh.isNan; rw [(Wgh.key_rung 4503599627370496 (by omega)).2]; simp
  rw [h2]
  unfold Wgh.isNan
  by_cases h : Wgh.rung x < 4503599627370496
  · simp [h]; omega
  · simp [h]; omega

theorem nan_test (x : Nat) : (FloatKind.f64.format.order x x != some .eq) = Wgh.isNan x := by
  rw [Wgh.t_ne]
  unfold Wgh.feq
  cases Wgh.isNan x <;> simp

end Go.Proofs.YtocjjfjcepflnaaDoor
