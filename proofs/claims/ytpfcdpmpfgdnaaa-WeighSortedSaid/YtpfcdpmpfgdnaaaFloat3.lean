/-
  PROVED HERE: plain facts on words of IEEE 754's double format that are whole numbers. No program in sight.
-/
import Derived.Test.YtpfcdpmpfgdnaaaFloat2
import Derived.Laws.FloatArith
namespace Wgh
open Ieee

/-- Is a word a whole number from -2^53 to 2^53? Which one? -/
def whB (x : Nat) : Bool := decide (rung x ≤ 4845873199050653696) && decide (val (rung x) % unit1 = 0)
def whV (x : Nat) : Int := if whB x then sg (sgn x) (whole x) else 0
/-- A whole number's word. -/
def outB (n : Int) : Bool := decide (n < -9007199254740992) || decide (9007199254740992 < n)
def fromE (n : Int) : Int := if outB n then 3 else 0
def fromW (n : Int) : Nat := if outB n then 0 else wd (decide (n < 0)) (rungOf n.natAbs)

theorem trunc_ne (x : Nat) (h : rung x ≤ 4845873199050653696) : (Go.FloatKind.f64.format.order x (wd (sgn x) (rungOf (whole x))) != some .eq) = !decide (val (rung x) % unit1 = 0) := by
  rw [t_ne]
  have hb := rungOf_bd (whole x) (whole_le x h)
  have hs := trunc_same x h
  unfold feq
  have n1 : isNan x = false := by unfold isNan; simp; omega
  have n2 : isNan (wd (sgn x) (rungOf (whole x))) = false := by unfold isNan; rw [rung_wd _ _ (by omega)]; simp; omega
  rw [n1, n2]
  have k2 : key (wd (sgn x) (rungOf (whole x))) = sg (sgn x) (rungOf (whole x)) := by rw [key_sg, sgn_wd _ _ (by omega), rung_wd _ _ (by omega)]
  rw [k2, key_sg]
  congr 1
  simp only [Bool.not_false, Bool.true_and]
  rw [decide_eq_decide, ← hs]
  cases sgn x <;> simp only [sg, Bool.false_eq_true, if_true, if_false] <;> omega

theorem toInt_whole (x : Nat) (h : rung x ≤ 4845873199050653696) : Go.floatToIntVal .f64 x .i64 = some (sg (sgn x) (whole x)) := by
  have hw := whole_le x h
  unfold Go.floatToIntVal
  have e : (Go.FloatKind.f64.decode x).toInt .zero = some (sg (sgn x) (whole x)) := by
    show (match (double.read x).integral .zero with | .number s m _ => some (signed s m 0) | _ => none) = _
    rw [read_trunc x (by omega)]
    show some (signed (sgn x) (whole x) 0) = _
    rw [signed_sg, Nat.pow_zero, Nat.mul_one]
  rw [e]
  show (if Go.IntKind.i64.min ≤ sg (sgn x) (whole x) ∧ sg (sgn x) (whole x) ≤ Go.IntKind.i64.max then some (sg (sgn x) (whole x)) else none) = _
  rw [if_pos]
  have e1 : Go.IntKind.i64.min = -9223372036854775808 := by decide
  have e2 : Go.IntKind.i64.max = 9223372036854775807 := by decide
  rw [e1, e2]
  unfold sg
  cases sgn x <;> simp <;> omega

theorem of_int (n : Int) (h : outB n = false) : Go.floatOfInt .f64 n = fromW n := by
  unfold fromW
  rw [h]
  unfold outB at h
  simp at h
  exact nearest_whole _ _ (by omega)

theorem unit1_split (k : Nat) (h : k ≤ 1074) : unit1 = 2 ^ (1074 - k) * 2 ^ k := by
  have he := e74_is
  unfold unit1
  rw [← Nat.pow_add]
  congr 1
  omega

/-- THE DOCUMENT's WAY TO A WHOLE NUMBER, by its bits. -/
theorem whole_bits (x : Nat) (e f : Nat) (he : rung x = e * 4503599627370496 + f) (hf : f < 4503599627370496) :
    (e = 0 ∧ f = 0 → whB x = true ∧ whole x = 0) ∧ (e < 1023 → ¬ (e = 0 ∧ f = 0) → whB x = false) ∧
    (1023 ≤ e → e ≤ 1075 → whB x = decide ((f + 4503599627370496) % 2 ^ (1075 - e) = 0) ∧ whole x = (f + 4503599627370496) / 2 ^ (1075 - e)) ∧
    (e = 1076 → f = 0 → whB x = true ∧ whole x = 9007199254740992) ∧ (e = 1076 → ¬ f = 0 → whB x = false) ∧ (1076 < e → whB x = false) := by
  refine ⟨?_, ?_, ?_, ?_, ?_, ?_⟩
  · rintro ⟨rfl, rfl⟩
    have h0 : rung x = 0 := by omega
    unfold whB whole
    rw [h0, show val 0 = 0 from rfl]
    simp
  · intro h1 h2
    have hpos : 0 < val (rung x) := by
      have := (val_lt_iff 0 (rung x)).2 (by omega)
      rwa [show val 0 = 0 from rfl] at this
    have hlt : val (rung x) < unit1 := by
      have a := val_rungOf 1 (by omega)
      have b : rungOf 1 = 4607182418800017408 := by unfold rungOf; rw [if_neg (by omega), if_neg (by omega), show (1 : Nat).log2 = 0 from rfl]
      rw [b, Nat.one_mul] at a
      rw [← a]
      exact val_lt (by omega)
    unfold whB
    rw [Nat.mod_eq_of_lt hlt]
    simp
    omega
  · intro h1 h2
    have v : val (rung x) = (f + 4503599627370496) * 2 ^ (e - 1) := by
      rw [val_big _ (by omega)]
      congr 1
      · omega
      · congr 1; omega
    have u := unit1_split (e - 1) (by omega)
    rw [show 1074 - (e - 1) = 1075 - e from by omega] at u
    have hp := Nat.two_pow_pos (e - 1)
    constructor
    · unfold whB
      rw [v, u, Nat.mul_mod_mul_right]
      rw [show decide (rung x ≤ 4845873199050653696) = true from by simp; omega, Bool.true_and, decide_eq_decide]
      constructor
      · intro h
        rcases Nat.mul_eq_zero.1 h with h | h
        · exact h
        · omega
      · intro h; rw [h, Nat.zero_mul]
    · unfold whole
      rw [v, u, Nat.mul_div_mul_right _ _ hp]
  · rintro rfl rfl
    have hr : rung x = 4845873199050653696 := by omega
    have a := val_rungOf 9007199254740992 (by omega)
    have b : rungOf 9007199254740992 = 4845873199050653696 := by unfold rungOf; rw [if_neg (by omega), if_pos rfl]
    rw [b] at a
    unfold whB whole
    rw [hr, a, Nat.mul_mod_left, Nat.mul_div_cancel _ unit1_pos]
    simp
  · rintro rfl h
    unfold whB
    rw [show decide (rung x ≤ 4845873199050653696) = false from by simp; omega]
    rfl
  · intro h
    unfold whB
    rw [show decide (rung x ≤ 4845873199050653696) = false from by simp; omega]
    rfl

end Wgh
