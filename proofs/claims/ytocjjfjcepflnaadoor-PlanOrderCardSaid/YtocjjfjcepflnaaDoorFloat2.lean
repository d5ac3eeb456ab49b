/-
  PROVED HERE: plain facts on the words of IEEE 754's double format: the word of a whole number, of twice a number, of a number cut towards zero. No program in sight.
-/
import Derived.Test.YtocjjfjcepflnaaDoorFloat
import GoSem.Op.Unary
import Derived.Laws.BitsAllLaws
namespace Wgh
open Ieee

theorem log2_bounds {n : Nat} (h : n ≠ 0) : 2 ^ n.log2 ≤ n ∧ n < 2 ^ (n.log2 + 1) := ⟨Nat.log2_self_le h, Nat.lt_log2_self⟩
theorem log2_eq {n k : Nat} (h1 : 2 ^ k ≤ n) (h2 : n < 2 ^ (k + 1)) : n.log2 = k := by
  have hn : n ≠ 0 := by have := Nat.two_pow_pos k; omega
  have a := (Nat.le_log2 hn).2 h1
  have b := (Nat.log2_lt hn).2 h2
  omega

theorem cut_exact (way : Toward) (neg : Bool) (n drop q : Nat) (hn : n ≠ 0) (h : n = q * 2 ^ drop) : way.cut neg n drop = q := by
  have hd : drop ≤ n.log2 := by
    refine (Nat.le_log2 hn).2 ?_
    rw [h]
    rcases Nat.eq_zero_or_pos q with h0 | h0
    · subst h0; simp at h; exact absurd h hn
    · exact Nat.le_mul_of_pos_left _ h0
  have hp := Nat.two_pow_pos drop
  unfold Toward.cut
  rw [Nat.min_eq_left (by omega), Nat.shiftLeft_eq, Nat.one_mul]
  have e1 : n / 2 ^ drop = q := by rw [h]; exact Nat.mul_div_cancel _ hp
  have e2 : n % 2 ^ drop = 0 := by rw [h]; exact Nat.mul_mod_left _ _
  simp only [e1, e2]
  generalize 2 ^ drop = g at *
  have e3 : (g == 2 * 0) = false := by simp; omega
  cases way <;> simp [e3]

theorem cut_zero (neg : Bool) (n drop : Nat) : Toward.zero.cut neg n drop = n / 2 ^ drop := by
  unfold Toward.cut
  rw [Nat.shiftLeft_eq, Nat.one_mul]
  show n / 2 ^ _ + 0 = _
  rw [Nat.add_zero]
  rcases Nat.le_total drop (n.log2 + 2) with h | h
  · rw [Nat.min_eq_left h]
  · rw [Nat.min_eq_right h]
    have h1 : n < 2 ^ (n.log2 + 1) := Nat.lt_log2_self
    have h2 : 2 ^ (n.log2 + 1) ≤ 2 ^ (n.log2 + 2) := Nat.pow_le_pow_right (by omega) (by omega)
    have h3 : 2 ^ (n.log2 + 2) ≤ 2 ^ drop := Nat.pow_le_pow_right (by omega) h
    rw [Nat.div_eq_of_lt (by omega), Nat.div_eq_of_lt (by omega)]

/-- The word of a sign and a rung. -/
def wd (s : Bool) (r : Nat) : Nat := if s then 9223372036854775808 + r else r
theorem word_wd (s : Bool) (r : Nat) : double.word s r = wd s r := rfl
theorem rung_wd (s : Bool) (r : Nat) (h : r < 9223372036854775808) : rung (wd s r) = r := by
  unfold rung wd
  cases s <;> simp <;> omega
theorem sgn_wd (s : Bool) (r : Nat) (h : r < 9223372036854775808) : sgn (wd s r) = s := by
  unfold sgn wd
  cases s <;> simp <;> omega
theorem wd_of (x : Nat) (h : x < 18446744073709551616) : wd (sgn x) (rung x) = x := by
  unfold wd sgn rung
  by_cases hs : x < 9223372036854775808
  · rw [show x / 9223372036854775808 % 2 = 0 from by omega]; simp; omega
  · rw [show x / 9223372036854775808 % 2 = 1 from by omega]; simp; omega
theorem rung_lt (x : Nat) : rung x < 9223372036854775808 := Nat.mod_lt _ (by omega)

theorem nearest_zero (s : Bool) (p : Int) : double.nearest s 0 p = wd s 0 := rfl

/-- A number that the format has: just its word. -/
theorem nearest_exact (s : Bool) (mag : Nat) (place : Int) (hm : mag ≠ 0) (last : Int) (hl : last = max (place + mag.log2 - 52) (-1074)) (q : Nat)
    (hq : mag * 2 ^ (place - last).toNat = q * 2 ^ (last - place).toNat) :
    double.nearest s mag place = wd s (min ((last + 1074).toNat * 4503599627370496 + q) 9218868437227405312) := by
  have e : double.nearest s mag place = if mag = 0 then double.word s 0 else
      double.word s (min ((max (place + mag.log2 - 52) (-1074) + 1074).toNat * 4503599627370496 + Toward.even.cut s (mag <<< (place - max (place + mag.log2 - 52) (-1074)).toNat) (max (place + mag.log2 - 52) (-1074) - place).toNat) 9218868437227405312) := rfl
  rw [e, if_neg hm, ← hl, word_wd, Nat.shiftLeft_eq, cut_exact _ _ _ _ q ?_ hq]
  exact Nat.mul_ne_zero hm (Nat.ne_of_gt (Nat.two_pow_pos _))

/-- The rung of a whole number up to 2^53. -/
def rungOf (m : Nat) : Nat := if m = 0 then 0 else if m = 9007199254740992 then 4845873199050653696 else (m.log2 + 1022) * 4503599627370496 + m * 2 ^ (52 - m.log2)

theorem log2_le (m : Nat) (h0 : m ≠ 0) (h : m < 9007199254740992) : m.log2 ≤ 52 := by
  have := (Nat.log2_lt (k := 53) h0).2 (by simpa using h)
  omega
theorem lead (m : Nat) (h0 : m ≠ 0) (h : m < 9007199254740992) : 4503599627370496 ≤ m * 2 ^ (52 - m.log2) ∧ m * 2 ^ (52 - m.log2) < 9007199254740992 := by
  have hl := log2_le m h0 h
  obtain ⟨a, b⟩ := log2_bounds h0
  have hp := Nat.two_pow_pos (52 - m.log2)
  constructor
  · calc 4503599627370496 = 2 ^ m.log2 * 2 ^ (52 - m.log2) := by rw [← Nat.pow_add, show m.log2 + (52 - m.log2) = 52 from by omega]
      _ ≤ _ := Nat.mul_le_mul_right _ a
  · calc m * 2 ^ (52 - m.log2) < 2 ^ (m.log2 + 1) * 2 ^ (52 - m.log2) := Nat.mul_lt_mul_of_pos_right b hp
      _ = 9007199254740992 := by rw [← Nat.pow_add, show m.log2 + 1 + (52 - m.log2) = 53 from by omega]

theorem rungOf_bd (m : Nat) (h : m ≤ 9007199254740992) : rungOf m ≤ 4845873199050653696 := by
  unfold rungOf
  split
  · omega
  · split
    · omega
    · rename_i h0 h1
      have := lead m h0 (by omega)
      have := log2_le m h0 (by omega)
      omega

theorem log2_53 : (9007199254740992 : Nat).log2 = 53 := log2_eq (k := 53) (by decide) (by decide)
theorem min_53 : min (1075 * 4503599627370496 + 4503599627370496) 9218868437227405312 = 4845873199050653696 := by omega
theorem nearest_53 (s : Bool) : double.nearest s 9007199254740992 0 = wd s 4845873199050653696 := by
  have h := nearest_exact s 9007199254740992 0 (by omega) 1 (by rw [log2_53]; omega) 4503599627370496 (by
      rw [show ((0 : Int) - 1).toNat = 0 from by omega, show ((1 : Int) - 0).toNat = 1 from by omega])
  rw [show ((1 : Int) + 1074).toNat = 1075 from by omega, min_53] at h
  exact h

theorem nearest_whole (s : Bool) (m : Nat) (h : m ≤ 9007199254740992) : double.nearest s m 0 = wd s (rungOf m) := by
  unfold rungOf
  by_cases h0 : m = 0
  · rw [if_pos h0, h0]; exact nearest_zero s 0
  by_cases h1 : m = 9007199254740992
  · rw [if_neg h0, if_pos h1, h1]
    exact nearest_53 s
  · have hl := log2_le m h0 (by omega)
    have hd := lead m h0 (by omega)
    rw [nearest_exact s _ 0 h0 ((m.log2 : Int) - 52) (by omega) (m * 2 ^ (52 - m.log2)) (by
      rw [show (0 - ((m.log2 : Int) - 52)).toNat = 52 - m.log2 from by omega, show ((m.log2 : Int) - 52 - 0).toNat = 0 from by omega]
      simp)]
    rw [if_neg h0, if_neg h1, show ((m.log2 : Int) - 52 + 1074).toNat = m.log2 + 1022 from by omega]
    congr 1
    omega

/-- One, in units of the least magnitude. -/
def e74 : Nat := 1074
theorem e74_is : e74 = 1074 := rfl
def unit1 : Nat := 2 ^ e74
theorem unit1_pos : 0 < unit1 := Nat.two_pow_pos _

theorem val_big (r : Nat) (h : 4503599627370496 ≤ r) : val r = (4503599627370496 + r % 4503599627370496) * 2 ^ (r / 4503599627370496 - 1) := by
  unfold val
  rw [if_neg (by omega)]

theorem val_rungOf (m : Nat) (h : m ≤ 9007199254740992) : val (rungOf m) = m * unit1 := by
  have he := e74_is
  unfold rungOf unit1
  by_cases h0 : m = 0
  · subst h0; rw [if_pos rfl, Nat.zero_mul]; rfl
  by_cases h1 : m = 9007199254740992
  · subst h1
    rw [if_neg (by omega), if_pos rfl, val_big _ (by omega)]
    have e2 : 4845873199050653696 / 4503599627370496 - 1 = e74 + 1 := by omega
    rw [show (4503599627370496 + 4845873199050653696 % 4503599627370496) = 4503599627370496 from by omega, e2, Nat.pow_succ]
    generalize 2 ^ e74 = k
    omega
  · rw [if_neg h0, if_neg h1]
    have hl := log2_le m h0 (by omega)
    have hd := lead m h0 (by omega)
    rw [val_big _ (by omega)]
    rw [show (4503599627370496 + ((m.log2 + 1022) * 4503599627370496 + m * 2 ^ (52 - m.log2)) % 4503599627370496) = m * 2 ^ (52 - m.log2) from by omega]
    have e2 : ((m.log2 + 1022) * 4503599627370496 + m * 2 ^ (52 - m.log2)) / 4503599627370496 - 1 = m.log2 + 1022 := by omega
    have e3 : 52 - m.log2 + (m.log2 + 1022) = e74 := by omega
    rw [e2, Nat.mul_assoc, ← Nat.pow_add, e3]

/-- The sign bit turned. -/
theorem neg_double (x : Nat) (h : x < 18446744073709551616) : Go.Op.negFloat .f64 x = wd (!sgn x) (rung x) := by
  show x ^^^ 2 ^ 63 = _
  have e1 := wd_of x h
  have h2 : (x ^^^ 2 ^ 63) / 2 ^ 63 = x / 2 ^ 63 ^^^ 1 := by rw [Nat.xor_div_two_pow]
  have h3 : (x ^^^ 2 ^ 63) % 2 ^ 63 = x % 2 ^ 63 := by rw [Nat.xor_mod_two_pow]; simp
  have h4 := Nat.div_add_mod (x ^^^ 2 ^ 63) (2 ^ 63)
  rw [h2, h3] at h4
  generalize x ^^^ 2 ^ 63 = y at *
  unfold wd sgn rung
  rcases (show x / 2 ^ 63 = 0 ∨ x / 2 ^ 63 = 1 from by omega) with e | e
  · rw [e] at h4
    rw [show x / 9223372036854775808 % 2 = 0 from by omega]
    simp at h4 ⊢
    omega
  · rw [e] at h4
    rw [show x / 9223372036854775808 % 2 = 1 from by omega]
    simp at h4 ⊢
    omega

/-- Twice a number. -/
def twiceW (x : Nat) : Nat :=
  if 9218868437227405312 ≤ rung x then x
  else if rung x < 4503599627370496 then wd (sgn x) (2 * rung x)
  else wd (sgn x) (min (rung x + 4503599627370496) 9218868437227405312)

theorem read_two : double.read 4611686018427387904 = .number false 4503599627370496 (-1074 + ((1023 : Nat) : Int)) := by
  rw [read_double]; rfl

theorem mul_two (x : Nat) (h : x < 18446744073709551616) (hn : isNan x = false) : double.mul 4611686018427387904 x = some (twiceW x) := by
  unfold Format.mul twiceW
  rw [read_two]
  have hr := rung_lt x
  rcases Nat.lt_trichotomy (rung x) 9218868437227405312 with hx | hx | hx
  · rw [if_neg (by omega), read_double]
    by_cases h1 : rung x < 4503599627370496
    · rw [if_pos h1, if_pos h1]
      show some (double.nearest (false ^^ sgn x) (4503599627370496 * rung x) _) = _
      rw [Bool.false_xor]
      by_cases h0 : rung x = 0
      · rw [h0]; rfl
      have hb := log2_bounds h0
      have hl : (4503599627370496 * rung x).log2 = 52 + (rung x).log2 := by
        refine log2_eq ?_ ?_
        · rw [Nat.pow_add]; exact Nat.mul_le_mul_left _ hb.1
        · rw [Nat.add_assoc, Nat.pow_add]; exact Nat.mul_lt_mul_of_pos_left hb.2 (by omega)
      have hl2 : (rung x).log2 < 52 := (Nat.log2_lt h0).2 (by simpa using h1)
      rw [nearest_exact (sgn x) _ _ (by omega) (-1074) (by rw [hl]; omega) (2 * rung x) (by
        rw [show (-1074 + ((1023 : Nat) : Int) + -1074 - -1074).toNat = 0 from by omega, show (-1074 - (-1074 + ((1023 : Nat) : Int) + -1074)).toNat = 51 from by omega]
        omega)]
      rw [show ((-1074 : Int) + 1074).toNat = 0 from by omega, Nat.zero_mul, Nat.zero_add, Nat.min_eq_left (by omega)]
    · rw [if_neg h1, if_neg h1, if_pos hx]
      show some (double.nearest (false ^^ sgn x) (4503599627370496 * (4503599627370496 + rung x % 4503599627370496)) _) = _
      rw [Bool.false_xor]
      have hl : (4503599627370496 * (4503599627370496 + rung x % 4503599627370496)).log2 = 104 := by
        refine log2_eq ?_ ?_
        · rw [show (2 : Nat) ^ 104 = 4503599627370496 * 4503599627370496 from by decide]; exact Nat.mul_le_mul_left _ (by omega)
        · rw [show (2 : Nat) ^ (104 + 1) = 4503599627370496 * 9007199254740992 from by decide]; exact Nat.mul_lt_mul_of_pos_left (by omega) (by omega)
      generalize hk : rung x / 4503599627370496 - 1 = k
      rw [nearest_exact (sgn x) _ _ (by omega) (-1074 + ((1 + k : Nat) : Int)) (by rw [hl]; omega) (4503599627370496 + rung x % 4503599627370496) (by
        rw [show (-1074 + ((1023 : Nat) : Int) + (-1074 + (k : Int)) - (-1074 + ((1 + k : Nat) : Int))).toNat = 0 from by omega, show (-1074 + ((1 + k : Nat) : Int) - (-1074 + ((1023 : Nat) : Int) + (-1074 + (k : Int)))).toNat = 52 from by omega]
        omega)]
      rw [show (-1074 + ((1 + k : Nat) : Int) + 1074).toNat = 1 + k from by omega]
      rw [show (1 + k) * 4503599627370496 + (4503599627370496 + rung x % 4503599627370496) = rung x + 4503599627370496 from by omega]
  · rw [read_inf x hx, if_pos (by omega)]
    have e : (Datum.number false 4503599627370496 (-1074 + ((1023 : Nat) : Int))).product (Datum.infinity (sgn x)) = if (4503599627370496 : Nat) = 0 then none else some (.infinity (sgn x ^^ false)) := rfl
    rw [e, if_neg (by omega), Bool.xor_false]
    show some (double.word (sgn x) 9218868437227405312) = _
    rw [word_wd]
    have := wd_of x h
    rw [hx] at this
    rw [this]
  · unfold isNan at hn
    simp at hn
    omega

/-- A number cut towards zero. -/
theorem integral_zero (s : Bool) (m a : Nat) : (Datum.number s m (-1074 + (a : Int))).integral .zero = .number s (m * 2 ^ a / unit1) 0 := by
  have he := e74_is
  show Datum.number s (Toward.zero.cut s (m <<< (-1074 + (a : Int)).toNat) (-(-1074 + (a : Int))).toNat) 0 = _
  rw [cut_zero, Nat.shiftLeft_eq]
  unfold unit1
  congr 1
  rcases Nat.le_total e74 a with h | h
  · rw [show (-1074 + (a : Int)).toNat = a - e74 from by omega, show (-(-1074 + (a : Int))).toNat = 0 from by omega, Nat.pow_zero, Nat.div_one]
    have h1 : 2 ^ a = 2 ^ (a - e74) * 2 ^ e74 := by rw [← Nat.pow_add]; congr 1; omega
    rw [h1, ← Nat.mul_assoc, Nat.mul_div_cancel _ (Nat.two_pow_pos _)]
  · rw [show (-1074 + (a : Int)).toNat = 0 from by omega, show (-(-1074 + (a : Int))).toNat = e74 - a from by omega, Nat.pow_zero, Nat.mul_one]
    have h1 : 2 ^ e74 = 2 ^ (e74 - a) * 2 ^ a := by rw [← Nat.pow_add]; congr 1; omega
    rw [h1, Nat.mul_div_mul_right _ _ (Nat.two_pow_pos _)]

/-- The whole part of a finite word. -/
def whole (x : Nat) : Nat := val (rung x) / unit1

theorem read_trunc (x : Nat) (h : rung x < 9218868437227405312) : (double.read x).integral .zero = .number (sgn x) (whole x) 0 := by
  obtain ⟨m, a, e, v⟩ := read_fin x h
  rw [e, integral_zero, v]
  rfl

theorem whole_le (x : Nat) (h : rung x ≤ 4845873199050653696) : whole x ≤ 9007199254740992 := by
  have h1 := val_rungOf 9007199254740992 (by omega)
  have h2 : rungOf 9007199254740992 = 4845873199050653696 := by unfold rungOf; rw [if_neg (by omega), if_pos rfl]
  rw [h2] at h1
  unfold whole
  have h3 : val (rung x) ≤ 9007199254740992 * unit1 := by
    rw [← h1]
    rcases Nat.lt_or_ge (rung x) 4845873199050653696 with h4 | h4
    · exact Nat.le_of_lt (val_lt h4)
    · rw [show rung x = 4845873199050653696 from by omega]; exact Nat.le_refl _
  have := Nat.div_le_div_right (c := unit1) h3
  rwa [Nat.mul_div_cancel _ unit1_pos] at this

/-- The word that a number is cut to; it is the number where that is whole. -/
theorem trunc_word (x : Nat) (h : rung x ≤ 4845873199050653696) : double.write ((double.read x).integral .zero) = wd (sgn x) (rungOf (whole x)) := by
  rw [read_trunc x (by omega)]
  exact nearest_whole _ _ (whole_le x h)

theorem trunc_same (x : Nat) (h : rung x ≤ 4845873199050653696) : rungOf (whole x) = rung x ↔ val (rung x) % unit1 = 0 := by
  have h1 := val_rungOf (whole x) (whole_le x h)
  have h2 := Nat.div_add_mod (val (rung x)) unit1
  have h4 : unit1 * (val (rung x) / unit1) = whole x * unit1 := Nat.mul_comm _ _
  constructor
  · intro h3
    rw [h3] at h1
    omega
  · intro h3
    refine val_inj ?_
    rw [h1]
    omega

/-- The tests, as Bool. -/
def flt (x y : Nat) : Bool := !isNan x && !isNan y && decide (key x < key y)
def feq (x y : Nat) : Bool := !isNan x && !isNan y && decide (key x = key y)
theorem t_lt (x y : Nat) : (Go.FloatKind.f64.format.order x y == some .lt) = flt x y := by
  show (double.order x y == _) = _
  rw [order_double]
  unfold flt cmpI
  cases isNan x <;> cases isNan y <;> simp
  split
  · simp [*]
  · split <;> simp [*]
theorem t_gt (x y : Nat) : (Go.FloatKind.f64.format.order x y == some .gt) = flt y x := by
  show (double.order x y == _) = _
  rw [order_double]
  unfold flt cmpI
  cases isNan x <;> cases isNan y <;> simp
  split
  · simp; omega
  · split <;> simp <;> omega
theorem t_eq (x y : Nat) : (Go.FloatKind.f64.format.order x y == some .eq) = feq x y := by
  show (double.order x y == _) = _
  rw [order_double]
  unfold feq cmpI
  cases isNan x <;> cases isNan y <;> simp
  split
  · simp; omega
  · split <;> simp [*]
theorem t_ne (x y : Nat) : (Go.FloatKind.f64.format.order x y != some .eq) = !feq x y := by rw [bne, t_eq]

/-- The sign taken away. -/
theorem andNot_rung (x : Nat) (h : x < 18446744073709551616) : Go.bits .andNot .u64 (x : Int) 9223372036854775808 = ((rung x : Nat) : Int) := by
  have := Go.u64_andNot_nat x 9223372036854775808 h (by omega)
  rw [show (((9223372036854775808 : Nat) : Int)) = 9223372036854775808 from rfl] at this
  rw [this]
  congr 1
  exact Nat.and_two_pow_sub_one_eq_mod x 63

/-- A weight's class. -/
def cls (x : Nat) : Int := if 9218868437227405312 < rung x then 4 else if rung x = 9218868437227405312 then 3 else if rung x = 0 then 0 else if rung x < 4503599627370496 then 1 else 2
/-- Where a weight stands among all, what is no number behind them. -/
def wt (x : Nat) : Int := if isNan x then 9223372036854775808 else key x
/-- Which one weighs less. -/
def cmpW (x y : Nat) : Int := if wt x < wt y then -1 else if wt y < wt x then 1 else 0
def clampW (x y z : Nat) : Nat := if cmpW x y < 0 then y else if 0 < cmpW x z then z else x
def turnW (x : Nat) : Nat := if isNan x then x else wd (!sgn x) (rung x)
def twoW (x : Nat) : Nat := if isNan x then x else twiceW x

theorem key_bd (x : Nat) : -9223372036854775808 < key x ∧ key x < 9223372036854775808 := by
  have := rung_lt x
  unfold key
  split <;> omega
theorem key_rung (x : Nat) (h : x < 9223372036854775808) : key x = x ∧ rung x = x := by
  unfold key sgn rung
  rw [Nat.mod_eq_of_lt h, Nat.div_eq_of_lt h]
  simp
theorem rung_rung (x : Nat) : rung (rung x) = rung x := Nat.mod_mod _ _
theorem key_of_rung (x : Nat) : key (rung x) = (rung x : Int) := (key_rung _ (rung_lt x)).1
theorem nan_rung (x : Nat) : isNan (rung x) = isNan x := by unfold isNan; rw [rung_rung]

theorem key_int (n : Nat) (h : n < 18446744073709551616) : key n = if n < 9223372036854775808 then (n : Int) else 9223372036854775808 - (n : Int) := by
  unfold key sgn rung
  split
  · rename_i h1
    simp only [beq_iff_eq] at h1
    rw [if_neg (by omega)]
    omega
  · rename_i h1
    simp only [beq_iff_eq] at h1
    rw [if_pos (by omega)]
    omega
theorem cls_nan (n : Nat) : (cls n == 4) = isNan n := by
  unfold cls isNan
  by_cases h : 9218868437227405312 < rung n
  · rw [if_pos h]; simp [h]
  · rw [if_neg h]
    simp only [h, decide_false]
    repeat' split
    all_goals rfl
theorem cmpW_nums (x y : Nat) (hx : isNan x = false) (hy : isNan y = false) : cmpW x y = if key x < key y then -1 else if key y < key x then 1 else 0 := by
  unfold cmpW wt
  rw [hx, hy]
  rfl
theorem cmpW_nan1 (x y : Nat) (hx : isNan x = true) (hy : isNan y = false) : cmpW x y = 1 := by
  have := key_bd y
  unfold cmpW wt
  rw [hx, hy]
  simp
  omega
theorem cmpW_nan2 (x y : Nat) (hx : isNan x = false) (hy : isNan y = true) : cmpW x y = -1 := by
  have := key_bd x
  unfold cmpW wt
  rw [hx, hy]
  simp
  omega
theorem cmpW_nan3 (x y : Nat) (hx : isNan x = true) (hy : isNan y = true) : cmpW x y = 0 := by
  unfold cmpW wt
  rw [hx, hy]
  simp

theorem twoW_num (x : Nat) (h : isNan x = false) : twoW x = twiceW x := by unfold twoW; rw [h]; simp
theorem twoW_nan (x : Nat) (h : isNan x = true) : twoW x = x := by unfold twoW; rw [if_pos h]
theorem turnW_num (x : Nat) (h : isNan x = false) : turnW x = wd (!sgn x) (rung x) := by unfold turnW; rw [h]; simp
theorem turnW_nan (x : Nat) (h : isNan x = true) : turnW x = x := by unfold turnW; rw [if_pos h]
theorem mul_two_bits (x : Nat) (h : x < 18446744073709551616) (hn : isNan x = false) : Go.FloatKind.f64.format.mul 4611686018427387904 x = some (twiceW x) := mul_two x h hn
theorem wd_int (x r : Nat) (h : x < 18446744073709551616) : ((wd (sgn x) r : Nat) : Int) = (x : Int) / 9223372036854775808 * 9223372036854775808 + r := by
  unfold wd sgn
  by_cases h1 : x < 9223372036854775808
  · rw [show x / 9223372036854775808 % 2 = 0 from by omega]; simp; omega
  · rw [show x / 9223372036854775808 % 2 = 1 from by omega]; simp; omega

end Wgh
