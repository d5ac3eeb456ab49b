/-
  PROVED HERE: plain facts on the words of IEEE 754's double format: how two words stand to each other goes by sign and rung. No program in sight.
-/
import Ieee.Arith
namespace Wgh
open Ieee

def rung (x : Nat) : Nat := x % 9223372036854775808
def sgn (x : Nat) : Bool := x / 9223372036854775808 % 2 == 1
/-- Where a word stands: its rung, with its sign. -/
def key (x : Nat) : Int := if sgn x then -(rung x : Int) else (rung x : Int)
def isNan (x : Nat) : Bool := decide (9218868437227405312 < rung x)

theorem read_double (x : Nat) : double.read x =
    if rung x < 4503599627370496 then .number (sgn x) (rung x) (-1074)
    else if rung x < 9218868437227405312 then .number (sgn x) (4503599627370496 + rung x % 4503599627370496) (-1074 + (rung x / 4503599627370496 - 1 : Nat))
    else if rung x = 9218868437227405312 then .infinity (sgn x) else .nan (sgn x) (rung x - 9218868437227405312) := rfl

/-- A rung's magnitude, in units of the least one. -/
def val (r : Nat) : Nat := if r < 4503599627370496 then r else (4503599627370496 + r % 4503599627370496) * 2 ^ (r / 4503599627370496 - 1)

theorem val_step (r : Nat) : val r < val (r + 1) := by
  unfold val
  by_cases h : r < 4503599627370496
  · rw [if_pos h]
    by_cases h1 : r + 1 < 4503599627370496
    · rw [if_pos h1]; omega
    · have e : r + 1 = 4503599627370496 := by omega
      rw [if_neg h1, e]
      simp
      omega
  · rw [if_neg h, if_neg (by omega)]
    by_cases h2 : r % 4503599627370496 + 1 < 4503599627370496
    · have e1 : (r + 1) % 4503599627370496 = r % 4503599627370496 + 1 := by omega
      have e2 : (r + 1) / 4503599627370496 = r / 4503599627370496 := by omega
      rw [e1, e2]
      exact Nat.mul_lt_mul_of_pos_right (by omega) (Nat.two_pow_pos _)
    · have e1 : (r + 1) % 4503599627370496 = 0 := by omega
      have e2 : (r + 1) / 4503599627370496 - 1 = (r / 4503599627370496 - 1) + 1 := by omega
      rw [e1, e2, Nat.pow_succ]
      have := Nat.two_pow_pos (r / 4503599627370496 - 1)
      generalize 2 ^ (r / 4503599627370496 - 1) = k at *
      have e3 : r % 4503599627370496 = 4503599627370495 := by omega
      rw [e3]
      omega

theorem val_lt {a b : Nat} (h : a < b) : val a < val b := by
  induction b with
  | zero => omega
  | succ n ih =>
    rcases Nat.lt_or_ge a n with h1 | h1
    · exact Nat.lt_trans (ih h1) (val_step n)
    · have : a = n := by omega
      subst this
      exact val_step _

theorem val_lt_iff (a b : Nat) : val a < val b ↔ a < b := by
  constructor
  · intro h
    rcases Nat.lt_trichotomy a b with h1 | h1 | h1
    · exact h1
    · subst h1; omega
    · have := val_lt h1; omega
  · exact val_lt

theorem val_inj {a b : Nat} (h : val a = val b) : a = b := by
  rcases Nat.lt_trichotomy a b with h1 | h1 | h1
  · have := val_lt h1; omega
  · exact h1
  · have := val_lt h1; omega

def cmpI (a b : Int) : Ordering := if a < b then .lt else if a = b then .eq else .gt
theorem compare_cmpI (a b : Int) : compare a b = cmpI a b := by
  show compareOfLessAndEq a b = _
  unfold compareOfLessAndEq cmpI
  rfl
theorem cmpI_scale (a b : Int) (k : Int) (hk : 0 < k) : cmpI (a * k) (b * k) = cmpI a b := by
  unfold cmpI
  have e1 : (a * k < b * k) ↔ a < b := ⟨fun h => Int.lt_of_mul_lt_mul_right h (Int.le_of_lt hk), fun h => Int.mul_lt_mul_of_pos_right h hk⟩
  have e2 : (a * k = b * k) ↔ a = b := ⟨fun h => Int.eq_of_mul_eq_mul_right (Int.ne_of_gt hk) h, fun h => by rw [h]⟩
  simp only [e1, e2]

def sg (s : Bool) (n : Nat) : Int := if s then -(n : Int) else (n : Int)
theorem signed_sg (s : Bool) (m u : Nat) : signed s m u = sg s (m * 2 ^ u) := by
  unfold signed sg
  rw [Nat.shiftLeft_eq]
theorem sg_mul (s : Bool) (m k : Nat) : sg s m * (k : Int) = sg s (m * k) := by
  unfold sg
  cases s <;> simp [Int.natCast_mul, Int.neg_mul]

/-- Two finite numbers, at their places above the least one. -/
theorem order_numbers (s t : Bool) (m n a b : Nat) :
    (Datum.number s m (-1074 + (a : Int))).order (.number t n (-1074 + (b : Int))) = some (cmpI (sg s (m * 2 ^ a)) (sg t (n * 2 ^ b))) := by
  show some (compare (signed s m _) (signed t n _)) = _
  rw [compare_cmpI, signed_sg, signed_sg]
  congr 1
  rcases Nat.le_total a b with h | h
  · have e1 : (-1074 + (a : Int) - min (-1074 + (a : Int)) (-1074 + (b : Int))).toNat = 0 := by omega
    have e2 : (-1074 + (b : Int) - min (-1074 + (a : Int)) (-1074 + (b : Int))).toNat = b - a := by omega
    rw [e1, e2, ← cmpI_scale _ _ ((2 ^ a : Nat) : Int) (by exact_mod_cast Nat.two_pow_pos a), sg_mul, sg_mul]
    rw [Nat.mul_assoc, Nat.mul_assoc, ← Nat.pow_add, ← Nat.pow_add]
    rw [show 0 + a = a from by omega, show b - a + a = b from by omega]
  · have e1 : (-1074 + (a : Int) - min (-1074 + (a : Int)) (-1074 + (b : Int))).toNat = a - b := by omega
    have e2 : (-1074 + (b : Int) - min (-1074 + (a : Int)) (-1074 + (b : Int))).toNat = 0 := by omega
    rw [e1, e2, ← cmpI_scale _ _ ((2 ^ b : Nat) : Int) (by exact_mod_cast Nat.two_pow_pos b), sg_mul, sg_mul]
    rw [Nat.mul_assoc, Nat.mul_assoc, ← Nat.pow_add, ← Nat.pow_add]
    rw [show 0 + b = b from by omega, show a - b + b = a from by omega]

/-- The finite datum of a word. -/
theorem read_fin (x : Nat) (h : rung x < 9218868437227405312) : ∃ m a : Nat, double.read x = .number (sgn x) m (-1074 + (a : Int)) ∧ m * 2 ^ a = val (rung x) := by
  rw [read_double]
  unfold val
  by_cases h1 : rung x < 4503599627370496
  · rw [if_pos h1, if_pos h1]
    exact ⟨rung x, 0, rfl, by simp⟩
  · rw [if_neg h1, if_neg h1, if_pos h]
    exact ⟨_, _, rfl, rfl⟩
theorem read_inf (x : Nat) (h : rung x = 9218868437227405312) : double.read x = .infinity (sgn x) := by
  rw [read_double, if_neg (by omega), if_neg (by omega), if_pos h]
theorem read_nan (x : Nat) (h : 9218868437227405312 < rung x) : double.read x = .nan (sgn x) (rung x - 9218868437227405312) := by
  rw [read_double, if_neg (by omega), if_neg (by omega), if_neg (by omega)]

theorem cmpI_congr {a b c d : Int} (h1 : a < b ↔ c < d) (h2 : a = b ↔ c = d) : cmpI a b = cmpI c d := by
  unfold cmpI
  simp only [h1, h2]
theorem cmpI_vals (s t : Bool) (a b : Nat) : cmpI (sg s (val a)) (sg t (val b)) = cmpI (sg s a) (sg t b) := by
  have h1 := val_lt_iff a b
  have h2 := val_lt_iff b a
  have h0 : val 0 = 0 := rfl
  have h3 := val_lt_iff 0 a
  have h4 := val_lt_iff 0 b
  rw [h0] at h3 h4
  generalize val a = A at *
  generalize val b = B at *
  refine cmpI_congr ?_ ?_ <;> cases s <;> cases t <;> simp only [sg, Bool.false_eq_true, if_true, if_false] <;> omega
theorem cmpI_lt {a b : Int} (h : a < b) : cmpI a b = .lt := by unfold cmpI; rw [if_pos h]
theorem cmpI_gt {a b : Int} (h : b < a) : cmpI a b = .gt := by unfold cmpI; rw [if_neg (by omega), if_neg (by omega)]

theorem key_sg (x : Nat) : key x = sg (sgn x) (rung x) := rfl

/-- HOW TWO WORDS STAND: by their rungs with their signs; no answer where one is a NaN. -/
theorem order_double (x y : Nat) : double.order x y = if isNan x || isNan y then none else some (cmpI (key x) (key y)) := by
  unfold Format.order isNan
  rcases Nat.lt_trichotomy (rung x) 9218868437227405312 with hx | hx | hx
  · obtain ⟨m, a, ex, vx⟩ := read_fin x hx
    rcases Nat.lt_trichotomy (rung y) 9218868437227405312 with hy | hy | hy
    · obtain ⟨n, b, ey, vy⟩ := read_fin y hy
      rw [ex, ey, order_numbers, vx, vy, cmpI_vals, if_neg (by simp; omega)]
      rfl
    · rw [ex, read_inf y hy, if_neg (by simp; omega)]
      show some (if sgn y then Ordering.gt else .lt) = _
      congr 1
      rw [key_sg, key_sg, hy]
      cases sgn x <;> cases sgn y <;> simp only [sg, Bool.false_eq_true, if_true, if_false] <;> first | (rw [cmpI_lt (by omega)]; done) | (rw [cmpI_gt (by omega)]; done)
    · rw [ex, read_nan y hy, if_pos (by simp; omega)]
      rfl
  · rcases Nat.lt_trichotomy (rung y) 9218868437227405312 with hy | hy | hy
    · obtain ⟨n, b, ey, vy⟩ := read_fin y hy
      rw [ey, read_inf x hx, if_neg (by simp; omega)]
      show some (if sgn x then Ordering.lt else .gt) = _
      congr 1
      rw [key_sg, key_sg, hx]
      cases sgn x <;> cases sgn y <;> simp only [sg, Bool.false_eq_true, if_true, if_false] <;> first | (rw [cmpI_lt (by omega)]; done) | (rw [cmpI_gt (by omega)]; done)
    · rw [read_inf x hx, read_inf y hy, if_neg (by simp; omega)]
      show some (compare (sgn y).toNat (sgn x).toNat) = _
      congr 1
      rw [key_sg, key_sg, hx, hy]
      cases sgn x <;> cases sgn y <;> decide
    · rw [read_inf x hx, read_nan y hy, if_pos (by simp; omega)]
      rfl
  · rw [read_nan x hx, if_pos (by simp; omega)]
    cases double.read y <;> rfl

end Wgh
