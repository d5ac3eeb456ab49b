/-
  PROVED HERE: plain facts on words that are whole numbers: there and back, order, twice.
-/
import Derived.Test.YtpfcdpmpfgdnaaaFacts
namespace Go.Proofs.Ytpfcdpmpfgdnaaa
open Wgh

theorem rungOf_lt_iff (a b : Nat) (ha : a ≤ 9007199254740992) (hb : b ≤ 9007199254740992) : rungOf a < rungOf b ↔ a < b := by
  rw [← val_lt_iff, val_rungOf a ha, val_rungOf b hb]
  exact ⟨fun h => Nat.lt_of_mul_lt_mul_right h, fun h => Nat.mul_lt_mul_of_pos_right h unit1_pos⟩
theorem rungOf_pos (a : Nat) (h0 : a ≠ 0) (ha : a ≤ 9007199254740992) : 4607182418800017408 ≤ rungOf a := by
  have b : rungOf 1 = 4607182418800017408 := by unfold rungOf; rw [if_neg (by omega), if_neg (by omega), show (1 : Nat).log2 = 0 from rfl]
  rw [← b]
  rcases Nat.lt_or_ge 1 a with h | h
  · exact Nat.le_of_lt ((rungOf_lt_iff 1 a (by omega) ha).2 h)
  · rw [show a = 1 from by omega]; exact Nat.le_refl _
theorem in_bd {n : Int} (h : outB n = false) : n.natAbs ≤ 9007199254740992 := by
  unfold outB at h; simp at h; omega
theorem fromW_in {n : Int} (h : outB n = false) : fromW n = wd (decide (n < 0)) (rungOf n.natAbs) := by unfold fromW; rw [h]; rfl
theorem from_parts {n : Int} (h : outB n = false) : rung (fromW n) = rungOf n.natAbs ∧ sgn (fromW n) = decide (n < 0) ∧ isNan (fromW n) = false := by
  have hb := rungOf_bd _ (in_bd h)
  rw [fromW_in h]
  have e := rung_wd (decide (n < 0)) (rungOf n.natAbs) (by omega)
  refine ⟨e, sgn_wd _ _ (by omega), ?_⟩
  unfold isNan
  rw [e]
  simp
  omega
theorem from_lt64 (n : Int) : fromW n < 18446744073709551616 := by
  unfold fromW
  split
  · omega
  · rename_i h
    have hb := rungOf_bd _ (in_bd (by simpa using h))
    exact wd_lt _ _ (by omega)

theorem whole_from {n : Int} (h : outB n = false) : whB (fromW n) = true ∧ whV (fromW n) = n := by
  obtain ⟨h1, h2, h3⟩ := from_parts h
  have hb := in_bd h
  have hr := rungOf_bd _ hb
  have hv := val_rungOf _ hb
  have e : whB (fromW n) = true := by
    unfold whB
    rw [h1, hv, Nat.mul_mod_left]
    simp
    exact hr
  refine ⟨e, ?_⟩
  unfold whV
  rw [if_pos e, h2]
  have ew : whole (fromW n) = n.natAbs := by unfold whole; rw [h1, hv, Nat.mul_div_cancel _ unit1_pos]
  rw [ew]
  unfold sg
  by_cases g : n < 0
  · simp only [g, decide_true, if_true]; omega
  · simp only [g, decide_false, Bool.false_eq_true, if_false]; omega

theorem from_wt {n : Int} (h : outB n = false) : wt (fromW n) = if n < 0 then -(rungOf n.natAbs : Int) else (rungOf n.natAbs : Int) := by
  obtain ⟨h1, h2, h3⟩ := from_parts h
  unfold wt
  rw [h3]
  show key _ = _
  unfold key
  rw [h1, h2]
  by_cases g : n < 0
  · simp [g]
  · simp [g]
theorem from_order {n m : Int} (hn : outB n = false) (hm : outB m = false) : cmpW (fromW n) (fromW m) < 0 ↔ n < m := by
  have a := in_bd hn
  have b := in_bd hm
  have h1 := rungOf_lt_iff n.natAbs m.natAbs a b
  have h2 := rungOf_lt_iff m.natAbs n.natAbs b a
  have hz : rungOf 0 = 0 := rfl
  have h3 := rungOf_lt_iff 0 n.natAbs (by omega) a
  have h4 := rungOf_lt_iff 0 m.natAbs (by omega) b
  rw [hz] at h3 h4
  have e : cmpW (fromW n) (fromW m) < 0 ↔ wt (fromW n) < wt (fromW m) := by
    unfold cmpW
    split
    · simp [*]
    · split <;> simp [*]
  rw [e, from_wt hn, from_wt hm]
  generalize rungOf n.natAbs = A at *
  generalize rungOf m.natAbs = B at *
  split <;> split <;> omega

theorem val_dbl (r : Nat) (h : 4503599627370496 ≤ r) : val (r + 4503599627370496) = 2 * val r := by
  rw [val_big _ (by omega), val_big _ h]
  rw [show (r + 4503599627370496) % 4503599627370496 = r % 4503599627370496 from by omega]
  rw [show (r + 4503599627370496) / 4503599627370496 - 1 = (r / 4503599627370496 - 1) + 1 from by omega, Nat.pow_succ]
  generalize 2 ^ (r / 4503599627370496 - 1) = k
  rw [← Nat.mul_assoc, Nat.mul_comm]
theorem two_from {n : Int} (h : outB n = false) (h2 : outB (2 * n) = false) (h0 : n ≠ 0) : twoW (fromW n) = fromW (2 * n) := by
  obtain ⟨p1, p2, p3⟩ := from_parts h
  have a := in_bd h
  have b := in_bd h2
  have hr := rungOf_bd _ a
  have hp := rungOf_pos _ (by omega) a
  have e : rungOf (2 * n).natAbs = rungOf n.natAbs + 4503599627370496 := by
    refine val_inj ?_
    rw [val_dbl _ (by omega), val_rungOf _ a, val_rungOf _ b, ← Nat.mul_assoc]
    congr 1
    omega
  rw [twoW_num _ p3, fromW_in h2, e]
  unfold twiceW
  rw [p1, p2, if_neg (by omega), if_neg (by omega), Nat.min_eq_left (by omega)]
  congr 1
  rw [decide_eq_decide]
  omega

theorem back_from {x : Nat} (hx : x < 18446744073709551616) (h : whB x = true) : outB (whV x) = false ∧ (fromW (whV x) = x ∨ whV x = 0 ∧ x = 9223372036854775808) := by
  have hc : rung x ≤ 4845873199050653696 := by
    unfold whB at h
    rw [Bool.and_eq_true] at h
    exact of_decide_eq_true h.1
  have hm : val (rung x) % unit1 = 0 := by
    unfold whB at h
    rw [Bool.and_eq_true] at h
    exact of_decide_eq_true h.2
  have hw := whole_le x hc
  have ht := (trunc_same x hc).2 hm
  have hV : whV x = sg (sgn x) (whole x) := by unfold whV; rw [if_pos h]
  have ho : outB (whV x) = false := by
    rw [hV]
    unfold outB sg
    cases sgn x <;> simp <;> omega
  refine ⟨ho, ?_⟩
  by_cases h0 : whole x = 0
  · rw [h0] at ht hV
    have hz : rung x = 0 := ht.symm
    have hv0 : whV x = 0 := by rw [hV]; cases sgn x <;> rfl
    have hxx := wd_of x hx
    rw [hz] at hxx
    cases es : sgn x with
    | true =>
      rw [es] at hxx
      exact .inr ⟨hv0, hxx.symm⟩
    | false =>
      rw [es] at hxx
      left
      rw [hv0]
      exact hxx
  · left
    rw [fromW_in ho, hV]
    have en : (sg (sgn x) (whole x)).natAbs = whole x := by unfold sg; cases sgn x <;> simp
    have es : decide (sg (sgn x) (whole x) < 0) = sgn x := by
      unfold sg
      cases sgn x <;> simp <;> omega
    rw [en, es, ht]
    exact wd_of x hx
theorem fromE_in {n : Int} (h : outB n = false) : fromE n = 0 := by unfold fromE; rw [h]; rfl
end Go.Proofs.Ytpfcdpmpfgdnaaa
