/-
  PROVED HERE: what the document's answer From computes, for every whole number.
-/
import Derived.Test.YtpfcdpmpfgdnaaaLeaf5
namespace Go.Proofs.Ytpfcdpmpfgdnaaa
open Go.RowKit

/-- The word of a whole number that is not nought, by its leading place. -/
theorem fromW_lead (n : Int) (k : Nat) (h : Wgh.outB n = false) (a : 2 ^ k ≤ n.natAbs) (b : n.natAbs < 2 ^ (k + 1)) :
    Wgh.fromW n = Wgh.wd (decide (n < 0)) ((k + 1023) * 4503599627370496 + (if k < 53 then n.natAbs * 2 ^ (52 - k) % 4503599627370496 else 0)) := by
  have hl : n.natAbs.log2 = k := Wgh.log2_eq a b
  unfold Wgh.fromW
  rw [h]
  have hn : n.natAbs ≤ 9007199254740992 := by unfold Wgh.outB at h; simp at h; omega
  have hk : k ≤ 53 := by
    rcases Nat.lt_or_ge 53 k with g | g
    · have := Nat.pow_le_pow_right (show 0 < 2 by omega) (show 54 ≤ k from g)
      omega
    · exact g
  show Wgh.wd _ _ = _
  congr 1
  unfold Wgh.rungOf
  have h0 := Nat.two_pow_pos k
  rw [if_neg (by omega)]
  by_cases c : n.natAbs = 9007199254740992
  · rw [if_pos c]
    have : k = 53 := by rw [← hl, c]; exact Wgh.log2_53
    rw [this, if_neg (by omega)]
  · rw [if_neg c, hl]
    have hlt := Wgh.lead n.natAbs (by omega) (by omega)
    rw [hl] at hlt
    have hk2 := Wgh.log2_le n.natAbs (by omega) (by omega)
    rw [if_pos (by omega)]
    omega

theorem ret_2 {k k' : IntKind} {a b c : Int} (h : a = b) : Ending.returned (.tuple #[.int k a, .int k' c]) = .returned (.tuple #[.int k b, .int k' c]) := by rw [h]
theorem wd_neg (r : Nat) (b : Bool) : ((Wgh.wd b r : Nat) : Int) = (if b then 9223372036854775808 else 0) + (r : Int) := by
  unfold Wgh.wd
  cases b <;> simp

theorem fin_small (n M : Int) (j : Nat) (hM : M = n.natAbs) (hn : Wgh.outB n = false) (a : 2 ^ j ≤ n.natAbs) (b : n.natAbs < 2 ^ (j + 1)) (hj : j < 53) (S : Int) (hS : S = if n < 0 then 9223372036854775808 else 0) :
    IntKind.u64.wrap (S + ((j : Int) + 1023) * 4503599627370496 + (IntKind.u64.wrap (M * 2 ^ (52 - j))).tmod 4503599627370496) = ((Wgh.fromW n : Nat) : Int) := by
  have hl : n.natAbs.log2 = j := Wgh.log2_eq a b
  have h0 := Nat.two_pow_pos j
  rw [fromW_lead n j hn a b, wd_neg, if_pos hj]
  have hb : n.natAbs ≤ 9007199254740992 := by unfold Wgh.outB at hn; simp at hn; omega
  have hb2 : n.natAbs < 9007199254740992 := by
    have := Nat.pow_le_pow_right (show 0 < 2 by omega) (show j + 1 ≤ 53 by omega)
    omega
  have hq := Wgh.lead n.natAbs (by omega) hb2
  rw [hl] at hq
  have e : M * 2 ^ (52 - j) = ((n.natAbs * 2 ^ (52 - j) : Nat) : Int) := by rw [hM, Int.natCast_mul, Int.natCast_pow]; rfl
  rw [e]
  generalize n.natAbs * 2 ^ (52 - j) = q at *
  rw [IntKind.wrap_u64, IntKind.wrap_u64, Int.tmod_eq_emod_of_nonneg (by omega), hS]
  by_cases g : n < 0
  · simp only [g, decide_true, if_true]; omega
  · simp only [g, decide_false, if_false, Bool.false_eq_true]; omega
theorem fin_top (n : Int) (j : Nat) (hn : Wgh.outB n = false) (a : 2 ^ j ≤ n.natAbs) (b : n.natAbs < 2 ^ (j + 1)) (hj : ¬ j < 53) (S : Int) (hS : S = if n < 0 then 9223372036854775808 else 0) :
    S + ((j : Int) + 1023) * 4503599627370496 = ((Wgh.fromW n : Nat) : Int) := by
  rw [fromW_lead n j hn a b, wd_neg, if_neg hj, hS]
  by_cases g : n < 0
  · simp only [g, decide_true, if_true]; omega
  · simp only [g, decide_false, if_false, Bool.false_eq_true]; omega


end Go.Proofs.Ytpfcdpmpfgdnaaa
