/-
  PROVED HERE: plain facts on which of two weights weighs less.
-/
import Derived.Test.YtpfcdpmpfgdnaaaFloat3
namespace Go.Proofs.Ytpfcdpmpfgdnaaa
theorem cmpW_l {x y : Nat} (h : Wgh.wt x < Wgh.wt y) : Wgh.cmpW x y = -1 := by unfold Wgh.cmpW; rw [if_pos h]
theorem cmpW_g {x y : Nat} (h : Wgh.wt y < Wgh.wt x) : Wgh.cmpW x y = 1 := by unfold Wgh.cmpW; rw [if_neg (by omega), if_pos h]
theorem cmpW_e {x y : Nat} (h : Wgh.wt x = Wgh.wt y) : Wgh.cmpW x y = 0 := by unfold Wgh.cmpW; rw [if_neg (by omega), if_neg (by omega)]
theorem wd_lt (s : Bool) (r : Nat) (h : r < 9223372036854775808) : Wgh.wd s r < 18446744073709551616 := by unfold Wgh.wd; split <;> omega
theorem turnW_lt (x : Nat) (h : x < 18446744073709551616) : Wgh.turnW x < 18446744073709551616 := by
  unfold Wgh.turnW
  split
  · exact h
  · exact wd_lt _ _ (Wgh.rung_lt x)
theorem turn_parts (x : Nat) (h : Wgh.isNan x = false) : Wgh.rung (Wgh.turnW x) = Wgh.rung x ∧ Wgh.sgn (Wgh.turnW x) = !Wgh.sgn x ∧ Wgh.isNan (Wgh.turnW x) = false := by
  rw [Wgh.turnW_num x h]
  have e := Wgh.rung_wd (!Wgh.sgn x) (Wgh.rung x) (Wgh.rung_lt x)
  refine ⟨e, Wgh.sgn_wd _ _ (Wgh.rung_lt x), ?_⟩
  unfold Wgh.isNan at h ⊢
  rw [e]; exact h
theorem turn_turn (x : Nat) (h : x < 18446744073709551616) : Wgh.turnW (Wgh.turnW x) = x := by
  cases e : Wgh.isNan x with
  | true => rw [Wgh.turnW_nan x e, Wgh.turnW_nan x e]
  | false =>
    obtain ⟨h1, h2, h3⟩ := turn_parts x e
    rw [Wgh.turnW_num _ h3, h1, h2, Bool.not_not]
    exact Wgh.wd_of x h
theorem turn_cls (x : Nat) : Wgh.cls (Wgh.turnW x) = Wgh.cls x := by
  cases e : Wgh.isNan x with
  | true => rw [Wgh.turnW_nan x e]
  | false =>
    obtain ⟨h1, _, _⟩ := turn_parts x e
    unfold Wgh.cls
    rw [h1]
theorem turn_wt (x : Nat) (h : Wgh.isNan x = false) : Wgh.wt (Wgh.turnW x) = -Wgh.wt x := by
  obtain ⟨h1, h2, h3⟩ := turn_parts x h
  unfold Wgh.wt
  rw [h, h3]
  show Wgh.key _ = -Wgh.key x
  unfold Wgh.key
  rw [h1, h2]
  cases Wgh.sgn x <;> simp
theorem turn_cmp (x y : Nat) (hx : Wgh.isNan x = false) (hy : Wgh.isNan y = false) : Wgh.cmpW (Wgh.turnW x) (Wgh.turnW y) = Wgh.cmpW y x := by
  unfold Wgh.cmpW
  rw [turn_wt x hx, turn_wt y hy]
  by_cases h1 : Wgh.wt y < Wgh.wt x
  · rw [if_pos (by omega), if_pos h1]
  · rw [if_neg (by omega), if_neg h1]
    by_cases h2 : Wgh.wt x < Wgh.wt y
    · rw [if_pos (by omega), if_pos h2]
    · rw [if_neg (by omega), if_neg h2]
theorem turned_t {x : Int} (h0 : 0 ≤ x) (h1 : x < 18446744073709551616) : (0 : Int) ≤ ((Wgh.turnW x.toNat : Nat) : Int) ∧ ((Wgh.turnW x.toNat : Nat) : Int) < 18446744073709551616 := by
  have := turnW_lt x.toNat (by omega)
  omega
end Go.Proofs.Ytpfcdpmpfgdnaaa
