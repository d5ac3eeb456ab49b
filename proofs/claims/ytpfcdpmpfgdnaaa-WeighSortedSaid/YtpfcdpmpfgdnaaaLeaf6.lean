/-
  PROVED HERE: what the document's answer From computes, for every whole number.
-/
import Derived.Test.YtpfcdpmpfgdnaaaLeaf6a
namespace Go.Proofs.Ytpfcdpmpfgdnaaa
open Go.RowKit

set_option maxRecDepth 100000 in
set_option maxHeartbeats 2000000 in
theorem rfrom_any (n : Int) (w : World) : Calls Try.prog 24 #[.int .i64 n] w fun e w' => e = .returned (.tuple #[.int .u64 (Wgh.fromW n), .int .i64 (Wgh.fromE n)]) ∧ w = w' := by
  have t : Wgh.outB n = (decide (n < -9007199254740992) || decide (9007199254740992 < n)) := rfl
  by_cases c1 : n < -9007199254740992
  · have e : Wgh.outB n = true := by rw [t]; simp [c1]
    have e1 : Wgh.fromW n = 0 := by unfold Wgh.fromW; rw [if_pos e]
    have e2 : Wgh.fromE n = 3 := by unfold Wgh.fromE; rw [if_pos e]
    rw [e1, e2]
    clear t e e1 e2
    go_enter Try.func24, Try.ntmps24
    go_wp2
    go_ret2
    exact ⟨rfl, rfl⟩
  by_cases c2 : 9007199254740992 < n
  · have e : Wgh.outB n = true := by rw [t]; simp [c2]
    have e1 : Wgh.fromW n = 0 := by unfold Wgh.fromW; rw [if_pos e]
    have e2 : Wgh.fromE n = 3 := by unfold Wgh.fromE; rw [if_pos e]
    rw [e1, e2]
    clear t e e1 e2
    go_enter Try.func24, Try.ntmps24
    go_wp2
    go_ret2
    exact ⟨rfl, rfl⟩
  have e : Wgh.outB n = false := by rw [t]; simp; omega
  have e2 : Wgh.fromE n = 0 := by unfold Wgh.fromE; rw [e]; rfl
  rw [e2]
  clear t e2
  by_cases c3 : n = 0
  · subst c3
    have e1 : Wgh.fromW 0 = 0 := rfl
    rw [e1]
    clear e e1
    go_enter Try.func24, Try.ntmps24
    go_wp2
    go_ret2
    exact ⟨rfl, rfl⟩
  have E := Lib.hid e
  clear e
  by_cases c4 : n < 0
  · go_enter Try.func24, Try.ntmps24
    go_wp2
    go_loop [6, 7] (fun x y => ∃ (j : Nat) (p : Int), j ≤ 53 ∧ 2 ≤ p ∧ p ≤ 18014398509481984 ∧ Hid (p = (2 : Int) ^ (j + 1) ∧ 2 ^ j ≤ n.natAbs) ∧ x = .int .u64 ((j : Int) + 1023) ∧ y = .int .u64 p) (fun x _ => (1100 - intOf x).toNat)
    case atStart => exact ⟨0, 2, by omega, by omega, by omega, ⟨rfl, by omega⟩, rfl, rfl⟩
    case round =>
      obtain ⟨j, p, hj, hp1, hp2, hp, rfl, rfl⟩ := hrel
      by_cases hlt : p ≤ n.natAbs
      · have hlt' : p ≤ n ∨ p ≤ -n := by omega
        have hj' : j + 1 ≤ 53 := by
          rcases Nat.lt_or_ge j 53 with g | g
          · omega
          · have e53 : j = 53 := by omega
            rw [e53] at hp
            have := hp.out.1
            omega
        have hp3 : p * 2 ≤ 18014398509481984 := by omega
        go_wp2
        go_round
        case rel =>
          refine ⟨j + 1, p * 2, hj', by omega, hp3, ⟨?_, ?_⟩, by go_num, rfl⟩
          · rw [hp.out.1, Int.pow_succ 2 (j + 1)]
          · have := hp.out.1
            have h2 : ((2 ^ (j + 1) : Nat) : Int) = p := by rw [this]; exact Int.natCast_pow 2 _
            omega
        case measure => simp [intOf]; omega
      · have hlt' : n < p ∧ -n < p := by omega
        clear hlt
        have hpn : n.natAbs < 2 ^ (j + 1) := by
          have h2 : ((2 ^ (j + 1) : Nat) : Int) = p := by rw [hp.out.1]; exact Int.natCast_pow 2 _
          omega
        have HN := Lib.hid hpn
        clear hpn
        by_cases h53 : j < 53
        · go_wp2
          go_ret2
          refine ⟨ret_2 ?_, rfl⟩
          exact fin_small n _ j (by omega) E.out hp.out.2 HN.out h53 9223372036854775808 (by rw [if_pos (by omega)])
        · go_wp2
          go_ret2
          refine ⟨ret_2 ?_, rfl⟩
          exact fin_top n j E.out hp.out.2 HN.out h53 9223372036854775808 (by rw [if_pos (by omega)])
  · go_enter Try.func24, Try.ntmps24
    go_wp2
    go_loop [6, 7] (fun x y => ∃ (j : Nat) (p : Int), j ≤ 53 ∧ 2 ≤ p ∧ p ≤ 18014398509481984 ∧ Hid (p = (2 : Int) ^ (j + 1) ∧ 2 ^ j ≤ n.natAbs) ∧ x = .int .u64 ((j : Int) + 1023) ∧ y = .int .u64 p) (fun x _ => (1100 - intOf x).toNat)
    case atStart => exact ⟨0, 2, by omega, by omega, by omega, ⟨rfl, by omega⟩, rfl, rfl⟩
    case round =>
      obtain ⟨j, p, hj, hp1, hp2, hp, rfl, rfl⟩ := hrel
      by_cases hlt : p ≤ n.natAbs
      · have hlt' : p ≤ n ∨ p ≤ -n := by omega
        have hj' : j + 1 ≤ 53 := by
          rcases Nat.lt_or_ge j 53 with g | g
          · omega
          · have e53 : j = 53 := by omega
            rw [e53] at hp
            have := hp.out.1
            omega
        have hp3 : p * 2 ≤ 18014398509481984 := by omega
        go_wp2
        go_round
        case rel =>
          refine ⟨j + 1, p * 2, hj', by omega, hp3, ⟨?_, ?_⟩, by go_num, rfl⟩
          · rw [hp.out.1, Int.pow_succ 2 (j + 1)]
          · have := hp.out.1
            have h2 : ((2 ^ (j + 1) : Nat) : Int) = p := by rw [this]; exact Int.natCast_pow 2 _
            omega
        case measure => simp [intOf]; omega
      · have hlt' : n < p ∧ -n < p := by omega
        clear hlt
        have hpn : n.natAbs < 2 ^ (j + 1) := by
          have h2 : ((2 ^ (j + 1) : Nat) : Int) = p := by rw [hp.out.1]; exact Int.natCast_pow 2 _
          omega
        have HN := Lib.hid hpn
        clear hpn
        by_cases h53 : j < 53
        · go_wp2
          go_ret2
          refine ⟨ret_2 ?_, rfl⟩
          have := fin_small n n j (by omega) E.out hp.out.2 HN.out h53 0 (by rw [if_neg (by omega)])
          rwa [Int.zero_add] at this
        · go_wp2
          go_ret2
          refine ⟨ret_2 ?_, rfl⟩
          have := fin_top n j E.out hp.out.2 HN.out h53 0 (by rw [if_neg (by omega)])
          rwa [Int.zero_add] at this

end Go.Proofs.Ytpfcdpmpfgdnaaa
