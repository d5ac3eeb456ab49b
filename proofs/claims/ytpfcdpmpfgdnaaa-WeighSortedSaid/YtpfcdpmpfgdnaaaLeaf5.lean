/-
  PROVED HERE: what the document's answers Whole and From compute, for every word and every whole number.
-/
import Derived.Test.YtpfcdpmpfgdnaaaLeaf4
namespace Go.Proofs.Ytpfcdpmpfgdnaaa
open Go.RowKit

/-- The bits, as whole numbers. -/
theorem bits_nat (x : Nat) : Wgh.rung x = (x / 4503599627370496 % 2048) * 4503599627370496 + x % 4503599627370496 := by unfold Wgh.rung; omega

theorem sg_int (x : Nat) (m : Nat) (hx : x < 18446744073709551616) : Wgh.sg (Wgh.sgn x) m = if x < 9223372036854775808 then (m : Int) else -(m : Int) := by
  unfold Wgh.sg Wgh.sgn
  by_cases h : x < 9223372036854775808
  · rw [show x / 9223372036854775808 % 2 = 0 from by omega, if_pos h]; rfl
  · rw [show x / 9223372036854775808 % 2 = 1 from by omega, if_neg h]; rfl

set_option maxHeartbeats 2000000 in
theorem rwhole_small (x : Int) (w : World) (h0 : 0 ≤ x) (h1 : x < 18446744073709551616) (hs : x / 4503599627370496 % 2048 < 1023) :
    Calls Try.prog 22 #[.int .u64 x] w fun e w' => e = .returned (.tuple #[.int .i64 (Wgh.whV x.toNat), .bool (Wgh.whB x.toNat)]) ∧ w = w' := by
  obtain ⟨a1, a2, _⟩ := Wgh.whole_bits x.toNat (x.toNat / 4503599627370496 % 2048) (x.toNat % 4503599627370496) (bits_nat _) (by omega)
  have he0 : 0 ≤ x / 4503599627370496 % 2048 := by omega
  by_cases c : x / 4503599627370496 % 2048 = 0 ∧ x % 4503599627370496 = 0
  · obtain ⟨b1, b2⟩ := a1 (by omega)
    have hV : Wgh.whV x.toNat = 0 := by rw [whV_yes b1, b2]; cases Wgh.sgn x.toNat <;> rfl
    rw [hV, b1]
    obtain ⟨c1, c2⟩ := c
    clear a1 a2 b1 b2 hV hs he0
    go_enter Try.func22, Try.ntmps22
    go_wp2_with (go_at_call 32; refine (parts_any _ _ (by omega) (by omega)).mono ?_; rintro e w' ⟨rfl, rfl⟩)
    go_ret2
    exact ⟨rfl, rfl⟩
  · have b := a2 (by omega) (by omega)
    rw [whV_no b, b]
    clear a1 a2 b
    by_cases c1 : x / 4503599627370496 % 2048 = 0
    · have c2 : (x % 4503599627370496 == 0) = false := by simp; omega
      clear c he0 hs
      go_enter Try.func22, Try.ntmps22
      go_wp2_with (go_at_call 32; refine (parts_any _ _ (by omega) (by omega)).mono ?_; rintro e w' ⟨rfl, rfl⟩)
      go_ret2
      exact ⟨rfl, rfl⟩
    · have c2 : (x / 4503599627370496 % 2048 == 0) = false := by simp; omega
      clear c c1
      go_enter Try.func22, Try.ntmps22
      go_wp2_with (go_at_call 32; refine (parts_any _ _ (by omega) (by omega)).mono ?_; rintro e w' ⟨rfl, rfl⟩)
      go_ret2
      exact ⟨rfl, rfl⟩

set_option maxHeartbeats 2000000 in
theorem rwhole_great (x : Int) (w : World) (h0 : 0 ≤ x) (h1 : x < 18446744073709551616) (hs : 1076 < x / 4503599627370496 % 2048) :
    Calls Try.prog 22 #[.int .u64 x] w fun e w' => e = .returned (.tuple #[.int .i64 (Wgh.whV x.toNat), .bool (Wgh.whB x.toNat)]) ∧ w = w' := by
  obtain ⟨_, _, _, _, _, a⟩ := Wgh.whole_bits x.toNat (x.toNat / 4503599627370496 % 2048) (x.toNat % 4503599627370496) (bits_nat _) (by omega)
  have b := a (by omega)
  rw [whV_no b, b]
  have c2 : (x / 4503599627370496 % 2048 == 0) = false := by simp; omega
  clear a b
  go_enter Try.func22, Try.ntmps22
  go_wp2_with (go_at_call 32; refine (parts_any _ _ (by omega) (by omega)).mono ?_; rintro e w' ⟨rfl, rfl⟩)
  go_ret2
  exact ⟨rfl, rfl⟩

set_option maxHeartbeats 2000000 in
theorem rwhole_top (x : Int) (w : World) (h0 : 0 ≤ x) (h1 : x < 18446744073709551616) (hs : x / 4503599627370496 % 2048 = 1076) :
    Calls Try.prog 22 #[.int .u64 x] w fun e w' => e = .returned (.tuple #[.int .i64 (Wgh.whV x.toNat), .bool (Wgh.whB x.toNat)]) ∧ w = w' := by
  obtain ⟨_, _, _, a, a', _⟩ := Wgh.whole_bits x.toNat (x.toNat / 4503599627370496 % 2048) (x.toNat % 4503599627370496) (bits_nat _) (by omega)
  have hf0 : 0 ≤ x % 4503599627370496 := by omega
  have hf1 : x % 4503599627370496 < 4503599627370496 := by omega
  by_cases c : x % 4503599627370496 = 0
  · obtain ⟨b1, b2⟩ := a (by omega) (by omega)
    have hV : Wgh.whV x.toNat = if x < 9223372036854775808 then 9007199254740992 else -9007199254740992 := by
      rw [whV_yes b1, b2, sg_int _ _ (by omega)]
      by_cases g : x < 9223372036854775808
      · rw [if_pos g, if_pos (by omega)]; rfl
      · rw [if_neg g, if_neg (by omega)]; rfl
    rw [hV, b1]
    clear a a' b1 b2 hV hf0 hf1
    rcases (show x / 9223372036854775808 = 0 ∨ x / 9223372036854775808 = 1 from by omega) with g | g
    · rw [if_pos (by omega)]
      go_enter Try.func22, Try.ntmps22
      go_wp2_with (go_at_call 32; refine (parts_any _ _ (by omega) (by omega)).mono ?_; rintro e w' ⟨rfl, rfl⟩)
      go_ret2
      exact ⟨rfl, rfl⟩
    · rw [if_neg (by omega)]
      go_enter Try.func22, Try.ntmps22
      go_wp2_with (go_at_call 32; refine (parts_any _ _ (by omega) (by omega)).mono ?_; rintro e w' ⟨rfl, rfl⟩)
      go_ret2
      exact ⟨rfl, rfl⟩
  · have b := a' (by omega) (by omega)
    rw [whV_no b, b]
    have c2 : 9007199254740992 < (x % 4503599627370496 + 4503599627370496) * 2 := by omega
    clear a a' b c
    go_enter Try.func22, Try.ntmps22
    go_wp2_with (go_at_call 32; refine (parts_any _ _ (by omega) (by omega)).mono ?_; rintro e w' ⟨rfl, rfl⟩)
    go_ret2
    exact ⟨rfl, rfl⟩

set_option maxHeartbeats 2000000 in
theorem rwhole_mid (x : Int) (w : World) (h0 : 0 ≤ x) (h1 : x < 18446744073709551616) (hs : 1023 ≤ x / 4503599627370496 % 2048) (hs' : x / 4503599627370496 % 2048 ≤ 1075) :
    Calls Try.prog 22 #[.int .u64 x] w fun e w' => e = .returned (.tuple #[.int .i64 (Wgh.whV x.toNat), .bool (Wgh.whB x.toNat)]) ∧ w = w' := by
  obtain ⟨_, _, a, _, _, _⟩ := Wgh.whole_bits x.toNat (x.toNat / 4503599627370496 % 2048) (x.toNat % 4503599627370496) (bits_nat _) (by omega)
  obtain ⟨b1, b2⟩ := a (by omega) (by omega)
  clear a
  have hf0 : 0 ≤ x % 4503599627370496 := by omega
  have hf1 : x % 4503599627370496 < 4503599627370496 := by omega
  have c2 : (x / 4503599627370496 % 2048 == 0) = false := by simp; omega
  have c3 : (x / 4503599627370496 % 2048 - 1023 == 53) = false := by simp; omega
  obtain ⟨D, hD⟩ : ∃ D : Nat, 2 ^ (1075 - x.toNat / 4503599627370496 % 2048) = D := ⟨_, rfl⟩
  have hD1 : 1 ≤ D := by rw [← hD]; exact Nat.two_pow_pos _
  have hD2 : D ≤ 4503599627370496 := by
    rw [← hD]
    exact Nat.le_trans (Nat.pow_le_pow_right (by omega) (show 1075 - x.toNat / 4503599627370496 % 2048 ≤ 52 by omega)) (by omega)
  rw [hD] at b1 b2
  have hk : (52 - (x / 4503599627370496 % 2048 - 1023)).toNat = 1075 - x.toNat / 4503599627370496 % 2048 := by omega
  have hd : (2 : Int) ^ (52 - (x / 4503599627370496 % 2048 - 1023)).toNat = (D : Int) := by
    rw [hk, ← hD]; exact (Int.natCast_pow 2 _).symm
  have hm : ((x.toNat % 4503599627370496 + 4503599627370496 : Nat) : Int) = x % 4503599627370496 + 4503599627370496 := by omega
  have hq : (x % 4503599627370496 + 4503599627370496) / (D : Int) = ((Wgh.whole x.toNat : Nat) : Int) := by rw [b2, Int.natCast_ediv, hm]
  have hr : (x % 4503599627370496 + 4503599627370496) % (D : Int) = (((x.toNat % 4503599627370496 + 4503599627370496) % D : Nat) : Int) := by rw [Int.natCast_emod, hm]
  have hw : Wgh.whole x.toNat ≤ 9007199254740992 := by
    rw [b2]
    exact Nat.le_trans (Nat.div_le_self _ _) (by omega)
  clear hm hk b2 hD
  have sgi := sg_int x.toNat (Wgh.whole x.toNat) (by omega)
  generalize hqq : Wgh.whole x.toNat = q at *
  by_cases z : (x.toNat % 4503599627370496 + 4503599627370496) % D = 0
  · rw [decide_eq_true z] at b1
    rw [z] at hr
    have hr' : (x % 4503599627370496 + 4503599627370496) % (D : Int) = 0 := hr
    rcases (show x / 9223372036854775808 = 0 ∨ x / 9223372036854775808 = 1 from by omega) with g | g
    · have hV : Wgh.whV x.toNat = q := by
        rw [whV_yes b1, hqq, sgi]
        first | rw [if_pos (by omega)] | rw [if_neg (by omega)]
      rw [hV, b1]
      clear hr z b1 hV sgi hqq
      go_enter Try.func22, Try.ntmps22
      go_wp2_with (go_at_call 32; refine (parts_any _ _ (by omega) (by omega)).mono ?_; rintro e w' ⟨rfl, rfl⟩)
      go_ret2
      exact ⟨rfl, rfl⟩
    · have hV : Wgh.whV x.toNat = -(q : Int) := by
        rw [whV_yes b1, hqq, sgi]
        first | rw [if_pos (by omega)] | rw [if_neg (by omega)]
      rw [hV, b1]
      clear hr z b1 hV sgi hqq
      go_enter Try.func22, Try.ntmps22
      go_wp2_with (go_at_call 32; refine (parts_any _ _ (by omega) (by omega)).mono ?_; rintro e w' ⟨rfl, rfl⟩)
      go_ret2
      exact ⟨rfl, rfl⟩
  · rw [decide_eq_false z] at b1
    rw [whV_no b1, b1]
    have hr' : ((x % 4503599627370496 + 4503599627370496) % (D : Int) != 0) = true := by rw [hr]; exact bne_iff_ne.2 (Int.natCast_ne_zero.2 z)
    clear hr z b1 sgi hq hqq
    go_enter Try.func22, Try.ntmps22
    go_wp2_with (go_at_call 32; refine (parts_any _ _ (by omega) (by omega)).mono ?_; rintro e w' ⟨rfl, rfl⟩)
    go_ret2
    exact ⟨rfl, rfl⟩

theorem rwhole_any (x : Int) (w : World) (h0 : 0 ≤ x) (h1 : x < 18446744073709551616) :
    Calls Try.prog 22 #[.int .u64 x] w fun e w' => e = .returned (.tuple #[.int .i64 (Wgh.whV x.toNat), .bool (Wgh.whB x.toNat)]) ∧ w = w' := by
  by_cases a : x / 4503599627370496 % 2048 < 1023
  · exact rwhole_small x w h0 h1 a
  by_cases b : 1076 < x / 4503599627370496 % 2048
  · exact rwhole_great x w h0 h1 b
  by_cases c : x / 4503599627370496 % 2048 = 1076
  · exact rwhole_top x w h0 h1 c
  · exact rwhole_mid x w h0 h1 (by omega) (by omega)

end Go.Proofs.Ytpfcdpmpfgdnaaa
