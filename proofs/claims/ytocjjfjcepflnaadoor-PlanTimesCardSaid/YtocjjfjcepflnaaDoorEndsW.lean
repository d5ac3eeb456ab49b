/-
  PROVED HERE: PlanEnds of the statements answers true.
-/
import Derived.Test.YtocjjfjcepflnaaDoorAwk
set_option linter.unusedVariables false
namespace Pln
/-- How long behind its birth an entry is tried. -/
def sum : Nat → Int
  | 0 => 0
  | k + 1 => sum k + wait (k : Int)
theorem sum_facts : ∀ k, k < 9 → 0 ≤ sum k ∧ sum k < 2000 ∧ 10 ≤ wait (k : Int) ∧ wait (k : Int) ≤ 640 ∧ (k < 8 → sum (k + 1) < 2000) ∧ (k = 8 → 2000 ≤ sum (k + 1)) ∧ (0 < k → min (2 * wait ((k : Int) - 1)) 640 = wait (k : Int)) := by decide
theorem sum_lt : ∀ k, k < 10 → sum k ≤ 3000 := by decide
end Pln
namespace Go.Proofs.YtocjjfjcepflnaaDoor
open Go.RowKit
/-- The entry of the k-th round. -/
def eN (b : Int) (k : Nat) : En := enX 1 b (b + Pln.sum k) (k : Int) none 0 0
def wN (k : Nat) : Int := if k = 0 then 0 else Pln.wait ((k : Int) - 1)
theorem again_yes (b : Int) (k : Nat) (hk : k < 8) (h0 : 0 ≤ b) (h1 : b < 549755813888) (W : World) : Calls Tryd.prog 17 #[.agg (enA (eN b k)), .int .u64 (b + Pln.sum k)] W fun e w' => e = .returned (.tuple #[.agg (enA (eN b (k + 1))), .bool true]) ∧ Below W.heap.size W w' := by
  obtain ⟨f1, f2, f3, f4, f5, f6, f7⟩ := Pln.sum_facts k (by omega)
  have f8 := f5 hk
  have e1 : Pln.nx (b + Pln.sum k) (k : Int) = b + Pln.sum (k + 1) := by
    unfold Pln.nx
    rw [Pln.sum]
    omega
  have h := again_any (eN b k) (b + Pln.sum k) W (by omega) (by omega) (by show _ ≤ ((k : Nat) : Int); omega) (by show ((k : Nat) : Int) < _; omega)
  have ea : Pln.agB (eN b k).born (b + Pln.sum k) (eN b k).tries = false := by
    show (Pln.outB b (b + Pln.sum k) || Pln.outB b (Pln.nx (b + Pln.sum k) (k : Int))) = false
    rw [e1]
    unfold Pln.outB
    rw [Bool.or_eq_false_iff]
    exact ⟨decide_eq_false (by omega), decide_eq_false (by omega)⟩
  have eb : agE (eN b k) (b + Pln.sum k) = eN b (k + 1) := by
    unfold agE
    rw [ea, if_neg Bool.false_ne_true]
    show (⟨1, [], 0, 0, [], [], none, 0, 0, b, min (Pln.nx (b + Pln.sum k) (k : Int)) 1099511627776, min ((k : Int) + 1) 100⟩ : En) = ⟨1, [], 0, 0, [], [], none, 0, 0, b, b + Pln.sum (k + 1), ((k + 1 : Nat) : Int)⟩
    rw [e1]
    congr 1 <;> omega
  rw [ea, eb] at h
  exact h
theorem again_no (b : Int) (h0 : 0 ≤ b) (h1 : b < 549755813888) (W : World) : Calls Tryd.prog 17 #[.agg (enA (eN b 8)), .int .u64 (b + Pln.sum 8)] W fun e w' => e = .returned (.tuple #[.agg (enA (eN b 8)), .bool false]) ∧ Below W.heap.size W w' := by
  obtain ⟨f1, f2, f3, f4, f5, f6, f7⟩ := Pln.sum_facts 8 (by omega)
  have f8 := f6 rfl
  have e1 : Pln.nx (b + Pln.sum 8) 8 = b + Pln.sum (8 + 1) := by
    have e2 : Pln.sum (8 + 1) = Pln.sum 8 + Pln.wait 8 := rfl
    unfold Pln.nx
    rw [e2]
    generalize Pln.sum 8 = s8 at *
    generalize Pln.wait 8 = w8 at *
    omega
  have h := again_any (eN b 8) (b + Pln.sum 8) W (by omega) (by omega) (by show _ ≤ ((8 : Nat) : Int); omega) (by show ((8 : Nat) : Int) < _; omega)
  have ea : Pln.agB (eN b 8).born (b + Pln.sum 8) (eN b 8).tries = true := by
    show (Pln.outB b (b + Pln.sum 8) || Pln.outB b (Pln.nx (b + Pln.sum 8) 8)) = true
    rw [e1]
    unfold Pln.outB
    rw [Bool.or_eq_true]
    exact .inr (decide_eq_true (by omega))
  have eb : agE (eN b 8) (b + Pln.sum 8) = eN b 8 := by
    unfold agE
    rw [ea, if_pos rfl]
  rw [ea, eb] at h
  exact h

set_option maxRecDepth 100000 in
set_option maxHeartbeats 8000000 in
theorem ends_any (born : Int) (m : Int) (w : World) (h0 : 0 ≤ born) (hm : w.cell? ⟨0, 0, none⟩ = some (.int .i64 m)) : Calls Tryd.prog 7 #[.int .u64 born] w fun e w' => e = .returned (.bool true) ∧ Below w.heap.size w w' := by
  have HA := Lib.hid (awake_any m w hm)
  have hb0 : 0 ≤ born % 549755813888 := Int.emod_nonneg _ (by decide)
  have hb1 : born % 549755813888 < 549755813888 := Int.emod_lt_of_pos _ (by decide)
  clear hm
  go_enter Tryd.func7, Tryd.ntmps7
  go_wp2_with fail
  refine HA.out.mono ?_
  rintro e w1 ⟨rfl, h1⟩
  have H1 := Lib.hid h1
  have hs1 := h1.size
  clear h1
  go_wp2_with fail
  generalize born % 549755813888 = b at *
  have E1 : Hid (Ex w w1.heap.size (eN b 0) (w1.alloc (.cells (enA (enX 1 b b 0 none 0 0)) 41))) := by
    have e : eN b 0 = enX 1 b b 0 none 0 0 := by unfold eN enX; simp [Pln.sum]
    rw [e]
    exact ex_new H1.out (enX 1 b b 0 none 0 0)
  go_loopw [5, 4] (fun u v wr => ∃ k : Nat, u = .int .i64 k ∧ v = .int .u64 (wN k) ∧ k ≤ 8 ∧ Hid (Ex w w1.heap.size (eN b k) wr)) (fun u _ _ => 20 - (intOf u).toNat)
  case atStart => exact ⟨0, rfl, rfl, by omega, E1.out⟩
  case round =>
    obtain ⟨k, rfl, rfl, hk, HE⟩ := hrel
    clear E1
    have hkz : (k : Int) < 20 := by omega
    obtain ⟨f1, f2, f3, f4, f5, f6, f7⟩ := Pln.sum_facts k (by omega)
    obtain ⟨q0, q1, q2, q3, q4, q5, q6, q7, q8, q9⟩ := ex_cells HE.out
    have g0 := ex_frozen HE.out 0
    have g1 := ex_frozen HE.out 1
    have g2 := ex_frozen HE.out 2
    have g3 := ex_frozen HE.out 3
    have g4 := ex_frozen HE.out 4
    have g5 := ex_frozen HE.out 5
    have g6 := ex_frozen HE.out 6
    have g7 := ex_frozen HE.out 7
    have g8 := ex_frozen HE.out 8
    have g9 := ex_frozen HE.out 9
    by_cases h8 : k < 8
    · have C1 := Lib.hid (again_yes b k h8 hb0 hb1 wr)
      have H8 : Hid (k + 1 ≤ 8 ∧ k < 20) := ⟨h8, by omega⟩
      have f8 := f5 h8
      have hs : Pln.sum (k + 1) = Pln.sum k + Pln.wait (k : Int) := rfl
      obtain ⟨nx, hnx⟩ : ∃ nx, nx = b + Pln.sum k := ⟨_, rfl⟩
      obtain ⟨nx1, hnx1⟩ : ∃ nx1, nx1 = b + Pln.sum (k + 1) := ⟨_, rfl⟩
      obtain ⟨b2, hb2⟩ : ∃ b2, b2 = b + 2000 := ⟨_, rfl⟩
      obtain ⟨t1, ht1⟩ : ∃ t1, t1 = ((k + 1 : Nat) : Int) := ⟨_, rfl⟩
      have HT1 := Lib.hid ht1
      have C2 := Lib.hid (fun W => out_any (eN b (k + 1)) nx1 W (by omega) (by omega))
      have e2 : Pln.outB (eN b (k + 1)).born nx1 = false := by
        show Pln.outB b nx1 = false
        unfold Pln.outB
        exact decide_eq_false (by omega)
      rw [e2] at C2
      have HREL : Hid (∀ W, Ex w w1.heap.size (enX 1 b nx1 t1 none 0 0) W → Ex w w1.heap.size (eN b (k + 1)) W) := fun W h => by unfold eN; rw [← hnx1, ← ht1]; exact h
      have w1' : IntKind.u64.wrap (nx1 - nx) = Pln.wait (k : Int) := by simp [IntKind.wrap, IntKind.signed, IntKind.bits]; omega
      have w2 : IntKind.u64.wrap (b + 2000) = b2 := by simp [IntKind.wrap, IntKind.signed, IntKind.bits]; omega
      have w3' : IntKind.i64.wrap ((k : Int) + 1) = t1 := by rw [IntKind.wrap_i64]; omega
      have o1 : ¬ nx1 ≤ nx := by omega
      have o2 : ¬ b2 ≤ nx1 := by omega
      have o3 : ¬ Pln.wait (k : Int) < 10 := by omega
      unfold eN enX enA at C1 C2
      unfold eN enX at HE q0 q1 q2 q3 q4 q5 q6 q7 q8 q9
      rw [← hnx, ← hnx1, ← ht1] at C1
      rw [← hnx1, ← ht1] at C2
      rw [← hnx] at HE q8
      have HWN : Hid (wN (k + 1) = Pln.wait (k : Int)) := by
        show _ = _
        unfold wN
        rw [if_neg (by omega), show (((k + 1 : Nat) : Int) - 1) = (k : Int) by omega]
      by_cases k0 : k = 0
      · have e0 : wN k = 0 := by unfold wN; rw [if_pos k0]
        rw [e0]
        clear f1 f2 f3 f4 f5 f6 f7 f8 hs hnx hnx1 hb2 e2 e0 ht1 k0
        generalize Pln.wait (k : Int) = wt at *
        go_wp2_with fail
        refine C1.out.mono ?_
        rintro e w3 ⟨rfl, h3⟩
        have HE3 := Lib.hid (ex_next (ex_next HE.out h3) ((Below.refl _ _).alloc (Nat.le_refl _) (.cells (enW 1 b nx1 t1 none 0 0) 41)))
        have HX3 : Hid (Ex w w3.heap.size (enX 1 b nx1 t1 none 0 0) (w3.alloc (.cells (enW 1 b nx1 t1 none 0 0) 41))) := ex_new (HE.out.bel.trans (h3.mono HE.out.bel.size)) _
        clear q0 q1 q2 q3 q4 q5 q6 q7 q8 q9 g0 g1 g2 g3 g4 g5 g6 g7 g8 g9 h3
        obtain ⟨q0, q1, q2, q3, q4, q5, q6, q7, q8, q9⟩ := ex_cells HE3.out
        go_wp2_with fail
        refine (C2.out _).mono ?_
        rintro e w4 ⟨rfl, h4⟩
        have HE4 := Lib.hid (ex_next HE3.out h4)
        have HX4 := Lib.hid (ex_next HX3.out h4)
        clear h4 q0 q1 q2 q3 q4 q5 q6 q7 q8 q9
        obtain ⟨q0, q1, q2, q3, q4, q5, q6, q7, q8, q9⟩ := ex_cells HE4.out
        obtain ⟨y0, y1, y2, y3, y4, y5, y6, y7, y8, y9⟩ := ex_cells HX4.out
        have g0 := ex_frozen HE4.out 0
        have g1 := ex_frozen HE4.out 1
        have g2 := ex_frozen HE4.out 2
        have g3 := ex_frozen HE4.out 3
        have g4 := ex_frozen HE4.out 4
        have g5 := ex_frozen HE4.out 5
        have g6 := ex_frozen HE4.out 6
        have g7 := ex_frozen HE4.out 7
        have g8 := ex_frozen HE4.out 8
        have g9 := ex_frozen HE4.out 9
        have HP := Lib.hid (ex_put HE4.out (enX 1 b nx1 t1 none 0 0))
        go_wp2_with fail
        go_roundw
        case rel => exact ⟨k + 1, by first | rw [HT1.out] | go_num, by rw [HWN.out], H8.out.1, HREL.out _ HP.out⟩
        case measure => have h20 := H8.out.2; have ht2 := HT1.out; simp [intOf]; omega
      · obtain ⟨pw, hpw⟩ : ∃ pw, pw = Pln.wait ((k : Int) - 1) := ⟨_, rfl⟩
        have e0 : wN k = pw := by unfold wN; rw [if_neg k0, hpw]
        have hj := (Pln.sum_facts (k - 1) (by omega)).2.2
        rw [show (((k - 1 : Nat) : Int)) = (k : Int) - 1 by omega, ← hpw] at hj
        obtain ⟨d1, hd1⟩ : ∃ d1, d1 = 2 * pw := ⟨_, rfl⟩
        have w4 : IntKind.u64.wrap (2 * pw) = d1 := by simp [IntKind.wrap, IntKind.signed, IntKind.bits]; omega
        have w5 := f7 (by omega)
        rw [← hpw, ← hd1] at w5
        have o4 : (0 : Int) < pw := by omega
        rw [e0]
        clear f1 f2 f3 f4 f5 f6 f7 f8 hs hnx hnx1 hb2 e2 e0 ht1 hpw hj hd1
        generalize Pln.wait (k : Int) = wt at *
        go_wp2_with fail
        refine C1.out.mono ?_
        rintro e w3 ⟨rfl, h3⟩
        have HE3 := Lib.hid (ex_next (ex_next HE.out h3) ((Below.refl _ _).alloc (Nat.le_refl _) (.cells (enW 1 b nx1 t1 none 0 0) 41)))
        have HX3 : Hid (Ex w w3.heap.size (enX 1 b nx1 t1 none 0 0) (w3.alloc (.cells (enW 1 b nx1 t1 none 0 0) 41))) := ex_new (HE.out.bel.trans (h3.mono HE.out.bel.size)) _
        clear q0 q1 q2 q3 q4 q5 q6 q7 q8 q9 g0 g1 g2 g3 g4 g5 g6 g7 g8 g9 h3
        obtain ⟨q0, q1, q2, q3, q4, q5, q6, q7, q8, q9⟩ := ex_cells HE3.out
        go_wp2_with fail
        refine (C2.out _).mono ?_
        rintro e w4 ⟨rfl, h4⟩
        have HE4 := Lib.hid (ex_next HE3.out h4)
        have HX4 := Lib.hid (ex_next HX3.out h4)
        clear h4 q0 q1 q2 q3 q4 q5 q6 q7 q8 q9
        obtain ⟨q0, q1, q2, q3, q4, q5, q6, q7, q8, q9⟩ := ex_cells HE4.out
        obtain ⟨y0, y1, y2, y3, y4, y5, y6, y7, y8, y9⟩ := ex_cells HX4.out
        have g0 := ex_frozen HE4.out 0
        have g1 := ex_frozen HE4.out 1
        have g2 := ex_frozen HE4.out 2
        have g3 := ex_frozen HE4.out 3
        have g4 := ex_frozen HE4.out 4
        have g5 := ex_frozen HE4.out 5
        have g6 := ex_frozen HE4.out 6
        have g7 := ex_frozen HE4.out 7
        have g8 := ex_frozen HE4.out 8
        have g9 := ex_frozen HE4.out 9
        have HP := Lib.hid (ex_put HE4.out (enX 1 b nx1 t1 none 0 0))
        go_wp2_with fail
        go_roundw
        case rel => exact ⟨k + 1, by first | rw [HT1.out] | go_num, by rw [HWN.out], H8.out.1, HREL.out _ HP.out⟩
        case measure => have h20 := H8.out.2; have ht2 := HT1.out; simp [intOf]; omega
    · obtain rfl : k = 8 := by omega
      have C1 := Lib.hid (again_no b hb0 hb1 wr)
      have C2 := Lib.hid (fun W => out_any (eN b 8) (b + 2000) W (by omega) (by omega))
      have e2 : Pln.outB (eN b 8).born (b + 2000) = true := by
        show Pln.outB b (b + 2000) = true
        unfold Pln.outB
        exact decide_eq_true (by omega)
      rw [e2] at C2
      obtain ⟨nx, hnx⟩ : ∃ nx, nx = b + Pln.sum 8 := ⟨_, rfl⟩
      unfold eN enX enA at C1 C2
      unfold eN enX at HE q0 q1 q2 q3 q4 q5 q6 q7 q8 q9
      rw [← hnx] at C1 C2 HE q8
      simp only [Int.cast_ofNat_Int] at C1 C2 HE q9
      clear f1 f2 f3 f4 f5 f6 f7 hnx e2 h8
      go_wp2_with fail
      refine C1.out.mono ?_
      rintro e w3 ⟨rfl, h3⟩
      have HE3 := Lib.hid (ex_next (ex_next HE.out h3) ((Below.refl _ _).alloc (Nat.le_refl _) (.cells (enW 1 b nx 8 none 0 0) 41)))
      clear q0 q1 q2 q3 q4 q5 q6 q7 q8 q9 g0 g1 g2 g3 g4 g5 g6 g7 g8 g9 h3
      obtain ⟨q0, q1, q2, q3, q4, q5, q6, q7, q8, q9⟩ := ex_cells HE3.out
      have HB3 := Lib.hid HE3.out.bel
      go_wp2_with fail
      refine (C2.out _).mono ?_
      rintro e w4 ⟨rfl, h4⟩
      have HB4 := Lib.hid (HB3.out.trans (h4.mono HB3.out.size))
      clear h4 q0 q1 q2 q3 q4 q5 q6 q7 q8 q9
      go_wp2_with fail
      go_ret
      exact ⟨rfl, HB4.out⟩
theorem u64_wf {x : Int} (h : (Lit.int .u64 x).wf = true) : 0 ≤ x ∧ x < 18446744073709551616 := by
  simp [Lit.wf, IntKind.min, IntKind.max, IntKind.signed, IntKind.bits] at h
  omega
theorem i64_wf {x : Int} (h : (Lit.int .i64 x).wf = true) : -9223372036854775808 ≤ x ∧ x ≤ 9223372036854775807 := by
  simp [Lit.wf, IntKind.min, IntKind.max, IntKind.signed, IntKind.bits] at h
  omega
theorem planEnds_any (m : Int) (born : Int) (w : World) (hm : w.cell? ⟨0, 0, none⟩ = some (.int .i64 m)) (h : (Lit.int .u64 born).wf = true) : Calls Tryd.prog 7 #[.int .u64 born] w fun e w' => e = .returned (.bool true) ∧ Below w.heap.size w w' :=
  ends_any born m w (u64_wf h).1 hm
end Go.Proofs.YtocjjfjcepflnaaDoor
