/-
  PROVED HERE: WeighOrders answers true, whatever row of words comes in (the walk).
-/
import Derived.Test.YtpfcdpmpfgdnaaaRLeast
namespace Go.Proofs.Ytpfcdpmpfgdnaaa
open Go.RowKit Go.Sort

theorem words_kept {w w1 : World} {b off n : Nat} {L : Nat → Nat} {B : Nat} (h : Words w b off n L) (hb : b < B) (hB : Below B w w1) : Words w1 b off n L := by
  intro k hk
  rw [hB.cell (p := ⟨b, off + k, none⟩) hb]
  exact h k hk

set_option maxRecDepth 100000 in
set_option maxHeartbeats 2000000 in
theorem orders_nil (cap : Nat) (w : World) : Calls Try.prog 5 #[.slice none 0 cap] w fun e w' => e = .returned (.bool true) ∧ Below w.heap.size w w' := by
  go_enter Try.func5, Try.ntmps5
  go_wp2_with fail
  refine (awake_any _).mono ?_
  rintro e w1 ⟨rfl, hb1⟩
  have s1 := hb1.size
  have HB1 := Lib.hid hb1
  clear hb1
  go_wp2_with fail
  refine (order_none _ _ _).mono ?_
  rintro e w2 ⟨rfl, hb2⟩
  have s2 := hb2.size
  have HB2 := Lib.hid hb2
  clear hb2
  go_wp2_with fail
  refine (rorder_none _ _ _).mono ?_
  rintro e w3 ⟨rfl, hb3⟩
  have s3 := hb3.size
  have HB3 := Lib.hid hb3
  clear hb3
  go_wp2_with fail
  refine (least_none _ _ _).mono ?_
  rintro e w' ⟨rfl, rfl⟩
  go_wp2_with fail
  refine (rleast_none _ _ _).mono ?_
  rintro e w4 ⟨rfl, hb4⟩
  have HB4 := Lib.hid hb4
  clear hb4
  go_wp2
  go_loop [33] (fun v => v = .int .i64 0) (fun _ => 0)
  case atStart => rfl
  case round =>
    subst hrel
    go_wp2
    go_ret
    simp only [World.size_alloc] at s2 s3
    exact ⟨rfl, (HB1.out.alloc s1 _).trans ((HB2.out.mono (by simp only [World.size_alloc]; omega)).trans ((HB3.out.mono (by omega)).trans (HB4.out.mono (by omega))))⟩

set_option maxRecDepth 100000 in
set_option maxHeartbeats 2000000 in
theorem orders_empty (x : Addr) (cap : Nat) (w : World) : Calls Try.prog 5 #[.slice (some x) 0 cap] w fun e w' => e = .returned (.bool true) ∧ Below w.heap.size w w' := by
  obtain ⟨i0, hi, hz0, hz1, hz2⟩ := info_parts info22
  go_enter Try.func5, Try.ntmps5
  go_wp2_with fail
  refine (awake_any _).mono ?_
  rintro e w1 ⟨rfl, hb1⟩
  have s1 := hb1.size
  have HB1 := Lib.hid hb1
  clear hb1
  go_wp2_with (at_builtin; go_must (refine wpList_append_own_at _ rfl (.tmp 12) (.tmp 13) 35 rfl w.heap.size 22 i0 (.int .u64 0) 1 8 Try.underlying35 hi hz0 hz1 hz2 rfl (by decide) (.slice (some ⟨w1.heap.size, 0, none⟩) 0 0) 0 [] rfl ?a1 x 0 cap [] rfl rfl ?a3 ?a4 ?a5 ?a6 ?a7 ?_))
  case a1 => exact World.ownsRow_lit w1 #[] 0 s1 (by unfold maxLen; omega) rfl
  case a3 => intro j u hu; cases hu
  case a4 => intro u hu; cases hu
  case a5 => unfold maxLen; omega
  case a6 => omega
  case a7 => simp only [World.size_alloc]; omega
  intro v w1' hown hg hne hat
  have hb5 : Below w1.heap.size w1 w1' := ((Below.refl _ _).alloc (Nat.le_refl _) _).grown hg (by simp) (by simp [Value.ownBlock])
  obtain ⟨g, c, rfl⟩ : ∃ g c, v = .slice (some ⟨g, 0, none⟩) 0 c := by
    rcases hown.2 with ⟨h, _⟩ | ⟨g, c, _, h, _⟩
    · exact absurd h hne
    · exact ⟨g, c, h⟩
  have s5 := hb5.size
  have HB5 := Lib.hid hb5
  clear hown hg hne hat hb5
  go_wp2_with fail
  refine (order_none _ _ _).mono ?_
  rintro e w2 ⟨rfl, hb2⟩
  have s2 := hb2.size
  have HB2 := Lib.hid hb2
  clear hb2
  go_wp2_with fail
  refine (rorder_none _ _ _).mono ?_
  rintro e w3 ⟨rfl, hb3⟩
  have s3 := hb3.size
  have HB3 := Lib.hid hb3
  clear hb3
  go_wp2_with fail
  refine (least_none _ _ _).mono ?_
  rintro e w' ⟨rfl, rfl⟩
  go_wp2_with fail
  refine (rleast_none _ _ _).mono ?_
  rintro e w4 ⟨rfl, hb4⟩
  have HB4 := Lib.hid hb4
  clear hb4
  go_wp2
  go_loop [33] (fun v => v = .int .i64 0) (fun _ => 0)
  case atStart => rfl
  case round =>
    subst hrel
    go_wp2
    go_ret
    exact ⟨rfl, HB1.out.trans ((HB5.out.mono s1).trans ((HB2.out.mono (by omega)).trans ((HB3.out.mono (by omega)).trans (HB4.out.mono (by omega)))))⟩

set_option maxRecDepth 100000 in
set_option maxHeartbeats 4000000 in
theorem orders_some (L : Nat → Nat) (hL : ∀ k, L k < 18446744073709551616) (b off n cap : Nat) (w : World) (hn : 0 < n) (hn2 : n ≤ 200) (hb : b < w.heap.size) (hw : Words w b off n L) :
    Calls Try.prog 5 #[.slice (some ⟨b, off, none⟩) n cap] w fun e w' => e = .returned (.bool true) ∧ Below w.heap.size w w' := by
  obtain ⟨i0, hi, hz0, hz1, hz2⟩ := info_parts info22
  have HLL := Lib.hid hL
  have HW := Lib.hid hw
  clear hL hw
  go_enter Try.func5, Try.ntmps5
  go_wp2_with fail
  refine (awake_any _).mono ?_
  rintro e w1 ⟨rfl, hb1⟩
  have s1 := hb1.size
  have HB1 := Lib.hid hb1
  clear hb1
  go_wp2_with (at_builtin; go_must (refine wpList_append_own_at _ rfl (.tmp 12) (.tmp 13) 35 rfl w.heap.size 22 i0 (.int .u64 0) 1 8 Try.underlying35 hi hz0 hz1 hz2 rfl (by decide) (.slice (some ⟨w1.heap.size, 0, none⟩) 0 0) 0 [] rfl ?a1 ⟨b, off, none⟩ n cap ((List.range n).map fun k => Value.int .u64 (L k : Int)) rfl ?a2 ?a3 ?a4 ?a5 ?a6 ?a7 ?_))
  case a1 => exact World.ownsRow_lit w1 #[] 0 s1 (by unfold maxLen; omega) rfl
  case a2 => simp
  case a3 =>
    intro j u hu
    rw [add_off]
    have hj : j < n := by
      rcases Nat.lt_or_ge j n with g | g
      · exact g
      · rw [List.getElem?_eq_none (by simpa using g)] at hu; cases hu
    rw [List.getElem?_map, List.getElem?_range hj] at hu
    cases hu
    rw [World.cell?_alloc_lt _ _ _ (by show b < w1.heap.size; omega), HB1.out.cell (p := ⟨b, off + j, none⟩) hb]
    exact HW.out j hj
  case a4 =>
    intro u hu
    obtain ⟨k, _, rfl⟩ := List.mem_map.1 hu
    rfl
  case a5 => unfold maxLen; omega
  case a6 => omega
  case a7 => simp only [World.size_alloc]; omega
  intro v w1' hown hg hne hat
  have hb5 : Below w1.heap.size w1 w1' := ((Below.refl _ _).alloc (Nat.le_refl _) _).grown hg (by simp) (by simp [Value.ownBlock])
  obtain ⟨g, c, rfl, hg1, hg2⟩ := own_form hown (by omega)
  have hw5 : Words w1' g 0 n L := by
    intro k hk
    rw [Nat.zero_add]
    have := hown.cellAt k (by omega)
    rw [this]
    simp [hk]
  have s5 := hb5.size
  have HB5 := Lib.hid hb5
  have HW5 := Lib.hid hw5
  clear hown hg hne hat hb5 hw5
  go_wp2_with fail
  refine (order_some L HLL.out g 0 n c _ hn (by omega) hg2 HW5.out).mono ?_
  rintro e w2 ⟨g2, c2, rfl, hg3, hc2, hb2⟩
  have s2 := hb2.size
  have HB2 := Lib.hid hb2
  have HC2 := Lib.hid hc2
  clear hb2 hc2
  go_wp2_with fail
  refine (rorder_some L HLL.out b off n cap _ hn (by omega) (by omega) (words_kept HW.out hb (HB1.out.trans ((HB5.out.mono s1).trans (HB2.out.mono (by omega)))))).mono ?_
  rintro e w3 ⟨g3, c3, rfl, hg4, hc3, hb3⟩
  have s3 := hb3.size
  have HB3 := Lib.hid hb3
  have HC3 := Lib.hid hc3
  clear hb3 hc3
  go_wp2_with fail
  refine (least_some L HLL.out g 0 n c _ hn (by omega) (words_kept HW5.out hg2 (HB2.out.trans (HB3.out.mono s2)))).mono ?_
  rintro e w' ⟨rfl, rfl⟩
  go_wp2_with fail
  refine (rleast_some L HLL.out b off n cap _ hn (by omega) (by omega) (words_kept HW.out hb (HB1.out.trans ((HB5.out.mono s1).trans ((HB2.out.mono (by omega)).trans (HB3.out.mono (by omega))))))).mono ?_
  rintro e w4 ⟨rfl, hb4⟩
  have HB4 := Lib.hid hb4
  clear hb4
  have hcl : ∀ k, k < n → w4.cell? ⟨g2, k, none⟩ = some (.int .i64 (((ordL L n).getD k 0 : Nat) : Int)) ∧ w4.cell? ⟨g3, k, none⟩ = some (.int .i64 (((ordL L n).getD k 0 : Nat) : Int)) ∧ w4.cell? ⟨g, 0 + k, none⟩ = some (.int .u64 (L k : Int)) ∧ w4.cell? ⟨b, off + k, none⟩ = some (.int .u64 (L k : Int)) := by
    intro k hk
    have q2 := (plain_addr (HC2.out k hk))
    have q3 := (plain_addr (HC3.out k hk))
    obtain ⟨_, _, e2, l2⟩ := q2
    obtain ⟨_, _, e3, l3⟩ := q3
    injection e2 with e2
    injection e3 with e3
    refine ⟨?_, ?_, ?_, ?_⟩
    · rw [HB4.out.cell (p := ⟨g2, k, none⟩) (by show g2 < w3.heap.size; omega), HB3.out.cell (p := ⟨g2, k, none⟩) (by show g2 < w2.heap.size; omega)]
      exact HC2.out k hk
    · rw [HB4.out.cell (p := ⟨g3, k, none⟩) (by show g3 < w3.heap.size; omega)]
      exact HC3.out k hk
    · exact words_kept HW5.out hg2 (HB2.out.trans ((HB3.out.mono s2).trans (HB4.out.mono (by omega)))) k hk
    · exact words_kept HW.out hb (HB1.out.trans ((HB5.out.mono s1).trans ((HB2.out.mono (by omega)).trans ((HB3.out.mono (by omega)).trans (HB4.out.mono (by omega)))))) k hk
  have HCL := Lib.hid hcl
  clear hcl
  go_wp2
  go_loopw [33] (fun u wr => ∃ k m : Nat, u = .int .i64 k ∧ k ≤ n ∧ wr = w4.drewN m) (fun u _ => n - (intOf u).toNat)
  case atStart => exact ⟨0, 0, rfl, by omega, rfl⟩
  case round =>
    obtain ⟨k, m, rfl, hk, rfl⟩ := hrel
    by_cases hlt : k < n
    · have hltz : (k : Int) < (n : Int) := by omega
      obtain ⟨f1, f2, f3, f4⟩ := HCL.out k hlt
      rw [Nat.zero_add] at f3
      generalize (ordL L n).getD k 0 = X at *
      generalize L k = Y at *
      go_wp2_with fail
      go_quiet (fail)
      go_wp2
      go_roundw
      case rel => exact ⟨k + 1, _, by go_num, by omega, by first | rfl | rw [World.drewN_drewN]⟩
      case measure => simp [intOf]; omega
    · have hltz : ¬ (k : Int) < (n : Int) := by omega
      go_wp2
      go_ret
      refine ⟨rfl, ?_⟩
      exact below_drewN (HB1.out.trans ((HB5.out.mono s1).trans ((HB2.out.mono (by omega)).trans ((HB3.out.mono (by omega)).trans (HB4.out.mono (by omega)))))) m

set_option maxHeartbeats 2000000 in
theorem orders_large (A : Option Addr) (n cap : Nat) (w : World) (hn : 200 < n) : Calls Try.prog 5 #[.slice A n cap] w fun e w' => e = .returned (.bool true) ∧ Below w.heap.size w w' := by
  have hnz : (200 : Int) < (n : Int) := by omega
  go_enter Try.func5, Try.ntmps5
  go_wp2_with fail
  refine (awake_any _).mono ?_
  rintro e w1 ⟨rfl, hb1⟩
  have HB1 := Lib.hid hb1
  clear hb1
  go_wp2
  go_ret
  exact ⟨rfl, HB1.out⟩

end Go.Proofs.Ytpfcdpmpfgdnaaa
