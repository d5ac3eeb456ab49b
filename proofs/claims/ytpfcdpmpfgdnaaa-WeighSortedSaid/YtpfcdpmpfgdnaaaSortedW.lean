/-
  PROVED HERE: WeighSorted answers true, whatever row of words comes in (the walk).
-/
import Derived.Test.YtpfcdpmpfgdnaaaOrdW
import Derived.Test.YtpfcdpmpfgdnaaaStbO
namespace Go.Proofs.Ytpfcdpmpfgdnaaa
open Go.RowKit Go.Sort Go.Maps

theorem plainElem_bool_inv {H : Type} {P : Program} {e : TypeId} (he : P.underlying e = some .bool) {v : Value} {z : DataW H × List MemPlace} (h : plainElem P e v = some z) : ∃ a, v = .bool a ∧ z = (.lit (.bool a), []) := by
  unfold plainElem at h
  rw [he] at h
  cases v <;> simp at h
  exact ⟨_, rfl, h.symm⟩

/-- A place that was not seen yet is looked up: false. -/
theorem seen_not {W : World} {b n : Nat} {l : List Nat} {k x : Nat} (h : W.ownsMap Try.prog 3 (plainElem Try.prog 4) b n (SeenD l k)) (hx : x < 9223372036854775808) (hn : ∀ i, i < k → i < l.length → l.getD i 0 ≠ x) :
    (Instr.lookup 40 (.map (some b)) (.int .i64 (x : Int)) false).run Try.prog W = .ok (.bool false) W := by
  have hkey : keyOf Try.prog 3 (.int .i64 (x : Int)) = some (.int .i64 (x : Int)) := keyOf_int_mk Try.underlying3 (WalkArith.wf_i64 (by omega))
  obtain ⟨v, ps, hrun, hv⟩ := h.lookup (int_keyed Try.underlying3) Try.underlying40 (z := .bool false) (by kernel_rfl) (plainElem_bool Try.underlying4 false) hkey
  obtain ⟨c, rfl, hc⟩ := plainElem_bool_inv Try.underlying4 hv
  rw [SeenD_not l k x hn] at hc
  simp only [Prod.mk.injEq, DataW.lit.injEq, Lit.bool.injEq] at hc
  rw [hrun, ← hc.1]

set_option maxRecDepth 100000 in
set_option maxHeartbeats 2000000 in
theorem sorted_nil (A : Option Addr) (cap : Nat) (w : World) : Calls Try.prog 7 #[.slice A 0 cap] w fun e w' => e = .returned (.bool true) ∧ Below w.heap.size w w' := by
  have hmm := @run_makeMap Try.prog
  go_enter Try.func7, Try.ntmps7
  go_wp2_with fail
  refine (awake_any _).mono ?_
  rintro e w1 ⟨rfl, hb1⟩
  have s1 := hb1.size
  have HB1 := Lib.hid hb1
  clear hb1
  go_wp2_with fail
  refine (order_none _ _ _).mono ?_
  rintro e w2 ⟨rfl, hb2⟩
  have s2 := hb2.size
  have HB2 := Lib.hid hb2
  clear hb2
  go_wp2
  go_loop [18] (fun v => v = .int .i64 0) (fun _ => 0)
  case atStart => rfl
  case round =>
    subst hrel
    go_wp2_with fail
    go_quiet (fail)
    go_wp2
    go_ret
    exact ⟨rfl, below_drewN ((HB1.out.trans (HB2.out.mono s1)).alloc (by omega) _) _⟩

set_option maxHeartbeats 2000000 in
theorem sorted_large (A : Option Addr) (n cap : Nat) (w : World) (hn : 200 < n) : Calls Try.prog 7 #[.slice A n cap] w fun e w' => e = .returned (.bool true) ∧ Below w.heap.size w w' := by
  have hnz : (200 : Int) < (n : Int) := by omega
  go_enter Try.func7, Try.ntmps7
  go_wp2_with fail
  refine (awake_any _).mono ?_
  rintro e w1 ⟨rfl, hb1⟩
  have HB1 := Lib.hid hb1
  clear hb1
  go_wp2
  go_ret
  exact ⟨rfl, HB1.out⟩

set_option maxRecDepth 100000 in
set_option maxHeartbeats 4000000 in
theorem sorted_some (L : Nat → Nat) (hL : ∀ k, L k < 18446744073709551616) (b off n cap : Nat) (w : World) (hn : 0 < n) (hn2 : n ≤ 200) (hb : b < w.heap.size) (hw : Words w b off n L) :
    Calls Try.prog 7 #[.slice (some ⟨b, off, none⟩) n cap] w fun e w' => e = .returned (.bool true) ∧ Below w.heap.size w w' := by
  have hmm := @run_makeMap Try.prog
  have HLL := Lib.hid hL
  have HW := Lib.hid hw
  clear hL hw
  go_enter Try.func7, Try.ntmps7
  go_wp2_with fail
  refine (awake_any _).mono ?_
  rintro e w1 ⟨rfl, hb1⟩
  have s1 := hb1.size
  have HB1 := Lib.hid hb1
  clear hb1
  go_wp2_with fail
  refine (order_some L HLL.out b off n cap _ hn (by omega) (by omega) (words_kept HW.out hb HB1.out)).mono ?_
  rintro e w2 ⟨g2, c2, rfl, hg3, hc2, hb2⟩
  have s2 := hb2.size
  have hcl : ∀ W, Below w2.heap.size w2 W → ∀ k, k < n → W.cell? ⟨g2, k, none⟩ = some (.int .i64 (((ordL L n).getD k 0 : Nat) : Int)) ∧ W.cell? ⟨b, off + k, none⟩ = some (.int .u64 (L k : Int)) := by
    intro W hW k hk
    obtain ⟨_, _, e2, l2⟩ := plain_addr (hc2 k hk)
    injection e2 with e2
    refine ⟨?_, ?_⟩
    · rw [hW.cell (p := ⟨g2, k, none⟩) (by show g2 < w2.heap.size; omega)]
      exact hc2 k hk
    · exact words_kept HW.out hb (HB1.out.trans ((hb2.mono s1).trans (hW.mono (by omega)))) k hk
  have HCL := Lib.hid hcl
  have HB2 := Lib.hid hb2
  clear hb2 hc2 hcl
  go_wp2
  go_loopw [18] (fun u wr => ∃ k : Nat, u = .int .i64 k ∧ k ≤ n ∧ wr.ownsMap Try.prog 3 (plainElem Try.prog 4) w2.heap.size k (SeenD (ordL L n) k) ∧ Below w2.heap.size w2 wr) (fun u _ => n - (intOf u).toNat)
  case atStart => exact ⟨0, rfl, by omega, by rw [SeenD_zero]; exact World.ownsMap_made _ _ _ _, (Below.refl _ _).alloc (Nat.le_refl _) _⟩
  case round =>
    obtain ⟨k, rfl, hk, hown, hbel⟩ := hrel
    by_cases hlt : k < n
    · have hltz : (k : Int) < (n : Int) := by omega
      obtain ⟨x, hx⟩ : ∃ x, x = (ordL L n).getD k 0 := ⟨_, rfl⟩
      have hxn : x < n := hx ▸ ordL_bd L n k hlt
      have hlook := seen_not (x := x) hown (by omega) (fun i hi _ => hx ▸ ordL_ne L n i k hi hlt)
      have hkey : keyOf Try.prog 3 (.int .i64 (x : Int)) = some (.int .i64 (x : Int)) := keyOf_int_mk Try.underlying3 (WalkArith.wf_i64 (by omega))
      have f1 := (HCL.out wr hbel k hlt).1
      rw [← hx] at f1
      have hx0 : ¬ (x : Int) < 0 := by omega
      have hxz : ¬ (n : Int) ≤ (x : Int) := by omega
      have HO := Lib.hid hown
      have HB := Lib.hid hbel
      have HX := Lib.hid hx
      clear hown hbel hx
      go_wp2_with (at_mapUpdate; go_must (refine wpList_mapUpdate_own _ rfl _ _ _ 40 rfl 3 4 (int_keyed Try.underlying3) Try.underlying40 (plainElem (H := Unit) Try.prog 4) w2.heap.size k _ rfl HO.out (by unfold maxLen; omega) _ _ _ rfl rfl hkey _ [] (plainElem_bool Try.underlying4 true) ?_))
      intro w3 hown1 hgrow1
      have hbel1 : Below w2.heap.size w2 w3 := HB.out.grown hgrow1 HB.out.size (fun j hj => by cases hj; exact Nat.le_refl _)
      rw [HX.out, ← SeenD_succ _ _ (by rw [length_ordL]; exact hlt)] at hown1
      clear hgrow1 hlook hkey f1
      rcases Nat.eq_zero_or_pos k with h0 | h0
      · subst h0
        have HO1 := Lib.hid hown1
        have HB1' := Lib.hid hbel1
        clear hown1 hbel1
        go_wp2
        go_roundw
        case rel => exact ⟨1, by go_num, by omega, HO1.out, HB1'.out⟩
        case measure => simp [intOf]; omega
      · obtain ⟨j, rfl⟩ : ∃ j, k = j + 1 := ⟨k - 1, by omega⟩
        obtain ⟨y, hy⟩ : ∃ y, y = (ordL L n).getD j 0 := ⟨_, rfl⟩
        have hyn : y < n := hy ▸ ordL_bd L n j (by omega)
        have f1 := (HCL.out w3 hbel1 (j + 1) hlt).1
        have f2 := (HCL.out w3 hbel1 j (by omega)).1
        have f3 := (HCL.out w3 hbel1 x hxn).2
        have f4 := (HCL.out w3 hbel1 y hyn).2
        have two := ordL_two L n j (j + 1) (by omega) hlt
        rw [← HX.out, ← hy] at two
        rw [← HX.out] at f1
        rw [← hy] at f2
        have l1 := HLL.out x
        have l2 := HLL.out y
        have HO1 := Lib.hid hown1
        have HB1' := Lib.hid hbel1
        clear hown1 hbel1 hy HX
        generalize L x = X at *
        generalize L y = Y at *
        have hc3 : ∀ W : World, Calls Try.prog 13 #[.int .u64 (Y : Int), .int .u64 (X : Int)] W fun e w' => e = .returned (.int .i64 (Wgh.cmpW Y X)) ∧ W = w' := fun W => compare_any Y X W (by omega) (by omega) (by omega) (by omega)
        have HC := Lib.hid hc3
        clear hc3 l1 l2
        obtain ⟨t1, t2⟩ := two
        generalize Wgh.cmpW Y X = c at *
        have hj1 : ((j + 1 : Nat) : Int) - 1 = (j : Int) := by omega
        have hj2 : ((j + 1 : Nat) : Int) ≠ 0 := by omega
        have hjn : (j : Int) < (n : Int) := by omega
        have hyz : (y : Int) < (n : Int) := by omega
        have hxz2 : (x : Int) < (n : Int) := by omega
        go_wp2_with fail
        go_quiet ((go_at_call 13; exact Calls.quiet_of_same ((HC.out _).mono fun _ _ h => ⟨h.1, h.2.symm⟩)))
        by_cases hc : c = 0
        · have t3 := t2 hc
          have t4 : ¬ (x : Int) ≤ (y : Int) := by omega
          subst hc
          go_wp2
          go_roundw
          case rel => exact ⟨j + 2, by go_num, by omega, HO1.out, below_drewN HB1'.out _⟩
          case measure => simp [intOf]; omega
        · go_wp2
          go_roundw
          case rel => exact ⟨j + 2, by go_num, by omega, HO1.out, below_drewN HB1'.out _⟩
          case measure => simp [intOf]; omega
    · have hltz : ¬ (k : Int) < (n : Int) := by omega
      obtain rfl : k = n := by omega
      have HL : Hid (∀ q, Calls Try.prog 27 #[.slice (some ⟨b, off, none⟩) k cap] (wr.drewN q) fun e w' => e = .returned (.int .i64 (leastI L k)) ∧ (wr.drewN q) = w') := fun q => least_some L HLL.out b off k cap _ hn (by omega) (fun i hi => (HCL.out wr hbel i hi).2)
      have f1 := (HCL.out wr hbel 0 hn).1
      rw [← least_ord L k hn] at f1
      have HB := Lib.hid hbel
      clear hown hbel
      have hd1 : decide ((k : Int) = 0) = false := decide_eq_false (by omega)
      have hd2 : ((k : Int) == 0) = false := by rw [beq_eq_false_iff_ne]; omega
      generalize leastI L k = ll at *
      go_wp2_with fail
      go_quiet ((go_at_call 27; exact Calls.quiet_of_same ((HL.out _).mono fun _ _ h => ⟨h.1, h.2.symm⟩)))
      go_wp2
      go_ret
      exact ⟨rfl, below_drewN (HB1.out.trans ((HB2.out.mono s1).trans (HB.out.mono (by omega)))) _⟩
end Go.Proofs.Ytpfcdpmpfgdnaaa
