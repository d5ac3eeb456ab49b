/-
  PROVED HERE: PlanDue of the statements answers true.
-/
import Derived.Test.YtocjjfjcepflnaaDoorAwk
import Derived.Test.YtocjjfjcepflnaaDoorRDue
import Derived.Deep.QuietTactic
set_option linter.unusedVariables false
namespace Go.Proofs.YtocjjfjcepflnaaDoor
open Go.RowKit
theorem own_form {W : World} {base e size : Nat} {v : Value} {n : Nat} {xs : List Value} (h : W.ownsRow base e size v n xs) : ∃ a c, v = .slice a n c ∧ (0 < n → ∃ g, a = some ⟨g, 0, none⟩ ∧ g < W.heap.size ∧ ∀ j u, xs[j]? = some u → W.cell? ⟨g, j, none⟩ = some u) := by
  have h0 := h
  rcases h.2 with ⟨e, e2⟩ | ⟨g, cc, _, e, _, _, hc, _⟩
  · subst e
    obtain rfl : n = 0 := by omega
    exact ⟨none, 0, rfl, fun q => absurd q (Nat.lt_irrefl _)⟩
  · subst e
    refine ⟨_, _, rfl, fun _ => ⟨g, rfl, (h0.lt g rfl).2, fun j u hu => ?_⟩⟩
    have q := h0.cells rfl j u hu
    rw [add_off, Nat.zero_add] at q
    exact q

set_option maxRecDepth 100000 in
set_option maxHeartbeats 8000000 in
theorem due_law (A : Option Addr) (n c : Nat) (F : Nat → En) (G : Nat → Nat → To3) (A2 : Option Addr) (nw c2 : Nat) (h : Nat → UInt64) (now : Int) (m : Int) (w : World) (hE : Ens w A n F) (hT : ∀ k, k < n → Tos w (F k).A (F k).n (G k)) (hW : Wds w A2 nw h) (hn : n ≤ 4611686018427387904) (hnw : nw ≤ 4611686018427387904) (hm : w.cell? ⟨0, 0, none⟩ = some (.int .i64 m)) :
    Calls Tryd.prog 5 #[.slice A n c, .slice A2 nw c2, .int .u64 now] w fun e w' => e = .returned (.bool true) ∧ Below w.heap.size w w' := by
  have HA := Lib.hid (awake_any m w hm)
  have HR := Lib.hid @rdue_any
  have HE := Lib.hid hE
  have HT := Lib.hid hT
  have HW := Lib.hid hW
  clear hE hT hW hm
  go_enter Tryd.func5, Tryd.ntmps5
  go_wp2_with fail
  refine HA.out.mono ?_
  rintro e w1 ⟨rfl, h1⟩
  have H1 := Lib.hid h1
  have HE1 := Lib.hid (ens_below HE.out h1)
  have HW1 := Lib.hid (wds_below HW.out h1)
  have HT1 := Lib.hid (fun k hk => tos_below (HT.out k hk) h1)
  clear h1
  by_cases h60 : 60 < n
  · have h60z : (60 : Int) < (n : Int) := by omega
    go_wp2_with fail
    go_ret
    exact ⟨rfl, H1.out⟩
  have h60z : ¬ (60 : Int) < (n : Int) := by omega
  by_cases h100 : 100 < nw
  · have h100z : (100 : Int) < (nw : Int) := by omega
    go_wp2_with fail
    go_ret
    exact ⟨rfl, H1.out⟩
  have h100z : ¬ (100 : Int) < (nw : Int) := by omega
  go_wp2_with fail
  go_loop [23] (fun u => ∃ k : Nat, u = .int .i64 k ∧ k ≤ n ∧ Hid (∀ j, j < k → (F j).n ≤ 20)) (fun u => n - (intOf u).toNat)
  case atStart => exact ⟨0, rfl, by omega, fun j hj => absurd hj (Nat.not_lt_zero _)⟩
  case round =>
    obtain ⟨k, rfl, hk, HK⟩ := hrel
    by_cases hlt : k < n
    · have hltz : (k : Int) < (n : Int) := by omega
      obtain ⟨b1, o1, rfl, t0, t1, t2, t3, t4, t5, t6, t7, t8, t9⟩ := HE1.out k hlt
      have HKK : Hid ((F k).n ≤ 20 → ∀ j, j < k + 1 → (F j).n ≤ 20) := fun q j hj => by
        by_cases e : j = k
        · rw [e]; exact q
        · exact HK.out j (by omega)
      by_cases h20 : 20 < (F k).n
      · have h20z : (20 : Int) < ((F k).n : Int) := by omega
        clear HKK
        generalize F k = x at *
        go_wp2_with fail
        go_ret
        exact ⟨rfl, H1.out⟩
      · have h20z : ¬ (20 : Int) < ((F k).n : Int) := by omega
        have HK2 := Lib.hid (HKK.out (by omega))
        clear HKK
        generalize hfk : F k = x at *
        clear hfk
        go_wp2_with fail
        go_round
        case rel => exact ⟨k + 1, by go_num, by omega, HK2⟩
        case measure => simp [intOf]; omega
    · have hltz : ¬ (k : Int) < (n : Int) := by omega
      obtain rfl : k = n := by omega
      have HN : Hid (∀ j, j < k → (F j).n ≤ 4611686018427387904) := fun j hj => by have := HK.out j hj; omega
      have CD := Lib.hid (due_any A k c F G A2 nw c2 h now w1 HE1.out HT1.out HN.out HW1.out (by omega) (by omega))
      have CR : Hid (∀ W, Below w1.heap.size w1 W → Calls Tryd.prog 25 #[.slice A k c, .slice A2 nw c2, .int .u64 now] W fun e w' => (∃ v, e = .returned v ∧ w'.ownsRow W.heap.size 36 1 v (lstI F G nw h now k).length ((lstI F G nw h now k).map fun i => .int .u64 (F i).id)) ∧ Below W.heap.size W w') := fun W b =>
        HR.out A k c F G A2 nw c2 h now W (ens_below HE1.out b) (fun j hj => tos_below (HT1.out j hj) b) HN.out (wds_below HW1.out b) (by omega) (by omega)
      rw [dueR_ids, ← lstI_len] at CD
      have hLk : (lstI F G nw h now k).length ≤ k := by
        have q := dueT_len F G nw h now k
        rw [← lstI_len] at q
        exact q
      obtain ⟨M, hM⟩ : ∃ M : List Int, M = (lstI F G nw h now k).map (fun i => (F i).id) := ⟨_, rfl⟩
      have hM1 : (lstI F G nw h now k).length = M.length := by rw [hM, List.length_map]
      have hM2 : (lstI F G nw h now k).map (fun i => Value.int .u64 (F i).id) = M.map fun z => Value.int .u64 z := by rw [hM, List.map_map]; rfl
      rw [hM1, hM2] at CD CR
      rw [hM1] at hLk
      clear hM hM1 hM2 HE HT HW HE1 HT1 HW1 HR HA HK HN
      go_wp2_with fail
      refine CD.out.mono ?_
      rintro e w2 ⟨⟨v2, rfl, o2⟩, b2⟩
      have HO2 := Lib.hid o2
      have HB2 := Lib.hid b2
      clear o2 b2
      have CR2 := Lib.hid (CR.out w2 HB2.out)
      clear CR CD
      go_wp2_with fail
      refine CR2.out.mono ?_
      rintro e w3 ⟨⟨v3, rfl, o3⟩, b3⟩
      have HB3 : Hid (Below w.heap.size w w3) := (H1.out.trans (HB2.out.mono H1.out.size)).trans (b3.mono (by have := H1.out.size; have := HB2.out.size; omega))
      obtain ⟨a2, c2', rfl, F2⟩ := own_form (own_below HO2.out b3)
      obtain ⟨a3, c3', rfl, F3⟩ := own_form o3
      have HF2 := Lib.hid F2
      have HF3 := Lib.hid F3
      clear F2 F3 o3 b3 HO2 HB2 CR2
      go_wp2_with fail
      go_loopw [49] (fun u wr => ∃ j : Nat, u = .int .i64 j ∧ j ≤ M.length ∧ Hid (Below w3.heap.size w3 wr)) (fun u _ => M.length - (intOf u).toNat)
      case atStart => exact ⟨0, rfl, by omega, Below.refl _ _⟩
      case round =>
        obtain ⟨j, rfl, hj, HQ⟩ := hrel
        by_cases hjl : j < M.length
        · have hjz : (j : Int) < (M.length : Int) := by omega
          obtain ⟨g2, rfl, gl2, f2⟩ := HF2.out (by omega)
          obtain ⟨g3, rfl, gl3, f3⟩ := HF3.out (by omega)
          have e : (M.map fun z => Value.int .u64 z)[j]? = some (.int .u64 M[j]) := by rw [List.getElem?_map, List.getElem?_eq_getElem hjl]; rfl
          have d2 : wr.cell? ⟨g2, j, none⟩ = some (.int .u64 M[j]) := by rw [HQ.out.cell (p := ⟨g2, j, none⟩) gl2]; exact f2 _ _ e
          have d3 : wr.cell? ⟨g3, j, none⟩ = some (.int .u64 M[j]) := by rw [HQ.out.cell (p := ⟨g3, j, none⟩) gl3]; exact f3 _ _ e
          have HNX := Lib.hid (fun q => HQ.out.trans ((below_drewN (Below.refl wr.heap.size wr) q).mono HQ.out.size))
          clear e f2 f3
          generalize M[j] = z at *
          go_wp2_with fail
          go_quiet (fail)
          go_wp2
          go_roundw
          case rel => exact ⟨j + 1, by go_num, by omega, HNX.out _⟩
          case measure => simp [intOf]; omega
        · have hjz : ¬ (j : Int) < (M.length : Int) := by omega
          go_wp2_with fail
          go_ret
          exact ⟨rfl, HB3.out.trans (HQ.out.mono HB3.out.size)⟩
theorem planDue_any (m : Int) (A : Option Addr) (n c : Nat) (F : Nat → En) (G : Nat → Nat → To3) (A2 : Option Addr) (nw c2 : Nat) (h : Nat → UInt64) (now : Int) (w : World) (hm : w.cell? ⟨0, 0, none⟩ = some (.int .i64 m)) (hE : Ens w A n F) (hT : ∀ k, k < n → Tos w (F k).A (F k).n (G k)) (hn : n ≤ reachBytes) (hW : Wds w A2 nw h) (hnw : nw ≤ reachBytes) (_ : (Lit.int .u64 now).wf) :
    Calls Tryd.prog 5 #[.slice A n c, .slice A2 nw c2, .int .u64 now] w fun e w' => e = .returned (.bool true) ∧ Below w.heap.size w w' := due_law A n c F G A2 nw c2 h now m w hE hT hW (Nat.le_trans hn (by decide +kernel)) (Nat.le_trans hnw (by decide +kernel)) hm
end Go.Proofs.YtocjjfjcepflnaaDoor
