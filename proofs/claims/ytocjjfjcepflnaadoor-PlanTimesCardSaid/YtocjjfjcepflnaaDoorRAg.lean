/-
  PROVED HERE: what Again of the answer computes.
-/
import Derived.Test.YtocjjfjcepflnaaDoorAg
set_option linter.unusedVariables false
namespace Go.Proofs.YtocjjfjcepflnaaDoor
open Go.RowKit
variable {w W W1 : World} {A B : Nat} {x y : En}

set_option maxRecDepth 100000 in
set_option maxHeartbeats 8000000 in
theorem ragain_any (x : En) (now : Int) (w : World) (h0 : 0 ≤ now) (h1 : now < 18446744073709551616) (h2 : -9223372036854775808 ≤ x.tries) (h3 : x.tries < 9223372036854775807) :
    Calls Tryd.prog 18 #[.agg (enA x), .int .u64 now] w fun e w' => e = .returned (.tuple #[.agg (enA (agE x now)), .bool (!Pln.agB x.born now x.tries)]) ∧ Below w.heap.size w w' := by
  obtain ⟨wl, hwl⟩ := Pln.wait_lt x.tries
  obtain ⟨v, hv⟩ : ∃ v, v = Pln.nx now x.tries := ⟨_, rfl⟩
  have hv2 := hv
  unfold Pln.nx at hv2
  have v0 : 0 ≤ v := by omega
  have v1 : v < 18446744073709551616 := by omega
  have CW := Lib.hid (fun W => rwait_any x.tries W h2 (by omega))
  have CO := Lib.hid (fun (t : Int) (W : World) (q0 : 0 ≤ t) (q1 : t < 18446744073709551616) => rout_any x t W q0 q1)
  have H1 := Lib.hid (ex_new (Below.refl w.heap.size w) x)
  have H2 := Lib.hid (ex_next H1.out ((Below.refl _ _).alloc (Nat.le_refl _) (.cells (enA enZ) 41)))
  have Z2 : Hid (Ex w (w.heap.size + 1) enZ ((w.alloc (.cells (enA x) 41)).alloc (.cells (enA enZ) 41))) := by have q := ex_new H1.out.bel enZ; rw [World.size_alloc] at q; exact q
  have HAB : Hid (Pln.agB x.born now x.tries = (Pln.outB x.born now || Pln.outB x.born v)) := by show _ = _; rw [hv]; rfl
  have HAG := Lib.hid (show agE x now = if Pln.agB x.born now x.tries = true then x else { x with tries := min (x.tries + 1) 100, next := min v 1099511627776 } from by unfold agE; rw [hv])
  generalize Pln.agB x.born now x.tries = ab at *
  generalize agE x now = ag at *
  by_cases hc : 1099511627776 < now
  · have w1 : IntKind.u64.wrap (1099511627776 + Pln.wait x.tries) = v := by rw [hv2]; simp [IntKind.wrap, IntKind.signed, IntKind.bits]; omega
    clear hv hv2
    cases hb1 : Pln.outB x.born now with
    | true =>
      have hab : ab = true := by rw [HAB.out, hb1]; rfl
      subst hab
      have hag : ag = x := by rw [HAG.out]; rfl
      rw [hag]
      have C1 := Lib.hid (fun W => CO.out now W h0 h1)
      rw [hb1] at C1
      clear hb1 HAB HAG CO hag
      go_enter Tryd.func18, Tryd.ntmps18
      go_wp2_with fail
      refine (CW.out _).mono ?_
      rintro e w' ⟨rfl, rfl⟩
      go_wp2_with fail
      refine (C1.out _).mono ?_
      rintro e w3 ⟨rfl, h3⟩
      have E3 := Lib.hid (ex_next H2.out h3)
      have Z3 := Lib.hid (ex_next Z2.out h3)
      clear h3
      obtain ⟨a0, a1, a2, a3, a4, a5, a6, a7, a8, a9⟩ := ex_cells E3.out
      obtain ⟨z0, z1, z2, z3, z4, z5, z6, z7, z8, z9⟩ := ex_cells Z3.out
      have g0 := ex_frozen Z3.out 0
      have g1 := ex_frozen Z3.out 1
      have g2 := ex_frozen Z3.out 2
      have g3 := ex_frozen Z3.out 3
      have g4 := ex_frozen Z3.out 4
      have g5 := ex_frozen Z3.out 5
      have g6 := ex_frozen Z3.out 6
      have g7 := ex_frozen Z3.out 7
      have g8 := ex_frozen Z3.out 8
      have g9 := ex_frozen Z3.out 9
      have P5 := Lib.hid (ex_put Z3.out x)
      go_wp2_with fail
      obtain ⟨p0, p1, p2, p3, p4, p5, p6, p7, p8, p9⟩ := ex_cells P5.out
      refine bodyPost_ret (v := .tuple #[.agg (enA x), .bool false]) ?_ rfl ⟨rfl, P5.out.bel⟩
      simp [results, Tryd.results18, go_sem, p0, p1, p2, p3, p4, p5, p6, p7, p8, p9]
    | false =>
      have C1 := Lib.hid (fun W => CO.out now W h0 h1)
      have C2 := Lib.hid (fun W => CO.out v W v0 v1)
      rw [hb1] at C1 HAB
      cases hb2 : Pln.outB x.born v with
      | true =>
        have hab : ab = true := by rw [HAB.out, hb2]; rfl
        subst hab
        have hag : ag = x := by rw [HAG.out]; rfl
        rw [hag]
        rw [hb2] at C2
        clear hb1 hb2 HAB HAG CO hag
        go_enter Tryd.func18, Tryd.ntmps18
        go_wp2_with fail
        refine (CW.out _).mono ?_
        rintro e w' ⟨rfl, rfl⟩
        go_wp2_with fail
        refine (C1.out _).mono ?_
        rintro e w3 ⟨rfl, h3⟩
        have E3 := Lib.hid (ex_next H2.out h3)
        have Z3 := Lib.hid (ex_next Z2.out h3)
        clear h3
        obtain ⟨a0, a1, a2, a3, a4, a5, a6, a7, a8, a9⟩ := ex_cells E3.out
        obtain ⟨z0, z1, z2, z3, z4, z5, z6, z7, z8, z9⟩ := ex_cells Z3.out
        have g0 := ex_frozen Z3.out 0
        have g1 := ex_frozen Z3.out 1
        have g2 := ex_frozen Z3.out 2
        have g3 := ex_frozen Z3.out 3
        have g4 := ex_frozen Z3.out 4
        have g5 := ex_frozen Z3.out 5
        have g6 := ex_frozen Z3.out 6
        have g7 := ex_frozen Z3.out 7
        have g8 := ex_frozen Z3.out 8
        have g9 := ex_frozen Z3.out 9
        go_wp2_with fail
        refine (C2.out _).mono ?_
        rintro e w4 ⟨rfl, h4⟩
        have E4 := Lib.hid (ex_next E3.out h4)
        have Z4 := Lib.hid (ex_next Z3.out h4)
        clear h4
        clear a0 z0 g0 a1 z1 g1 a2 z2 g2 a3 z3 g3 a4 z4 g4 a5 z5 g5 a6 z6 g6 a7 z7 g7 a8 z8 g8 a9 z9 g9
        obtain ⟨a0, a1, a2, a3, a4, a5, a6, a7, a8, a9⟩ := ex_cells E4.out
        obtain ⟨z0, z1, z2, z3, z4, z5, z6, z7, z8, z9⟩ := ex_cells Z4.out
        have g0 := ex_frozen Z4.out 0
        have g1 := ex_frozen Z4.out 1
        have g2 := ex_frozen Z4.out 2
        have g3 := ex_frozen Z4.out 3
        have g4 := ex_frozen Z4.out 4
        have g5 := ex_frozen Z4.out 5
        have g6 := ex_frozen Z4.out 6
        have g7 := ex_frozen Z4.out 7
        have g8 := ex_frozen Z4.out 8
        have g9 := ex_frozen Z4.out 9
        have k0 := ex_frozen E4.out 0
        have k1 := ex_frozen E4.out 1
        have k2 := ex_frozen E4.out 2
        have k3 := ex_frozen E4.out 3
        have k4 := ex_frozen E4.out 4
        have k5 := ex_frozen E4.out 5
        have k6 := ex_frozen E4.out 6
        have k7 := ex_frozen E4.out 7
        have k8 := ex_frozen E4.out 8
        have k9 := ex_frozen E4.out 9
        have P5 := Lib.hid (ex_put Z4.out x)
        go_wp2_with fail
        obtain ⟨p0, p1, p2, p3, p4, p5, p6, p7, p8, p9⟩ := ex_cells P5.out
        refine bodyPost_ret (v := .tuple #[.agg (enA x), .bool false]) ?_ rfl ⟨rfl, P5.out.bel⟩
        simp [results, Tryd.results18, go_sem, p0, p1, p2, p3, p4, p5, p6, p7, p8, p9]
      | false =>
        have hab : ab = false := by rw [HAB.out, hb2]; rfl
        subst hab
        obtain ⟨t1, ht1⟩ : ∃ t1, t1 = x.tries + 1 := ⟨_, rfl⟩
        have w2 : IntKind.i64.wrap (x.tries + 1) = t1 := by rw [IntKind.wrap_i64]; omega
        rw [← ht1] at HAG
        rw [if_neg (by decide)] at HAG
        rw [hb2] at C2
        clear hb1 hb2 HAB CO ht1
        by_cases ct : 100 < t1
        · by_cases cv : 1099511627776 < v
          · go_enter Tryd.func18, Tryd.ntmps18
            go_wp2_with fail
            refine (CW.out _).mono ?_
            rintro e w' ⟨rfl, rfl⟩
            go_wp2_with fail
            refine (C1.out _).mono ?_
            rintro e w3 ⟨rfl, h3⟩
            have E3 := Lib.hid (ex_next H2.out h3)
            have Z3 := Lib.hid (ex_next Z2.out h3)
            clear h3
            obtain ⟨a0, a1, a2, a3, a4, a5, a6, a7, a8, a9⟩ := ex_cells E3.out
            obtain ⟨z0, z1, z2, z3, z4, z5, z6, z7, z8, z9⟩ := ex_cells Z3.out
            have g0 := ex_frozen Z3.out 0
            have g1 := ex_frozen Z3.out 1
            have g2 := ex_frozen Z3.out 2
            have g3 := ex_frozen Z3.out 3
            have g4 := ex_frozen Z3.out 4
            have g5 := ex_frozen Z3.out 5
            have g6 := ex_frozen Z3.out 6
            have g7 := ex_frozen Z3.out 7
            have g8 := ex_frozen Z3.out 8
            have g9 := ex_frozen Z3.out 9
            go_wp2_with fail
            refine (C2.out _).mono ?_
            rintro e w4 ⟨rfl, h4⟩
            have E4 := Lib.hid (ex_next E3.out h4)
            have Z4 := Lib.hid (ex_next Z3.out h4)
            clear h4
            clear a0 z0 g0 a1 z1 g1 a2 z2 g2 a3 z3 g3 a4 z4 g4 a5 z5 g5 a6 z6 g6 a7 z7 g7 a8 z8 g8 a9 z9 g9
            obtain ⟨a0, a1, a2, a3, a4, a5, a6, a7, a8, a9⟩ := ex_cells E4.out
            obtain ⟨z0, z1, z2, z3, z4, z5, z6, z7, z8, z9⟩ := ex_cells Z4.out
            have g0 := ex_frozen Z4.out 0
            have g1 := ex_frozen Z4.out 1
            have g2 := ex_frozen Z4.out 2
            have g3 := ex_frozen Z4.out 3
            have g4 := ex_frozen Z4.out 4
            have g5 := ex_frozen Z4.out 5
            have g6 := ex_frozen Z4.out 6
            have g7 := ex_frozen Z4.out 7
            have g8 := ex_frozen Z4.out 8
            have g9 := ex_frozen Z4.out 9
            have k0 := ex_frozen E4.out 0
            have k1 := ex_frozen E4.out 1
            have k2 := ex_frozen E4.out 2
            have k3 := ex_frozen E4.out 3
            have k4 := ex_frozen E4.out 4
            have k5 := ex_frozen E4.out 5
            have k6 := ex_frozen E4.out 6
            have k7 := ex_frozen E4.out 7
            have k8 := ex_frozen E4.out 8
            have k9 := ex_frozen E4.out 9
            have HY : Hid (ag = { x with tries := 100, next := 1099511627776 }) := by
              show _ = _
              rw [HAG.out, show min t1 100 = 100 by omega, show min v 1099511627776 = 1099511627776 by omega]
            have Z6 := Lib.hid (ex_other (ex_other (ex_other (ex_other (Z4.out) (p := ⟨w.heap.size, 9, none⟩) (show w.heap.size ≠ w.heap.size + 1 by omega) (Nat.le_refl _) (.int .i64 t1)) (p := ⟨w.heap.size, 9, none⟩) (show w.heap.size ≠ w.heap.size + 1 by omega) (Nat.le_refl _) (.int .i64 100)) (p := ⟨w.heap.size, 8, none⟩) (show w.heap.size ≠ w.heap.size + 1 by omega) (Nat.le_refl _) (.int .u64 v)) (p := ⟨w.heap.size, 8, none⟩) (show w.heap.size ≠ w.heap.size + 1 by omega) (Nat.le_refl _) (.int .u64 1099511627776))
            have E6 := Lib.hid (ex_nextc (ex_nextc (ex_tries (ex_tries E4.out t1) 100) v) 1099511627776)
            obtain ⟨_, _, _, _, _, _, _, _, e8, e9⟩ := ex_cells E6.out
            have P7 := Lib.hid (ex_put Z6.out { x with tries := 100, next := 1099511627776 })
            clear E6 Z6 Z4 E4 E3 Z3 H1 H2 Z2 HAG
            go_wp2_with fail
            rw [HY.out]
            obtain ⟨p0, p1, p2, p3, p4, p5, p6, p7, p8, p9⟩ := ex_cells P7.out
            refine bodyPost_ret (v := .tuple #[.agg (enA { x with tries := 100, next := 1099511627776 }), .bool true]) ?_ rfl ⟨rfl, P7.out.bel⟩
            simp [results, Tryd.results18, go_sem, p0, p1, p2, p3, p4, p5, p6, p7, p8, p9]
          · go_enter Tryd.func18, Tryd.ntmps18
            go_wp2_with fail
            refine (CW.out _).mono ?_
            rintro e w' ⟨rfl, rfl⟩
            go_wp2_with fail
            refine (C1.out _).mono ?_
            rintro e w3 ⟨rfl, h3⟩
            have E3 := Lib.hid (ex_next H2.out h3)
            have Z3 := Lib.hid (ex_next Z2.out h3)
            clear h3
            obtain ⟨a0, a1, a2, a3, a4, a5, a6, a7, a8, a9⟩ := ex_cells E3.out
            obtain ⟨z0, z1, z2, z3, z4, z5, z6, z7, z8, z9⟩ := ex_cells Z3.out
            have g0 := ex_frozen Z3.out 0
            have g1 := ex_frozen Z3.out 1
            have g2 := ex_frozen Z3.out 2
            have g3 := ex_frozen Z3.out 3
            have g4 := ex_frozen Z3.out 4
            have g5 := ex_frozen Z3.out 5
            have g6 := ex_frozen Z3.out 6
            have g7 := ex_frozen Z3.out 7
            have g8 := ex_frozen Z3.out 8
            have g9 := ex_frozen Z3.out 9
            go_wp2_with fail
            refine (C2.out _).mono ?_
            rintro e w4 ⟨rfl, h4⟩
            have E4 := Lib.hid (ex_next E3.out h4)
            have Z4 := Lib.hid (ex_next Z3.out h4)
            clear h4
            clear a0 z0 g0 a1 z1 g1 a2 z2 g2 a3 z3 g3 a4 z4 g4 a5 z5 g5 a6 z6 g6 a7 z7 g7 a8 z8 g8 a9 z9 g9
            obtain ⟨a0, a1, a2, a3, a4, a5, a6, a7, a8, a9⟩ := ex_cells E4.out
            obtain ⟨z0, z1, z2, z3, z4, z5, z6, z7, z8, z9⟩ := ex_cells Z4.out
            have g0 := ex_frozen Z4.out 0
            have g1 := ex_frozen Z4.out 1
            have g2 := ex_frozen Z4.out 2
            have g3 := ex_frozen Z4.out 3
            have g4 := ex_frozen Z4.out 4
            have g5 := ex_frozen Z4.out 5
            have g6 := ex_frozen Z4.out 6
            have g7 := ex_frozen Z4.out 7
            have g8 := ex_frozen Z4.out 8
            have g9 := ex_frozen Z4.out 9
            have k0 := ex_frozen E4.out 0
            have k1 := ex_frozen E4.out 1
            have k2 := ex_frozen E4.out 2
            have k3 := ex_frozen E4.out 3
            have k4 := ex_frozen E4.out 4
            have k5 := ex_frozen E4.out 5
            have k6 := ex_frozen E4.out 6
            have k7 := ex_frozen E4.out 7
            have k8 := ex_frozen E4.out 8
            have k9 := ex_frozen E4.out 9
            have HY : Hid (ag = { x with tries := 100, next := v }) := by
              show _ = _
              rw [HAG.out, show min t1 100 = 100 by omega, show min v 1099511627776 = v by omega]
            have Z6 := Lib.hid (ex_other (ex_other (ex_other (Z4.out) (p := ⟨w.heap.size, 9, none⟩) (show w.heap.size ≠ w.heap.size + 1 by omega) (Nat.le_refl _) (.int .i64 t1)) (p := ⟨w.heap.size, 9, none⟩) (show w.heap.size ≠ w.heap.size + 1 by omega) (Nat.le_refl _) (.int .i64 100)) (p := ⟨w.heap.size, 8, none⟩) (show w.heap.size ≠ w.heap.size + 1 by omega) (Nat.le_refl _) (.int .u64 v))
            have E6 := Lib.hid (ex_nextc (ex_tries (ex_tries E4.out t1) 100) v)
            obtain ⟨_, _, _, _, _, _, _, _, e8, e9⟩ := ex_cells E6.out
            have P7 := Lib.hid (ex_put Z6.out { x with tries := 100, next := v })
            clear E6 Z6 Z4 E4 E3 Z3 H1 H2 Z2 HAG
            go_wp2_with fail
            rw [HY.out]
            obtain ⟨p0, p1, p2, p3, p4, p5, p6, p7, p8, p9⟩ := ex_cells P7.out
            refine bodyPost_ret (v := .tuple #[.agg (enA { x with tries := 100, next := v }), .bool true]) ?_ rfl ⟨rfl, P7.out.bel⟩
            simp [results, Tryd.results18, go_sem, p0, p1, p2, p3, p4, p5, p6, p7, p8, p9]
        · by_cases cv : 1099511627776 < v
          · go_enter Tryd.func18, Tryd.ntmps18
            go_wp2_with fail
            refine (CW.out _).mono ?_
            rintro e w' ⟨rfl, rfl⟩
            go_wp2_with fail
            refine (C1.out _).mono ?_
            rintro e w3 ⟨rfl, h3⟩
            have E3 := Lib.hid (ex_next H2.out h3)
            have Z3 := Lib.hid (ex_next Z2.out h3)
            clear h3
            obtain ⟨a0, a1, a2, a3, a4, a5, a6, a7, a8, a9⟩ := ex_cells E3.out
            obtain ⟨z0, z1, z2, z3, z4, z5, z6, z7, z8, z9⟩ := ex_cells Z3.out
            have g0 := ex_frozen Z3.out 0
            have g1 := ex_frozen Z3.out 1
            have g2 := ex_frozen Z3.out 2
            have g3 := ex_frozen Z3.out 3
            have g4 := ex_frozen Z3.out 4
            have g5 := ex_frozen Z3.out 5
            have g6 := ex_frozen Z3.out 6
            have g7 := ex_frozen Z3.out 7
            have g8 := ex_frozen Z3.out 8
            have g9 := ex_frozen Z3.out 9
            go_wp2_with fail
            refine (C2.out _).mono ?_
            rintro e w4 ⟨rfl, h4⟩
            have E4 := Lib.hid (ex_next E3.out h4)
            have Z4 := Lib.hid (ex_next Z3.out h4)
            clear h4
            clear a0 z0 g0 a1 z1 g1 a2 z2 g2 a3 z3 g3 a4 z4 g4 a5 z5 g5 a6 z6 g6 a7 z7 g7 a8 z8 g8 a9 z9 g9
            obtain ⟨a0, a1, a2, a3, a4, a5, a6, a7, a8, a9⟩ := ex_cells E4.out
            obtain ⟨z0, z1, z2, z3, z4, z5, z6, z7, z8, z9⟩ := ex_cells Z4.out
            have g0 := ex_frozen Z4.out 0
            have g1 := ex_frozen Z4.out 1
            have g2 := ex_frozen Z4.out 2
            have g3 := ex_frozen Z4.out 3
            have g4 := ex_frozen Z4.out 4
            have g5 := ex_frozen Z4.out 5
            have g6 := ex_frozen Z4.out 6
            have g7 := ex_frozen Z4.out 7
            have g8 := ex_frozen Z4.out 8
            have g9 := ex_frozen Z4.out 9
            have k0 := ex_frozen E4.out 0
            have k1 := ex_frozen E4.out 1
            have k2 := ex_frozen E4.out 2
            have k3 := ex_frozen E4.out 3
            have k4 := ex_frozen E4.out 4
            have k5 := ex_frozen E4.out 5
            have k6 := ex_frozen E4.out 6
            have k7 := ex_frozen E4.out 7
            have k8 := ex_frozen E4.out 8
            have k9 := ex_frozen E4.out 9
            have HY : Hid (ag = { x with tries := t1, next := 1099511627776 }) := by
              show _ = _
              rw [HAG.out, show min t1 100 = t1 by omega, show min v 1099511627776 = 1099511627776 by omega]
            have Z6 := Lib.hid (ex_other (ex_other (ex_other (Z4.out) (p := ⟨w.heap.size, 9, none⟩) (show w.heap.size ≠ w.heap.size + 1 by omega) (Nat.le_refl _) (.int .i64 t1)) (p := ⟨w.heap.size, 8, none⟩) (show w.heap.size ≠ w.heap.size + 1 by omega) (Nat.le_refl _) (.int .u64 v)) (p := ⟨w.heap.size, 8, none⟩) (show w.heap.size ≠ w.heap.size + 1 by omega) (Nat.le_refl _) (.int .u64 1099511627776))
            have E6 := Lib.hid (ex_nextc (ex_nextc (ex_tries E4.out t1) v) 1099511627776)
            obtain ⟨_, _, _, _, _, _, _, _, e8, e9⟩ := ex_cells E6.out
            have P7 := Lib.hid (ex_put Z6.out { x with tries := t1, next := 1099511627776 })
            clear E6 Z6 Z4 E4 E3 Z3 H1 H2 Z2 HAG
            go_wp2_with fail
            rw [HY.out]
            obtain ⟨p0, p1, p2, p3, p4, p5, p6, p7, p8, p9⟩ := ex_cells P7.out
            refine bodyPost_ret (v := .tuple #[.agg (enA { x with tries := t1, next := 1099511627776 }), .bool true]) ?_ rfl ⟨rfl, P7.out.bel⟩
            simp [results, Tryd.results18, go_sem, p0, p1, p2, p3, p4, p5, p6, p7, p8, p9]
          · go_enter Tryd.func18, Tryd.ntmps18
            go_wp2_with fail
            refine (CW.out _).mono ?_
            rintro e w' ⟨rfl, rfl⟩
            go_wp2_with fail
            refine (C1.out _).mono ?_
            rintro e w3 ⟨rfl, h3⟩
            have E3 := Lib.hid (ex_next H2.out h3)
            have Z3 := Lib.hid (ex_next Z2.out h3)
            clear h3
            obtain ⟨a0, a1, a2, a3, a4, a5, a6, a7, a8, a9⟩ := ex_cells E3.out
            obtain ⟨z0, z1, z2, z3, z4, z5, z6, z7, z8, z9⟩ := ex_cells Z3.out
            have g0 := ex_frozen Z3.out 0
            have g1 := ex_frozen Z3.out 1
            have g2 := ex_frozen Z3.out 2
            have g3 := ex_frozen Z3.out 3
            have g4 := ex_frozen Z3.out 4
            have g5 := ex_frozen Z3.out 5
            have g6 := ex_frozen Z3.out 6
            have g7 := ex_frozen Z3.out 7
            have g8 := ex_frozen Z3.out 8
            have g9 := ex_frozen Z3.out 9
            go_wp2_with fail
            refine (C2.out _).mono ?_
            rintro e w4 ⟨rfl, h4⟩
            have E4 := Lib.hid (ex_next E3.out h4)
            have Z4 := Lib.hid (ex_next Z3.out h4)
            clear h4
            clear a0 z0 g0 a1 z1 g1 a2 z2 g2 a3 z3 g3 a4 z4 g4 a5 z5 g5 a6 z6 g6 a7 z7 g7 a8 z8 g8 a9 z9 g9
            obtain ⟨a0, a1, a2, a3, a4, a5, a6, a7, a8, a9⟩ := ex_cells E4.out
            obtain ⟨z0, z1, z2, z3, z4, z5, z6, z7, z8, z9⟩ := ex_cells Z4.out
            have g0 := ex_frozen Z4.out 0
            have g1 := ex_frozen Z4.out 1
            have g2 := ex_frozen Z4.out 2
            have g3 := ex_frozen Z4.out 3
            have g4 := ex_frozen Z4.out 4
            have g5 := ex_frozen Z4.out 5
            have g6 := ex_frozen Z4.out 6
            have g7 := ex_frozen Z4.out 7
            have g8 := ex_frozen Z4.out 8
            have g9 := ex_frozen Z4.out 9
            have k0 := ex_frozen E4.out 0
            have k1 := ex_frozen E4.out 1
            have k2 := ex_frozen E4.out 2
            have k3 := ex_frozen E4.out 3
            have k4 := ex_frozen E4.out 4
            have k5 := ex_frozen E4.out 5
            have k6 := ex_frozen E4.out 6
            have k7 := ex_frozen E4.out 7
            have k8 := ex_frozen E4.out 8
            have k9 := ex_frozen E4.out 9
            have HY : Hid (ag = { x with tries := t1, next := v }) := by
              show _ = _
              rw [HAG.out, show min t1 100 = t1 by omega, show min v 1099511627776 = v by omega]
            have Z6 := Lib.hid (ex_other (ex_other (Z4.out) (p := ⟨w.heap.size, 9, none⟩) (show w.heap.size ≠ w.heap.size + 1 by omega) (Nat.le_refl _) (.int .i64 t1)) (p := ⟨w.heap.size, 8, none⟩) (show w.heap.size ≠ w.heap.size + 1 by omega) (Nat.le_refl _) (.int .u64 v))
            have E6 := Lib.hid (ex_nextc (ex_tries E4.out t1) v)
            obtain ⟨_, _, _, _, _, _, _, _, e8, e9⟩ := ex_cells E6.out
            have P7 := Lib.hid (ex_put Z6.out { x with tries := t1, next := v })
            clear E6 Z6 Z4 E4 E3 Z3 H1 H2 Z2 HAG
            go_wp2_with fail
            rw [HY.out]
            obtain ⟨p0, p1, p2, p3, p4, p5, p6, p7, p8, p9⟩ := ex_cells P7.out
            refine bodyPost_ret (v := .tuple #[.agg (enA { x with tries := t1, next := v }), .bool true]) ?_ rfl ⟨rfl, P7.out.bel⟩
            simp [results, Tryd.results18, go_sem, p0, p1, p2, p3, p4, p5, p6, p7, p8, p9]
  · have w1 : IntKind.u64.wrap (now + Pln.wait x.tries) = v := by rw [hv2]; simp [IntKind.wrap, IntKind.signed, IntKind.bits]; omega
    clear hv hv2
    cases hb1 : Pln.outB x.born now with
    | true =>
      have hab : ab = true := by rw [HAB.out, hb1]; rfl
      subst hab
      have hag : ag = x := by rw [HAG.out]; rfl
      rw [hag]
      have C1 := Lib.hid (fun W => CO.out now W h0 h1)
      rw [hb1] at C1
      clear hb1 HAB HAG CO hag
      go_enter Tryd.func18, Tryd.ntmps18
      go_wp2_with fail
      refine (CW.out _).mono ?_
      rintro e w' ⟨rfl, rfl⟩
      go_wp2_with fail
      refine (C1.out _).mono ?_
      rintro e w3 ⟨rfl, h3⟩
      have E3 := Lib.hid (ex_next H2.out h3)
      have Z3 := Lib.hid (ex_next Z2.out h3)
      clear h3
      obtain ⟨a0, a1, a2, a3, a4, a5, a6, a7, a8, a9⟩ := ex_cells E3.out
      obtain ⟨z0, z1, z2, z3, z4, z5, z6, z7, z8, z9⟩ := ex_cells Z3.out
      have g0 := ex_frozen Z3.out 0
      have g1 := ex_frozen Z3.out 1
      have g2 := ex_frozen Z3.out 2
      have g3 := ex_frozen Z3.out 3
      have g4 := ex_frozen Z3.out 4
      have g5 := ex_frozen Z3.out 5
      have g6 := ex_frozen Z3.out 6
      have g7 := ex_frozen Z3.out 7
      have g8 := ex_frozen Z3.out 8
      have g9 := ex_frozen Z3.out 9
      have P5 := Lib.hid (ex_put Z3.out x)
      go_wp2_with fail
      obtain ⟨p0, p1, p2, p3, p4, p5, p6, p7, p8, p9⟩ := ex_cells P5.out
      refine bodyPost_ret (v := .tuple #[.agg (enA x), .bool false]) ?_ rfl ⟨rfl, P5.out.bel⟩
      simp [results, Tryd.results18, go_sem, p0, p1, p2, p3, p4, p5, p6, p7, p8, p9]
    | false =>
      have C1 := Lib.hid (fun W => CO.out now W h0 h1)
      have C2 := Lib.hid (fun W => CO.out v W v0 v1)
      rw [hb1] at C1 HAB
      cases hb2 : Pln.outB x.born v with
      | true =>
        have hab : ab = true := by rw [HAB.out, hb2]; rfl
        subst hab
        have hag : ag = x := by rw [HAG.out]; rfl
        rw [hag]
        rw [hb2] at C2
        clear hb1 hb2 HAB HAG CO hag
        go_enter Tryd.func18, Tryd.ntmps18
        go_wp2_with fail
        refine (CW.out _).mono ?_
        rintro e w' ⟨rfl, rfl⟩
        go_wp2_with fail
        refine (C1.out _).mono ?_
        rintro e w3 ⟨rfl, h3⟩
        have E3 := Lib.hid (ex_next H2.out h3)
        have Z3 := Lib.hid (ex_next Z2.out h3)
        clear h3
        obtain ⟨a0, a1, a2, a3, a4, a5, a6, a7, a8, a9⟩ := ex_cells E3.out
        obtain ⟨z0, z1, z2, z3, z4, z5, z6, z7, z8, z9⟩ := ex_cells Z3.out
        have g0 := ex_frozen Z3.out 0
        have g1 := ex_frozen Z3.out 1
        have g2 := ex_frozen Z3.out 2
        have g3 := ex_frozen Z3.out 3
        have g4 := ex_frozen Z3.out 4
        have g5 := ex_frozen Z3.out 5
        have g6 := ex_frozen Z3.out 6
        have g7 := ex_frozen Z3.out 7
        have g8 := ex_frozen Z3.out 8
        have g9 := ex_frozen Z3.out 9
        go_wp2_with fail
        refine (C2.out _).mono ?_
        rintro e w4 ⟨rfl, h4⟩
        have E4 := Lib.hid (ex_next E3.out h4)
        have Z4 := Lib.hid (ex_next Z3.out h4)
        clear h4
        clear a0 z0 g0 a1 z1 g1 a2 z2 g2 a3 z3 g3 a4 z4 g4 a5 z5 g5 a6 z6 g6 a7 z7 g7 a8 z8 g8 a9 z9 g9
        obtain ⟨a0, a1, a2, a3, a4, a5, a6, a7, a8, a9⟩ := ex_cells E4.out
        obtain ⟨z0, z1, z2, z3, z4, z5, z6, z7, z8, z9⟩ := ex_cells Z4.out
        have g0 := ex_frozen Z4.out 0
        have g1 := ex_frozen Z4.out 1
        have g2 := ex_frozen Z4.out 2
        have g3 := ex_frozen Z4.out 3
        have g4 := ex_frozen Z4.out 4
        have g5 := ex_frozen Z4.out 5
        have g6 := ex_frozen Z4.out 6
        have g7 := ex_frozen Z4.out 7
        have g8 := ex_frozen Z4.out 8
        have g9 := ex_frozen Z4.out 9
        have k0 := ex_frozen E4.out 0
        have k1 := ex_frozen E4.out 1
        have k2 := ex_frozen E4.out 2
        have k3 := ex_frozen E4.out 3
        have k4 := ex_frozen E4.out 4
        have k5 := ex_frozen E4.out 5
        have k6 := ex_frozen E4.out 6
        have k7 := ex_frozen E4.out 7
        have k8 := ex_frozen E4.out 8
        have k9 := ex_frozen E4.out 9
        have P5 := Lib.hid (ex_put Z4.out x)
        go_wp2_with fail
        obtain ⟨p0, p1, p2, p3, p4, p5, p6, p7, p8, p9⟩ := ex_cells P5.out
        refine bodyPost_ret (v := .tuple #[.agg (enA x), .bool false]) ?_ rfl ⟨rfl, P5.out.bel⟩
        simp [results, Tryd.results18, go_sem, p0, p1, p2, p3, p4, p5, p6, p7, p8, p9]
      | false =>
        have hab : ab = false := by rw [HAB.out, hb2]; rfl
        subst hab
        obtain ⟨t1, ht1⟩ : ∃ t1, t1 = x.tries + 1 := ⟨_, rfl⟩
        have w2 : IntKind.i64.wrap (x.tries + 1) = t1 := by rw [IntKind.wrap_i64]; omega
        rw [← ht1] at HAG
        rw [if_neg (by decide)] at HAG
        rw [hb2] at C2
        clear hb1 hb2 HAB CO ht1
        by_cases ct : 100 < t1
        · by_cases cv : 1099511627776 < v
          · go_enter Tryd.func18, Tryd.ntmps18
            go_wp2_with fail
            refine (CW.out _).mono ?_
            rintro e w' ⟨rfl, rfl⟩
            go_wp2_with fail
            refine (C1.out _).mono ?_
            rintro e w3 ⟨rfl, h3⟩
            have E3 := Lib.hid (ex_next H2.out h3)
            have Z3 := Lib.hid (ex_next Z2.out h3)
            clear h3
            obtain ⟨a0, a1, a2, a3, a4, a5, a6, a7, a8, a9⟩ := ex_cells E3.out
            obtain ⟨z0, z1, z2, z3, z4, z5, z6, z7, z8, z9⟩ := ex_cells Z3.out
            have g0 := ex_frozen Z3.out 0
            have g1 := ex_frozen Z3.out 1
            have g2 := ex_frozen Z3.out 2
            have g3 := ex_frozen Z3.out 3
            have g4 := ex_frozen Z3.out 4
            have g5 := ex_frozen Z3.out 5
            have g6 := ex_frozen Z3.out 6
            have g7 := ex_frozen Z3.out 7
            have g8 := ex_frozen Z3.out 8
            have g9 := ex_frozen Z3.out 9
            go_wp2_with fail
            refine (C2.out _).mono ?_
            rintro e w4 ⟨rfl, h4⟩
            have E4 := Lib.hid (ex_next E3.out h4)
            have Z4 := Lib.hid (ex_next Z3.out h4)
            clear h4
            clear a0 z0 g0 a1 z1 g1 a2 z2 g2 a3 z3 g3 a4 z4 g4 a5 z5 g5 a6 z6 g6 a7 z7 g7 a8 z8 g8 a9 z9 g9
            obtain ⟨a0, a1, a2, a3, a4, a5, a6, a7, a8, a9⟩ := ex_cells E4.out
            obtain ⟨z0, z1, z2, z3, z4, z5, z6, z7, z8, z9⟩ := ex_cells Z4.out
            have g0 := ex_frozen Z4.out 0
            have g1 := ex_frozen Z4.out 1
            have g2 := ex_frozen Z4.out 2
            have g3 := ex_frozen Z4.out 3
            have g4 := ex_frozen Z4.out 4
            have g5 := ex_frozen Z4.out 5
            have g6 := ex_frozen Z4.out 6
            have g7 := ex_frozen Z4.out 7
            have g8 := ex_frozen Z4.out 8
            have g9 := ex_frozen Z4.out 9
            have k0 := ex_frozen E4.out 0
            have k1 := ex_frozen E4.out 1
            have k2 := ex_frozen E4.out 2
            have k3 := ex_frozen E4.out 3
            have k4 := ex_frozen E4.out 4
            have k5 := ex_frozen E4.out 5
            have k6 := ex_frozen E4.out 6
            have k7 := ex_frozen E4.out 7
            have k8 := ex_frozen E4.out 8
            have k9 := ex_frozen E4.out 9
            have HY : Hid (ag = { x with tries := 100, next := 1099511627776 }) := by
              show _ = _
              rw [HAG.out, show min t1 100 = 100 by omega, show min v 1099511627776 = 1099511627776 by omega]
            have Z6 := Lib.hid (ex_other (ex_other (ex_other (ex_other (Z4.out) (p := ⟨w.heap.size, 9, none⟩) (show w.heap.size ≠ w.heap.size + 1 by omega) (Nat.le_refl _) (.int .i64 t1)) (p := ⟨w.heap.size, 9, none⟩) (show w.heap.size ≠ w.heap.size + 1 by omega) (Nat.le_refl _) (.int .i64 100)) (p := ⟨w.heap.size, 8, none⟩) (show w.heap.size ≠ w.heap.size + 1 by omega) (Nat.le_refl _) (.int .u64 v)) (p := ⟨w.heap.size, 8, none⟩) (show w.heap.size ≠ w.heap.size + 1 by omega) (Nat.le_refl _) (.int .u64 1099511627776))
            have E6 := Lib.hid (ex_nextc (ex_nextc (ex_tries (ex_tries E4.out t1) 100) v) 1099511627776)
            obtain ⟨_, _, _, _, _, _, _, _, e8, e9⟩ := ex_cells E6.out
            have P7 := Lib.hid (ex_put Z6.out { x with tries := 100, next := 1099511627776 })
            clear E6 Z6 Z4 E4 E3 Z3 H1 H2 Z2 HAG
            go_wp2_with fail
            rw [HY.out]
            obtain ⟨p0, p1, p2, p3, p4, p5, p6, p7, p8, p9⟩ := ex_cells P7.out
            refine bodyPost_ret (v := .tuple #[.agg (enA { x with tries := 100, next := 1099511627776 }), .bool true]) ?_ rfl ⟨rfl, P7.out.bel⟩
            simp [results, Tryd.results18, go_sem, p0, p1, p2, p3, p4, p5, p6, p7, p8, p9]
          · go_enter Tryd.func18, Tryd.ntmps18
            go_wp2_with fail
            refine (CW.out _).mono ?_
            rintro e w' ⟨rfl, rfl⟩
            go_wp2_with fail
            refine (C1.out _).mono ?_
            rintro e w3 ⟨rfl, h3⟩
            have E3 := Lib.hid (ex_next H2.out h3)
            have Z3 := Lib.hid (ex_next Z2.out h3)
            clear h3
            obtain ⟨a0, a1, a2, a3, a4, a5, a6, a7, a8, a9⟩ := ex_cells E3.out
            obtain ⟨z0, z1, z2, z3, z4, z5, z6, z7, z8, z9⟩ := ex_cells Z3.out
            have g0 := ex_frozen Z3.out 0
            have g1 := ex_frozen Z3.out 1
            have g2 := ex_frozen Z3.out 2
            have g3 := ex_frozen Z3.out 3
            have g4 := ex_frozen Z3.out 4
            have g5 := ex_frozen Z3.out 5
            have g6 := ex_frozen Z3.out 6
            have g7 := ex_frozen Z3.out 7
            have g8 := ex_frozen Z3.out 8
            have g9 := ex_frozen Z3.out 9
            go_wp2_with fail
            refine (C2.out _).mono ?_
            rintro e w4 ⟨rfl, h4⟩
            have E4 := Lib.hid (ex_next E3.out h4)
            have Z4 := Lib.hid (ex_next Z3.out h4)
            clear h4
            clear a0 z0 g0 a1 z1 g1 a2 z2 g2 a3 z3 g3 a4 z4 g4 a5 z5 g5 a6 z6 g6 a7 z7 g7 a8 z8 g8 a9 z9 g9
            obtain ⟨a0, a1, a2, a3, a4, a5, a6, a7, a8, a9⟩ := ex_cells E4.out
            obtain ⟨z0, z1, z2, z3, z4, z5, z6, z7, z8, z9⟩ := ex_cells Z4.out
            have g0 := ex_frozen Z4.out 0
            have g1 := ex_frozen Z4.out 1
            have g2 := ex_frozen Z4.out 2
            have g3 := ex_frozen Z4.out 3
            have g4 := ex_frozen Z4.out 4
            have g5 := ex_frozen Z4.out 5
            have g6 := ex_frozen Z4.out 6
            have g7 := ex_frozen Z4.out 7
            have g8 := ex_frozen Z4.out 8
            have g9 := ex_frozen Z4.out 9
            have k0 := ex_frozen E4.out 0
            have k1 := ex_frozen E4.out 1
            have k2 := ex_frozen E4.out 2
            have k3 := ex_frozen E4.out 3
            have k4 := ex_frozen E4.out 4
            have k5 := ex_frozen E4.out 5
            have k6 := ex_frozen E4.out 6
            have k7 := ex_frozen E4.out 7
            have k8 := ex_frozen E4.out 8
            have k9 := ex_frozen E4.out 9
            have HY : Hid (ag = { x with tries := 100, next := v }) := by
              show _ = _
              rw [HAG.out, show min t1 100 = 100 by omega, show min v 1099511627776 = v by omega]
            have Z6 := Lib.hid (ex_other (ex_other (ex_other (Z4.out) (p := ⟨w.heap.size, 9, none⟩) (show w.heap.size ≠ w.heap.size + 1 by omega) (Nat.le_refl _) (.int .i64 t1)) (p := ⟨w.heap.size, 9, none⟩) (show w.heap.size ≠ w.heap.size + 1 by omega) (Nat.le_refl _) (.int .i64 100)) (p := ⟨w.heap.size, 8, none⟩) (show w.heap.size ≠ w.heap.size + 1 by omega) (Nat.le_refl _) (.int .u64 v))
            have E6 := Lib.hid (ex_nextc (ex_tries (ex_tries E4.out t1) 100) v)
            obtain ⟨_, _, _, _, _, _, _, _, e8, e9⟩ := ex_cells E6.out
            have P7 := Lib.hid (ex_put Z6.out { x with tries := 100, next := v })
            clear E6 Z6 Z4 E4 E3 Z3 H1 H2 Z2 HAG
            go_wp2_with fail
            rw [HY.out]
            obtain ⟨p0, p1, p2, p3, p4, p5, p6, p7, p8, p9⟩ := ex_cells P7.out
            refine bodyPost_ret (v := .tuple #[.agg (enA { x with tries := 100, next := v }), .bool true]) ?_ rfl ⟨rfl, P7.out.bel⟩
            simp [results, Tryd.results18, go_sem, p0, p1, p2, p3, p4, p5, p6, p7, p8, p9]
        · by_cases cv : 1099511627776 < v
          · go_enter Tryd.func18, Tryd.ntmps18
            go_wp2_with fail
            refine (CW.out _).mono ?_
            rintro e w' ⟨rfl, rfl⟩
            go_wp2_with fail
            refine (C1.out _).mono ?_
            rintro e w3 ⟨rfl, h3⟩
            have E3 := Lib.hid (ex_next H2.out h3)
            have Z3 := Lib.hid (ex_next Z2.out h3)
            clear h3
            obtain ⟨a0, a1, a2, a3, a4, a5, a6, a7, a8, a9⟩ := ex_cells E3.out
            obtain ⟨z0, z1, z2, z3, z4, z5, z6, z7, z8, z9⟩ := ex_cells Z3.out
            have g0 := ex_frozen Z3.out 0
            have g1 := ex_frozen Z3.out 1
            have g2 := ex_frozen Z3.out 2
            have g3 := ex_frozen Z3.out 3
            have g4 := ex_frozen Z3.out 4
            have g5 := ex_frozen Z3.out 5
            have g6 := ex_frozen Z3.out 6
            have g7 := ex_frozen Z3.out 7
            have g8 := ex_frozen Z3.out 8
            have g9 := ex_frozen Z3.out 9
            go_wp2_with fail
            refine (C2.out _).mono ?_
            rintro e w4 ⟨rfl, h4⟩
            have E4 := Lib.hid (ex_next E3.out h4)
            have Z4 := Lib.hid (ex_next Z3.out h4)
            clear h4
            clear a0 z0 g0 a1 z1 g1 a2 z2 g2 a3 z3 g3 a4 z4 g4 a5 z5 g5 a6 z6 g6 a7 z7 g7 a8 z8 g8 a9 z9 g9
            obtain ⟨a0, a1, a2, a3, a4, a5, a6, a7, a8, a9⟩ := ex_cells E4.out
            obtain ⟨z0, z1, z2, z3, z4, z5, z6, z7, z8, z9⟩ := ex_cells Z4.out
            have g0 := ex_frozen Z4.out 0
            have g1 := ex_frozen Z4.out 1
            have g2 := ex_frozen Z4.out 2
            have g3 := ex_frozen Z4.out 3
            have g4 := ex_frozen Z4.out 4
            have g5 := ex_frozen Z4.out 5
            have g6 := ex_frozen Z4.out 6
            have g7 := ex_frozen Z4.out 7
            have g8 := ex_frozen Z4.out 8
            have g9 := ex_frozen Z4.out 9
            have k0 := ex_frozen E4.out 0
            have k1 := ex_frozen E4.out 1
            have k2 := ex_frozen E4.out 2
            have k3 := ex_frozen E4.out 3
            have k4 := ex_frozen E4.out 4
            have k5 := ex_frozen E4.out 5
            have k6 := ex_frozen E4.out 6
            have k7 := ex_frozen E4.out 7
            have k8 := ex_frozen E4.out 8
            have k9 := ex_frozen E4.out 9
            have HY : Hid (ag = { x with tries := t1, next := 1099511627776 }) := by
              show _ = _
              rw [HAG.out, show min t1 100 = t1 by omega, show min v 1099511627776 = 1099511627776 by omega]
            have Z6 := Lib.hid (ex_other (ex_other (ex_other (Z4.out) (p := ⟨w.heap.size, 9, none⟩) (show w.heap.size ≠ w.heap.size + 1 by omega) (Nat.le_refl _) (.int .i64 t1)) (p := ⟨w.heap.size, 8, none⟩) (show w.heap.size ≠ w.heap.size + 1 by omega) (Nat.le_refl _) (.int .u64 v)) (p := ⟨w.heap.size, 8, none⟩) (show w.heap.size ≠ w.heap.size + 1 by omega) (Nat.le_refl _) (.int .u64 1099511627776))
            have E6 := Lib.hid (ex_nextc (ex_nextc (ex_tries E4.out t1) v) 1099511627776)
            obtain ⟨_, _, _, _, _, _, _, _, e8, e9⟩ := ex_cells E6.out
            have P7 := Lib.hid (ex_put Z6.out { x with tries := t1, next := 1099511627776 })
            clear E6 Z6 Z4 E4 E3 Z3 H1 H2 Z2 HAG
            go_wp2_with fail
            rw [HY.out]
            obtain ⟨p0, p1, p2, p3, p4, p5, p6, p7, p8, p9⟩ := ex_cells P7.out
            refine bodyPost_ret (v := .tuple #[.agg (enA { x with tries := t1, next := 1099511627776 }), .bool true]) ?_ rfl ⟨rfl, P7.out.bel⟩
            simp [results, Tryd.results18, go_sem, p0, p1, p2, p3, p4, p5, p6, p7, p8, p9]
          · go_enter Tryd.func18, Tryd.ntmps18
            go_wp2_with fail
            refine (CW.out _).mono ?_
            rintro e w' ⟨rfl, rfl⟩
            go_wp2_with fail
            refine (C1.out _).mono ?_
            rintro e w3 ⟨rfl, h3⟩
            have E3 := Lib.hid (ex_next H2.out h3)
            have Z3 := Lib.hid (ex_next Z2.out h3)
            clear h3
            obtain ⟨a0, a1, a2, a3, a4, a5, a6, a7, a8, a9⟩ := ex_cells E3.out
            obtain ⟨z0, z1, z2, z3, z4, z5, z6, z7, z8, z9⟩ := ex_cells Z3.out
            have g0 := ex_frozen Z3.out 0
            have g1 := ex_frozen Z3.out 1
            have g2 := ex_frozen Z3.out 2
            have g3 := ex_frozen Z3.out 3
            have g4 := ex_frozen Z3.out 4
            have g5 := ex_frozen Z3.out 5
            have g6 := ex_frozen Z3.out 6
            have g7 := ex_frozen Z3.out 7
            have g8 := ex_frozen Z3.out 8
            have g9 := ex_frozen Z3.out 9
            go_wp2_with fail
            refine (C2.out _).mono ?_
            rintro e w4 ⟨rfl, h4⟩
            have E4 := Lib.hid (ex_next E3.out h4)
            have Z4 := Lib.hid (ex_next Z3.out h4)
            clear h4
            clear a0 z0 g0 a1 z1 g1 a2 z2 g2 a3 z3 g3 a4 z4 g4 a5 z5 g5 a6 z6 g6 a7 z7 g7 a8 z8 g8 a9 z9 g9
            obtain ⟨a0, a1, a2, a3, a4, a5, a6, a7, a8, a9⟩ := ex_cells E4.out
            obtain ⟨z0, z1, z2, z3, z4, z5, z6, z7, z8, z9⟩ := ex_cells Z4.out
            have g0 := ex_frozen Z4.out 0
            have g1 := ex_frozen Z4.out 1
            have g2 := ex_frozen Z4.out 2
            have g3 := ex_frozen Z4.out 3
            have g4 := ex_frozen Z4.out 4
            have g5 := ex_frozen Z4.out 5
            have g6 := ex_frozen Z4.out 6
            have g7 := ex_frozen Z4.out 7
            have g8 := ex_frozen Z4.out 8
            have g9 := ex_frozen Z4.out 9
            have k0 := ex_frozen E4.out 0
            have k1 := ex_frozen E4.out 1
            have k2 := ex_frozen E4.out 2
            have k3 := ex_frozen E4.out 3
            have k4 := ex_frozen E4.out 4
            have k5 := ex_frozen E4.out 5
            have k6 := ex_frozen E4.out 6
            have k7 := ex_frozen E4.out 7
            have k8 := ex_frozen E4.out 8
            have k9 := ex_frozen E4.out 9
            have HY : Hid (ag = { x with tries := t1, next := v }) := by
              show _ = _
              rw [HAG.out, show min t1 100 = t1 by omega, show min v 1099511627776 = v by omega]
            have Z6 := Lib.hid (ex_other (ex_other (Z4.out) (p := ⟨w.heap.size, 9, none⟩) (show w.heap.size ≠ w.heap.size + 1 by omega) (Nat.le_refl _) (.int .i64 t1)) (p := ⟨w.heap.size, 8, none⟩) (show w.heap.size ≠ w.heap.size + 1 by omega) (Nat.le_refl _) (.int .u64 v))
            have E6 := Lib.hid (ex_nextc (ex_tries E4.out t1) v)
            obtain ⟨_, _, _, _, _, _, _, _, e8, e9⟩ := ex_cells E6.out
            have P7 := Lib.hid (ex_put Z6.out { x with tries := t1, next := v })
            clear E6 Z6 Z4 E4 E3 Z3 H1 H2 Z2 HAG
            go_wp2_with fail
            rw [HY.out]
            obtain ⟨p0, p1, p2, p3, p4, p5, p6, p7, p8, p9⟩ := ex_cells P7.out
            refine bodyPost_ret (v := .tuple #[.agg (enA { x with tries := t1, next := v }), .bool true]) ?_ rfl ⟨rfl, P7.out.bel⟩
            simp [results, Tryd.results18, go_sem, p0, p1, p2, p3, p4, p5, p6, p7, p8, p9]
end Go.Proofs.YtocjjfjcepflnaaDoor
