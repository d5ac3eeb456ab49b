/-
  PROVED HERE: what Again of the program and of the answer compute.
-/
import Derived.Test.YtocjjfjcepflnaaDoorTm
import Derived.Lib.SmallJoins
set_option linter.unusedVariables false
namespace Pln
/-- The clock at which it is tried next. -/
def nx (now tries : Int) : Int := min now 1099511627776 + wait tries
/-- Is it not tried again? -/
def agB (born now tries : Int) : Bool := outB born now || outB born (nx now tries)
end Pln
namespace Go.Proofs.YtocjjfjcepflnaaDoor
open Go.RowKit
variable {w W W1 : World} {A B : Nat} {x y : En}
/-- An entry tried again. -/
def agE (x : En) (now : Int) : En := if Pln.agB x.born now x.tries = true then x else { x with tries := min (x.tries + 1) 100, next := min (Pln.nx now x.tries) 1099511627776 }
def enZ : En := ⟨0, [], 0, 0, [], [], none, 0, 0, 0, 0, 0⟩
/-- An entry at a block of the call's own. -/
structure Ex (w : World) (A : Nat) (x : En) (W : World) : Prop where
  kp : W.heap[A]? = some (.cells (enA x) 41 (0, 0))
  bel : Below w.heap.size w W
  ws : w.heap.size ≤ A
theorem ex_new (h : Below w.heap.size w W) (x : En) : Ex w W.heap.size x (W.alloc (.cells (enA x) 41)) :=
  ⟨by show (W.heap.push _)[W.heap.size]? = _; rw [Array.getElem?_push_size], h.alloc h.size _, h.size⟩
theorem ex_next (h : Ex w A x W) (g : Below W.heap.size W W1) : Ex w A x W1 :=
  ⟨(g.block _ (Array.getElem?_eq_some_iff.1 h.kp).1).trans h.kp, h.bel.trans (g.mono h.bel.size), h.ws⟩
theorem ex_other (h : Ex w A x W) {p : Addr} (hp : p.block ≠ A) (hw : w.heap.size ≤ p.block) (v : Value) : Ex w A x (W.setCell p v) :=
  ⟨(Below.heap_setCell _ _ _ _ (fun e => hp e.symm)).trans h.kp, h.bel.setCell hw _, h.ws⟩
theorem ex_tries (h : Ex w A x W) (v : Int) : Ex w A { x with tries := v } (W.setCell ⟨A, 9, none⟩ (.int .i64 v)) := ⟨Joins.block_setCell (i := 9) h.kp _, h.bel.setCell h.ws _, h.ws⟩
theorem ex_nextc (h : Ex w A x W) (v : Int) : Ex w A { x with next := v } (W.setCell ⟨A, 8, none⟩ (.int .u64 v)) := ⟨Joins.block_setCell (i := 8) h.kp _, h.bel.setCell h.ws _, h.ws⟩
theorem ex_cells (h : Ex w A x W) : W.cell? ⟨A, 0, none⟩ = some (.int .u64 x.id) ∧ W.cell? ⟨A, 1, none⟩ = some (.string ⟨x.dom.toArray⟩) ∧ W.cell? ⟨A, 2, none⟩ = some (.int .u64 x.ep) ∧ W.cell? ⟨A, 3, none⟩ = some (.int .u64 x.ct) ∧ W.cell? ⟨A, 4, none⟩ = some (.string ⟨x.fl.toArray⟩) ∧ W.cell? ⟨A, 5, none⟩ = some (.string ⟨x.fd.toArray⟩) ∧ W.cell? ⟨A, 6, none⟩ = some (.slice x.A x.n x.c) ∧ W.cell? ⟨A, 7, none⟩ = some (.int .u64 x.born) ∧ W.cell? ⟨A, 8, none⟩ = some (.int .u64 x.next) ∧ W.cell? ⟨A, 9, none⟩ = some (.int .i64 x.tries) :=
  ⟨by rw [Lib.cell_of_heap h.kp]; rfl, by rw [Lib.cell_of_heap h.kp]; rfl, by rw [Lib.cell_of_heap h.kp]; rfl, by rw [Lib.cell_of_heap h.kp]; rfl, by rw [Lib.cell_of_heap h.kp]; rfl, by rw [Lib.cell_of_heap h.kp]; rfl, by rw [Lib.cell_of_heap h.kp]; rfl, by rw [Lib.cell_of_heap h.kp]; rfl, by rw [Lib.cell_of_heap h.kp]; rfl, by rw [Lib.cell_of_heap h.kp]; rfl⟩
theorem ex_frozen (h : Ex w A x W) (i : Nat) : W.frozen? ⟨A, i, none⟩ = false := Lib.frozen_of_heap h.kp i
/-- The world behind the store of a whole entry. -/
abbrev stE (W : World) (B : Nat) (x : En) : World := ((((((((((W.setCell ⟨B, 0, none⟩ (.int .u64 x.id)).setCell ⟨B, 1, none⟩ (.string ⟨x.dom.toArray⟩)).setCell ⟨B, 2, none⟩ (.int .u64 x.ep)).setCell ⟨B, 3, none⟩ (.int .u64 x.ct)).setCell ⟨B, 4, none⟩ (.string ⟨x.fl.toArray⟩)).setCell ⟨B, 5, none⟩ (.string ⟨x.fd.toArray⟩)).setCell ⟨B, 6, none⟩ (.slice x.A x.n x.c)).setCell ⟨B, 7, none⟩ (.int .u64 x.born)).setCell ⟨B, 8, none⟩ (.int .u64 x.next)).setCell ⟨B, 9, none⟩ (.int .i64 x.tries))
theorem ex_put (h : Ex w B y W) (x : En) : Ex w B x (stE W B x) := by
  have hb : Below B W (stE W B x) := ((((((((((Below.refl _ _).setCell (p := ⟨B, 0, none⟩) (Nat.le_refl _) _).setCell (p := ⟨B, 1, none⟩) (Nat.le_refl _) _).setCell (p := ⟨B, 2, none⟩) (Nat.le_refl _) _).setCell (p := ⟨B, 3, none⟩) (Nat.le_refl _) _).setCell (p := ⟨B, 4, none⟩) (Nat.le_refl _) _).setCell (p := ⟨B, 5, none⟩) (Nat.le_refl _) _).setCell (p := ⟨B, 6, none⟩) (Nat.le_refl _) _).setCell (p := ⟨B, 7, none⟩) (Nat.le_refl _) _).setCell (p := ⟨B, 8, none⟩) (Nat.le_refl _) _).setCell (p := ⟨B, 9, none⟩) (Nat.le_refl _) _
  have q := Joins.block_setCell (i := 9) (Joins.block_setCell (i := 8) (Joins.block_setCell (i := 7) (Joins.block_setCell (i := 6) (Joins.block_setCell (i := 5) (Joins.block_setCell (i := 4) (Joins.block_setCell (i := 3) (Joins.block_setCell (i := 2) (Joins.block_setCell (i := 1) (Joins.block_setCell (i := 0) (h.kp) (.int .u64 x.id)) (.string ⟨x.dom.toArray⟩)) (.int .u64 x.ep)) (.int .u64 x.ct)) (.string ⟨x.fl.toArray⟩)) (.string ⟨x.fd.toArray⟩)) (.slice x.A x.n x.c)) (.int .u64 x.born)) (.int .u64 x.next)) (.int .i64 x.tries)
  simp only [enA, List.setIfInBounds_toArray, List.set_cons_zero, List.set_cons_succ] at q
  exact ⟨q, h.bel.trans (hb.mono h.ws), h.ws⟩
theorem ex_keep (h : Ex w A x W) (hn : B ≠ A) (hw : w.heap.size ≤ B) (y : En) : Ex w A x (stE W B y) := ex_other (ex_other (ex_other (ex_other (ex_other (ex_other (ex_other (ex_other (ex_other (ex_other (h) (p := ⟨B, 0, none⟩) hn hw _) (p := ⟨B, 1, none⟩) hn hw _) (p := ⟨B, 2, none⟩) hn hw _) (p := ⟨B, 3, none⟩) hn hw _) (p := ⟨B, 4, none⟩) hn hw _) (p := ⟨B, 5, none⟩) hn hw _) (p := ⟨B, 6, none⟩) hn hw _) (p := ⟨B, 7, none⟩) hn hw _) (p := ⟨B, 8, none⟩) hn hw _) (p := ⟨B, 9, none⟩) hn hw _

set_option maxRecDepth 100000 in
set_option maxHeartbeats 4000000 in
theorem again_any (x : En) (now : Int) (w : World) (h0 : 0 ≤ now) (h1 : now < 18446744073709551616) (h2 : -9223372036854775808 ≤ x.tries) (h3 : x.tries < 9223372036854775807) :
    Calls Tryd.prog 17 #[.agg (enA x), .int .u64 now] w fun e w' => e = .returned (.tuple #[.agg (enA (agE x now)), .bool (!Pln.agB x.born now x.tries)]) ∧ Below w.heap.size w w' := by
  obtain ⟨wl, hwl⟩ := Pln.wait_lt x.tries
  obtain ⟨v, hv⟩ : ∃ v, v = Pln.nx now x.tries := ⟨_, rfl⟩
  have hv2 := hv
  unfold Pln.nx at hv2
  have w1 : IntKind.u64.wrap (min now 1099511627776 + Pln.wait x.tries) = v := by rw [hv2]; simp [IntKind.wrap, IntKind.signed, IntKind.bits]; omega
  have v0 : 0 ≤ v := by omega
  have v1 : v < 18446744073709551616 := by omega
  have CW := Lib.hid (fun W => wait_any x.tries W h2 (by omega))
  have CO := Lib.hid (fun (t : Int) (W : World) (q0 : 0 ≤ t) (q1 : t < 18446744073709551616) => out_any x t W q0 q1)
  have H1 := Lib.hid (ex_new (Below.refl w.heap.size w) x)
  have H2 := Lib.hid (ex_next H1.out ((Below.refl _ _).alloc (Nat.le_refl _) (.cells (enA enZ) 41)))
  have Z2 : Hid (Ex w (w.heap.size + 1) enZ ((w.alloc (.cells (enA x) 41)).alloc (.cells (enA enZ) 41))) := by have q := ex_new H1.out.bel enZ; rw [World.size_alloc] at q; exact q
  have HAB : Hid (Pln.agB x.born now x.tries = (Pln.outB x.born now || Pln.outB x.born v)) := by show _ = _; rw [hv]; rfl
  have HAG := Lib.hid (show agE x now = if Pln.agB x.born now x.tries = true then x else { x with tries := min (x.tries + 1) 100, next := min v 1099511627776 } from by unfold agE; rw [hv])
  generalize Pln.agB x.born now x.tries = ab at *
  generalize agE x now = ag at *
  clear hv hv2
  cases hb1 : Pln.outB x.born now with
  | true =>
    have hab : ab = true := by rw [HAB.out, hb1]; rfl
    subst hab
    have hag : ag = x := by rw [HAG.out]; rfl
    rw [hag]
    have C1 := Lib.hid (fun W => CO.out now W h0 h1)
    rw [hb1] at C1
    clear hb1 HAB HAG CO hag
    go_enter Tryd.func17, Tryd.ntmps17
    go_wp2_with fail
    refine (CW.out _).mono ?_
    rintro e w' ⟨rfl, rfl⟩
    go_wp2_with fail
    refine (C1.out _).mono ?_
    rintro e w3 ⟨rfl, h3⟩
    have E3 := Lib.hid (ex_next H2.out h3)
    have Z3 := Lib.hid (ex_next Z2.out h3)
    clear h3
    obtain ⟨a0, a1, a2, a3, a4, a5, a6, a7, a8, a9⟩ := ex_cells E3.out
    obtain ⟨z0, z1, z2, z3, z4, z5, z6, z7, z8, z9⟩ := ex_cells Z3.out
    have g0 := ex_frozen Z3.out 0
    have g1 := ex_frozen Z3.out 1
    have g2 := ex_frozen Z3.out 2
    have g3 := ex_frozen Z3.out 3
    have g4 := ex_frozen Z3.out 4
    have g5 := ex_frozen Z3.out 5
    have g6 := ex_frozen Z3.out 6
    have g7 := ex_frozen Z3.out 7
    have g8 := ex_frozen Z3.out 8
    have g9 := ex_frozen Z3.out 9
    have P5 := Lib.hid (ex_put Z3.out x)
    go_wp2_with fail
    obtain ⟨p0, p1, p2, p3, p4, p5, p6, p7, p8, p9⟩ := ex_cells P5.out
    refine bodyPost_ret (v := .tuple #[.agg (enA x), .bool false]) ?_ rfl ⟨rfl, P5.out.bel⟩
    simp [results, Tryd.results17, go_sem, p0, p1, p2, p3, p4, p5, p6, p7, p8, p9]
  | false =>
    have C1 := Lib.hid (fun W => CO.out now W h0 h1)
    have C2 := Lib.hid (fun W => CO.out v W v0 v1)
    rw [hb1] at C1 HAB
    cases hb2 : Pln.outB x.born v with
    | true =>
      have hab : ab = true := by rw [HAB.out, hb2]; rfl
      subst hab
      have hag : ag = x := by rw [HAG.out]; rfl
      rw [hag]
      rw [hb2] at C2
      clear hb1 hb2 HAB HAG CO hag
      go_enter Tryd.func17, Tryd.ntmps17
      go_wp2_with fail
      refine (CW.out _).mono ?_
      rintro e w' ⟨rfl, rfl⟩
      go_wp2_with fail
      refine (C1.out _).mono ?_
      rintro e w3 ⟨rfl, h3⟩
      have E3 := Lib.hid (ex_next H2.out h3)
      have Z3 := Lib.hid (ex_next Z2.out h3)
      clear h3
      obtain ⟨a0, a1, a2, a3, a4, a5, a6, a7, a8, a9⟩ := ex_cells E3.out
      obtain ⟨z0, z1, z2, z3, z4, z5, z6, z7, z8, z9⟩ := ex_cells Z3.out
      have g0 := ex_frozen Z3.out 0
      have g1 := ex_frozen Z3.out 1
      have g2 := ex_frozen Z3.out 2
      have g3 := ex_frozen Z3.out 3
      have g4 := ex_frozen Z3.out 4
      have g5 := ex_frozen Z3.out 5
      have g6 := ex_frozen Z3.out 6
      have g7 := ex_frozen Z3.out 7
      have g8 := ex_frozen Z3.out 8
      have g9 := ex_frozen Z3.out 9
      go_wp2_with fail
      refine (C2.out _).mono ?_
      rintro e w4 ⟨rfl, h4⟩
      have E4 := Lib.hid (ex_next E3.out h4)
      have Z4 := Lib.hid (ex_next Z3.out h4)
      clear h4
      clear a0 z0 g0 a1 z1 g1 a2 z2 g2 a3 z3 g3 a4 z4 g4 a5 z5 g5 a6 z6 g6 a7 z7 g7 a8 z8 g8 a9 z9 g9
      obtain ⟨a0, a1, a2, a3, a4, a5, a6, a7, a8, a9⟩ := ex_cells E4.out
      obtain ⟨z0, z1, z2, z3, z4, z5, z6, z7, z8, z9⟩ := ex_cells Z4.out
      have g0 := ex_frozen Z4.out 0
      have g1 := ex_frozen Z4.out 1
      have g2 := ex_frozen Z4.out 2
      have g3 := ex_frozen Z4.out 3
      have g4 := ex_frozen Z4.out 4
      have g5 := ex_frozen Z4.out 5
      have g6 := ex_frozen Z4.out 6
      have g7 := ex_frozen Z4.out 7
      have g8 := ex_frozen Z4.out 8
      have g9 := ex_frozen Z4.out 9
      have k0 := ex_frozen E4.out 0
      have k1 := ex_frozen E4.out 1
      have k2 := ex_frozen E4.out 2
      have k3 := ex_frozen E4.out 3
      have k4 := ex_frozen E4.out 4
      have k5 := ex_frozen E4.out 5
      have k6 := ex_frozen E4.out 6
      have k7 := ex_frozen E4.out 7
      have k8 := ex_frozen E4.out 8
      have k9 := ex_frozen E4.out 9
      have P5 := Lib.hid (ex_put Z4.out x)
      go_wp2_with fail
      obtain ⟨p0, p1, p2, p3, p4, p5, p6, p7, p8, p9⟩ := ex_cells P5.out
      refine bodyPost_ret (v := .tuple #[.agg (enA x), .bool false]) ?_ rfl ⟨rfl, P5.out.bel⟩
      simp [results, Tryd.results17, go_sem, p0, p1, p2, p3, p4, p5, p6, p7, p8, p9]
    | false =>
      have hab : ab = false := by rw [HAB.out, hb2]; rfl
      subst hab
      obtain ⟨t1, ht1⟩ : ∃ t1, t1 = x.tries + 1 := ⟨_, rfl⟩
      have w2 : IntKind.i64.wrap (x.tries + 1) = t1 := by rw [IntKind.wrap_i64]; omega
      rw [← ht1] at HAG
      rw [if_neg (by decide)] at HAG
      rw [hb2] at C2
      clear hb1 hb2 HAB CO ht1
      go_enter Tryd.func17, Tryd.ntmps17
      go_wp2_with fail
      refine (CW.out _).mono ?_
      rintro e w' ⟨rfl, rfl⟩
      go_wp2_with fail
      refine (C1.out _).mono ?_
      rintro e w3 ⟨rfl, h3⟩
      have E3 := Lib.hid (ex_next H2.out h3)
      have Z3 := Lib.hid (ex_next Z2.out h3)
      clear h3
      obtain ⟨a0, a1, a2, a3, a4, a5, a6, a7, a8, a9⟩ := ex_cells E3.out
      obtain ⟨z0, z1, z2, z3, z4, z5, z6, z7, z8, z9⟩ := ex_cells Z3.out
      have g0 := ex_frozen Z3.out 0
      have g1 := ex_frozen Z3.out 1
      have g2 := ex_frozen Z3.out 2
      have g3 := ex_frozen Z3.out 3
      have g4 := ex_frozen Z3.out 4
      have g5 := ex_frozen Z3.out 5
      have g6 := ex_frozen Z3.out 6
      have g7 := ex_frozen Z3.out 7
      have g8 := ex_frozen Z3.out 8
      have g9 := ex_frozen Z3.out 9
      go_wp2_with fail
      refine (C2.out _).mono ?_
      rintro e w4 ⟨rfl, h4⟩
      have E4 := Lib.hid (ex_next E3.out h4)
      have Z4 := Lib.hid (ex_next Z3.out h4)
      clear h4
      clear a0 z0 g0 a1 z1 g1 a2 z2 g2 a3 z3 g3 a4 z4 g4 a5 z5 g5 a6 z6 g6 a7 z7 g7 a8 z8 g8 a9 z9 g9
      obtain ⟨a0, a1, a2, a3, a4, a5, a6, a7, a8, a9⟩ := ex_cells E4.out
      obtain ⟨z0, z1, z2, z3, z4, z5, z6, z7, z8, z9⟩ := ex_cells Z4.out
      have g0 := ex_frozen Z4.out 0
      have g1 := ex_frozen Z4.out 1
      have g2 := ex_frozen Z4.out 2
      have g3 := ex_frozen Z4.out 3
      have g4 := ex_frozen Z4.out 4
      have g5 := ex_frozen Z4.out 5
      have g6 := ex_frozen Z4.out 6
      have g7 := ex_frozen Z4.out 7
      have g8 := ex_frozen Z4.out 8
      have g9 := ex_frozen Z4.out 9
      have k0 := ex_frozen E4.out 0
      have k1 := ex_frozen E4.out 1
      have k2 := ex_frozen E4.out 2
      have k3 := ex_frozen E4.out 3
      have k4 := ex_frozen E4.out 4
      have k5 := ex_frozen E4.out 5
      have k6 := ex_frozen E4.out 6
      have k7 := ex_frozen E4.out 7
      have k8 := ex_frozen E4.out 8
      have k9 := ex_frozen E4.out 9
      obtain ⟨y, hy⟩ : ∃ y : En, y = { x with tries := min t1 100, next := min v 1099511627776 } := ⟨_, rfl⟩
      rw [← hy] at HAG
      have E6 := Lib.hid (ex_nextc (ex_tries E4.out (min t1 100)) (min v 1099511627776))
      have Z6 := Lib.hid (ex_other (ex_other Z4.out (p := ⟨w.heap.size, 9, none⟩) (show w.heap.size ≠ w.heap.size + 1 by omega) (Nat.le_refl _) (.int .i64 (min t1 100))) (p := ⟨w.heap.size, 8, none⟩) (show w.heap.size ≠ w.heap.size + 1 by omega) (Nat.le_refl _) (.int .u64 (min v 1099511627776)))
      have P7 := Lib.hid (ex_put Z6.out y)
      rw [hy] at P7
      clear Z6 E6 Z4 E4 E3 Z3 H1 H2 Z2
      go_wp2_with fail
      rw [HAG.out, hy]
      obtain ⟨p0, p1, p2, p3, p4, p5, p6, p7, p8, p9⟩ := ex_cells P7.out
      refine bodyPost_ret (v := .tuple #[.agg (enA { x with tries := min t1 100, next := min v 1099511627776 }), .bool true]) ?_ rfl ⟨rfl, P7.out.bel⟩
      simp [results, Tryd.results17, go_sem, p0, p1, p2, p3, p4, p5, p6, p7, p8, p9]
end Go.Proofs.YtocjjfjcepflnaaDoor
