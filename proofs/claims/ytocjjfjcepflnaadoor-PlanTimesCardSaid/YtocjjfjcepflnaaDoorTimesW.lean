/-
  PROVED HERE: PlanTimes of the statements answers true.
-/
import Derived.Test.YtocjjfjcepflnaaDoorEndsW
import Derived.Test.YtocjjfjcepflnaaDoorRAg
import Derived.Test.YtocjjfjcepflnaaDoorSame
import Derived.Deep.RegionHeld3
set_option linter.unusedVariables false
namespace Go.Proofs.YtocjjfjcepflnaaDoor
open Go.RowKit
/-- Three entries at blocks of the call's own. -/
structure Tt (w : World) (A B C : Nat) (x y : En) (W : World) : Prop where
  a : Ex w A y W
  b : Ex w B y W
  c : Ex w C x W
theorem tt_next {w W W1 : World} {A B C : Nat} {x y : En} (h : Tt w A B C x y W) (g : Below W.heap.size W W1) : Tt w A B C x y W1 := ⟨ex_next h.a g, ex_next h.b g, ex_next h.c g⟩
theorem tt_call {w W : World} {A B C : Nat} {x y : En} {f : FuncId} {args : Array Value} {v : Value} (h : Tt w A B C x y W) (c : Calls Tryd.prog f args W fun e w' => e = .returned v ∧ Below W.heap.size W w') :
    Calls Tryd.prog f args W fun e w' => e = .returned v ∧ Tt w A B C x y w' := c.mono fun _ _ k => ⟨k.1, tt_next h k.2⟩
theorem tt_call0 {w W : World} {A B C : Nat} {x y : En} {f : FuncId} {args : Array Value} {v : Value} (h : Tt w A B C x y W) (c : Calls Tryd.prog f args W fun e w' => e = .returned v ∧ W = w') :
    Calls Tryd.prog f args W fun e w' => e = .returned v ∧ Tt w A B C x y w' := c.mono fun _ _ k => ⟨k.1, by rw [← k.2]; exact h⟩

set_option maxRecDepth 100000 in
set_option maxHeartbeats 8000000 in
theorem times_any (x : En) (g : Nat → To3) (now tries : Int) (m : Int) (w : World) (hT : Tos w x.A x.n g) (h0 : 0 ≤ now) (h1 : now < 18446744073709551616) (h2 : -9223372036854775808 ≤ tries) (h3 : tries ≤ 9223372036854775807) (hm : w.cell? ⟨0, 0, none⟩ = some (.int .i64 m)) :
    Calls Tryd.prog 4 #[.agg (enA x), .int .u64 now, .int .i64 tries] w fun e w' => e = .returned (.bool true) ∧ Below w.heap.size w w' := by
  have E0 := Lib.hid (ex_new (Below.refl w.heap.size w) x)
  have HA := Lib.hid (awake_any m (w.alloc (.cells (enA x) 41)) (cell0_alloc hm _))
  have HT := Lib.hid hT
  clear hT hm
  unfold enA at HA
  go_enter Tryd.func4, Tryd.ntmps4
  go_wp2_with fail
  refine HA.out.mono ?_
  rintro e w1 ⟨rfl, k1⟩
  have E1 := Lib.hid (ex_next E0.out k1)
  clear k1 E0 HA
  obtain ⟨a0, a1, a2, a3, a4, a5, a6, a7, a8, a9⟩ := ex_cells E1.out
  by_cases p1 : 20 < x.n
  · have p1z : (20 : Int) < (x.n : Int) := by omega
    go_wp2_with fail
    go_ret
    exact ⟨rfl, E1.out.bel⟩
  have p1z : ¬ (20 : Int) < (x.n : Int) := by omega
  by_cases p2 : 1099511627776 < x.tries
  · go_wp2_with fail
    go_ret
    exact ⟨rfl, E1.out.bel⟩
  by_cases p3 : x.tries < -1099511627776
  · go_wp2_with fail
    go_ret
    exact ⟨rfl, E1.out.bel⟩
  have q2 : -9223372036854775808 ≤ x.tries := by omega
  have q3 : x.tries < 9223372036854775807 := by omega
  have C1 := Lib.hid (fun W => again_any x now W h0 h1 q2 q3)
  have C2 := Lib.hid (fun W => ragain_any x now W h0 h1 q2 q3)
  have HY : Hid ((agE x now).A = x.A ∧ (agE x now).n = x.n) := by
    show _ ∧ _
    unfold agE
    split <;> exact ⟨rfl, rfl⟩
  have C4 := Lib.hid (fun W => out_any x now W h0 h1)
  have C5 := Lib.hid (fun W => rout_any x now W h0 h1)
  have C6 := Lib.hid (fun W => wait_any tries W h2 h3)
  have C7 := Lib.hid (fun W => rwait_any tries W h2 h3)
  have C3 : Hid (∀ W, Below w.heap.size w W → Calls Tryd.prog 19 #[.agg (enA (agE x now)), .agg (enA (agE x now))] W fun e w' => e = .returned (.bool true) ∧ Below W.heap.size W w') := fun W h => same_any (agE x now) g W (by rw [HY.out.1, HY.out.2]; exact tos_below HT.out h) (by rw [HY.out.2]; omega)
  generalize agE x now = y at *
  generalize Pln.agB x.born now x.tries = ab at *
  generalize Pln.outB x.born now = ob at *
  generalize Pln.wait tries = wv at *
  by_cases p4 : 1000 < x.tries
  · by_cases p5 : x.tries < 1073741824
    · go_wp2_with fail
      go_ret
      exact ⟨rfl, E1.out.bel⟩
    · skip
      unfold enA at C1 C2 C3 C4 C5
      go_wp2_with fail
      refine (C1.out _).mono ?_
      rintro e w2 ⟨rfl, k2⟩
      have E2 := Lib.hid (ex_next (ex_next E1.out k2) ((Below.refl _ _).alloc (Nat.le_refl _) (.cells (enA y) 41)))
      have F2 : Hid (Ex w w2.heap.size y (w2.alloc (.cells (enA y) 41))) := ex_new (E1.out.bel.trans (k2.mono E1.out.bel.size)) y
      clear k2 a0 a1 a2 a3 a4 a5 a6 a7 a8 a9
      obtain ⟨a0, a1, a2, a3, a4, a5, a6, a7, a8, a9⟩ := ex_cells E2.out
      go_wp2_with fail
      refine (C2.out _).mono ?_
      rintro e w3 ⟨rfl, k3⟩
      have E3 := Lib.hid (ex_next (ex_next E2.out k3) ((Below.refl _ _).alloc (Nat.le_refl _) (.cells (enA y) 41)))
      have F3 := Lib.hid (ex_next (ex_next F2.out k3) ((Below.refl _ _).alloc (Nat.le_refl _) (.cells (enA y) 41)))
      have G3 : Hid (Ex w w3.heap.size y (w3.alloc (.cells (enA y) 41))) := ex_new (E2.out.bel.trans (k3.mono E2.out.bel.size)) y
      clear k3 a0 a1 a2 a3 a4 a5 a6 a7 a8 a9
      have S3 : Tt w w2.heap.size w3.heap.size w.heap.size x y (w3.alloc (.cells (enA y) 41)) := ⟨F3.out, G3.out, E3.out⟩
      have HS3 := Lib.hid S3
      have D3 := Lib.hid (fun (W : World) (h : Tt w w2.heap.size w3.heap.size w.heap.size x y W) => tt_call h (C3.out W h.a.bel))
      have D4 := Lib.hid (fun (W : World) (h : Tt w w2.heap.size w3.heap.size w.heap.size x y W) => tt_call h (C4.out W))
      have D5 := Lib.hid (fun (W : World) (h : Tt w w2.heap.size w3.heap.size w.heap.size x y W) => tt_call h (C5.out W))
      have D6 := Lib.hid (fun (W : World) (h : Tt w w2.heap.size w3.heap.size w.heap.size x y W) => tt_call0 h (C6.out W))
      have D7 := Lib.hid (fun (W : World) (h : Tt w w2.heap.size w3.heap.size w.heap.size x y W) => tt_call0 h (C7.out W))
      have s0 := fun (W : World) (h : Tt w w2.heap.size w3.heap.size w.heap.size x y W) => (ex_cells h.a).1
      have s1 := fun (W : World) (h : Tt w w2.heap.size w3.heap.size w.heap.size x y W) => (ex_cells h.a).2.1
      have s2 := fun (W : World) (h : Tt w w2.heap.size w3.heap.size w.heap.size x y W) => (ex_cells h.a).2.2.1
      have s3 := fun (W : World) (h : Tt w w2.heap.size w3.heap.size w.heap.size x y W) => (ex_cells h.a).2.2.2.1
      have s4 := fun (W : World) (h : Tt w w2.heap.size w3.heap.size w.heap.size x y W) => (ex_cells h.a).2.2.2.2.1
      have s5 := fun (W : World) (h : Tt w w2.heap.size w3.heap.size w.heap.size x y W) => (ex_cells h.a).2.2.2.2.2.1
      have s6 := fun (W : World) (h : Tt w w2.heap.size w3.heap.size w.heap.size x y W) => (ex_cells h.a).2.2.2.2.2.2.1
      have s7 := fun (W : World) (h : Tt w w2.heap.size w3.heap.size w.heap.size x y W) => (ex_cells h.a).2.2.2.2.2.2.2.1
      have s8 := fun (W : World) (h : Tt w w2.heap.size w3.heap.size w.heap.size x y W) => (ex_cells h.a).2.2.2.2.2.2.2.2.1
      have s9 := fun (W : World) (h : Tt w w2.heap.size w3.heap.size w.heap.size x y W) => (ex_cells h.a).2.2.2.2.2.2.2.2.2
      have t0 := fun (W : World) (h : Tt w w2.heap.size w3.heap.size w.heap.size x y W) => (ex_cells h.b).1
      have t1 := fun (W : World) (h : Tt w w2.heap.size w3.heap.size w.heap.size x y W) => (ex_cells h.b).2.1
      have t2 := fun (W : World) (h : Tt w w2.heap.size w3.heap.size w.heap.size x y W) => (ex_cells h.b).2.2.1
      have t3 := fun (W : World) (h : Tt w w2.heap.size w3.heap.size w.heap.size x y W) => (ex_cells h.b).2.2.2.1
      have t4 := fun (W : World) (h : Tt w w2.heap.size w3.heap.size w.heap.size x y W) => (ex_cells h.b).2.2.2.2.1
      have t5 := fun (W : World) (h : Tt w w2.heap.size w3.heap.size w.heap.size x y W) => (ex_cells h.b).2.2.2.2.2.1
      have t6 := fun (W : World) (h : Tt w w2.heap.size w3.heap.size w.heap.size x y W) => (ex_cells h.b).2.2.2.2.2.2.1
      have t7 := fun (W : World) (h : Tt w w2.heap.size w3.heap.size w.heap.size x y W) => (ex_cells h.b).2.2.2.2.2.2.2.1
      have t8 := fun (W : World) (h : Tt w w2.heap.size w3.heap.size w.heap.size x y W) => (ex_cells h.b).2.2.2.2.2.2.2.2.1
      have t9 := fun (W : World) (h : Tt w w2.heap.size w3.heap.size w.heap.size x y W) => (ex_cells h.b).2.2.2.2.2.2.2.2.2
      have u0 := fun (W : World) (h : Tt w w2.heap.size w3.heap.size w.heap.size x y W) => (ex_cells h.c).1
      have u1 := fun (W : World) (h : Tt w w2.heap.size w3.heap.size w.heap.size x y W) => (ex_cells h.c).2.1
      have u2 := fun (W : World) (h : Tt w w2.heap.size w3.heap.size w.heap.size x y W) => (ex_cells h.c).2.2.1
      have u3 := fun (W : World) (h : Tt w w2.heap.size w3.heap.size w.heap.size x y W) => (ex_cells h.c).2.2.2.1
      have u4 := fun (W : World) (h : Tt w w2.heap.size w3.heap.size w.heap.size x y W) => (ex_cells h.c).2.2.2.2.1
      have u5 := fun (W : World) (h : Tt w w2.heap.size w3.heap.size w.heap.size x y W) => (ex_cells h.c).2.2.2.2.2.1
      have u6 := fun (W : World) (h : Tt w w2.heap.size w3.heap.size w.heap.size x y W) => (ex_cells h.c).2.2.2.2.2.2.1
      have u7 := fun (W : World) (h : Tt w w2.heap.size w3.heap.size w.heap.size x y W) => (ex_cells h.c).2.2.2.2.2.2.2.1
      have u8 := fun (W : World) (h : Tt w w2.heap.size w3.heap.size w.heap.size x y W) => (ex_cells h.c).2.2.2.2.2.2.2.2.1
      have u9 := fun (W : World) (h : Tt w w2.heap.size w3.heap.size w.heap.size x y W) => (ex_cells h.c).2.2.2.2.2.2.2.2.2
      clear E2 E3 F2 F3 G3 C1 C2 C3 C4 C5 C6 C7 E1
      go_wp2_with fail
      go_region_held3 (fun W => Tt w w2.heap.size w3.heap.size w.heap.size x y W) (first | assumption | exact HS3.out | exact tt_next HS3.out (Below.refl _ _).drew | exact tt_next (by assumption) (Below.refl _ _).drew) (first
        | (go_at_call 19; refine (D3.out _ (by assumption)).mono ?_; rintro e w9 ⟨rfl, h9⟩)
        | (go_at_call 20; refine (D4.out _ (by assumption)).mono ?_; rintro e w9 ⟨rfl, h9⟩)
        | (go_at_call 21; refine (D5.out _ (by assumption)).mono ?_; rintro e w9 ⟨rfl, h9⟩)
        | (go_at_call 22; refine (D6.out _ (by assumption)).mono ?_; rintro e w9 ⟨rfl, h9⟩)
        | (go_at_call 23; refine (D7.out _ (by assumption)).mono ?_; rintro e w9 ⟨rfl, h9⟩))
      all_goals go_wp2
      all_goals go_ret
      all_goals exact ⟨by simp, h9.a.bel⟩
  · skip
    unfold enA at C1 C2 C3 C4 C5
    go_wp2_with fail
    refine (C1.out _).mono ?_
    rintro e w2 ⟨rfl, k2⟩
    have E2 := Lib.hid (ex_next (ex_next E1.out k2) ((Below.refl _ _).alloc (Nat.le_refl _) (.cells (enA y) 41)))
    have F2 : Hid (Ex w w2.heap.size y (w2.alloc (.cells (enA y) 41))) := ex_new (E1.out.bel.trans (k2.mono E1.out.bel.size)) y
    clear k2 a0 a1 a2 a3 a4 a5 a6 a7 a8 a9
    obtain ⟨a0, a1, a2, a3, a4, a5, a6, a7, a8, a9⟩ := ex_cells E2.out
    go_wp2_with fail
    refine (C2.out _).mono ?_
    rintro e w3 ⟨rfl, k3⟩
    have E3 := Lib.hid (ex_next (ex_next E2.out k3) ((Below.refl _ _).alloc (Nat.le_refl _) (.cells (enA y) 41)))
    have F3 := Lib.hid (ex_next (ex_next F2.out k3) ((Below.refl _ _).alloc (Nat.le_refl _) (.cells (enA y) 41)))
    have G3 : Hid (Ex w w3.heap.size y (w3.alloc (.cells (enA y) 41))) := ex_new (E2.out.bel.trans (k3.mono E2.out.bel.size)) y
    clear k3 a0 a1 a2 a3 a4 a5 a6 a7 a8 a9
    have S3 : Tt w w2.heap.size w3.heap.size w.heap.size x y (w3.alloc (.cells (enA y) 41)) := ⟨F3.out, G3.out, E3.out⟩
    have HS3 := Lib.hid S3
    have D3 := Lib.hid (fun (W : World) (h : Tt w w2.heap.size w3.heap.size w.heap.size x y W) => tt_call h (C3.out W h.a.bel))
    have D4 := Lib.hid (fun (W : World) (h : Tt w w2.heap.size w3.heap.size w.heap.size x y W) => tt_call h (C4.out W))
    have D5 := Lib.hid (fun (W : World) (h : Tt w w2.heap.size w3.heap.size w.heap.size x y W) => tt_call h (C5.out W))
    have D6 := Lib.hid (fun (W : World) (h : Tt w w2.heap.size w3.heap.size w.heap.size x y W) => tt_call0 h (C6.out W))
    have D7 := Lib.hid (fun (W : World) (h : Tt w w2.heap.size w3.heap.size w.heap.size x y W) => tt_call0 h (C7.out W))
    have s0 := fun (W : World) (h : Tt w w2.heap.size w3.heap.size w.heap.size x y W) => (ex_cells h.a).1
    have s1 := fun (W : World) (h : Tt w w2.heap.size w3.heap.size w.heap.size x y W) => (ex_cells h.a).2.1
    have s2 := fun (W : World) (h : Tt w w2.heap.size w3.heap.size w.heap.size x y W) => (ex_cells h.a).2.2.1
    have s3 := fun (W : World) (h : Tt w w2.heap.size w3.heap.size w.heap.size x y W) => (ex_cells h.a).2.2.2.1
    have s4 := fun (W : World) (h : Tt w w2.heap.size w3.heap.size w.heap.size x y W) => (ex_cells h.a).2.2.2.2.1
    have s5 := fun (W : World) (h : Tt w w2.heap.size w3.heap.size w.heap.size x y W) => (ex_cells h.a).2.2.2.2.2.1
    have s6 := fun (W : World) (h : Tt w w2.heap.size w3.heap.size w.heap.size x y W) => (ex_cells h.a).2.2.2.2.2.2.1
    have s7 := fun (W : World) (h : Tt w w2.heap.size w3.heap.size w.heap.size x y W) => (ex_cells h.a).2.2.2.2.2.2.2.1
    have s8 := fun (W : World) (h : Tt w w2.heap.size w3.heap.size w.heap.size x y W) => (ex_cells h.a).2.2.2.2.2.2.2.2.1
    have s9 := fun (W : World) (h : Tt w w2.heap.size w3.heap.size w.heap.size x y W) => (ex_cells h.a).2.2.2.2.2.2.2.2.2
    have t0 := fun (W : World) (h : Tt w w2.heap.size w3.heap.size w.heap.size x y W) => (ex_cells h.b).1
    have t1 := fun (W : World) (h : Tt w w2.heap.size w3.heap.size w.heap.size x y W) => (ex_cells h.b).2.1
    have t2 := fun (W : World) (h : Tt w w2.heap.size w3.heap.size w.heap.size x y W) => (ex_cells h.b).2.2.1
    have t3 := fun (W : World) (h : Tt w w2.heap.size w3.heap.size w.heap.size x y W) => (ex_cells h.b).2.2.2.1
    have t4 := fun (W : World) (h : Tt w w2.heap.size w3.heap.size w.heap.size x y W) => (ex_cells h.b).2.2.2.2.1
    have t5 := fun (W : World) (h : Tt w w2.heap.size w3.heap.size w.heap.size x y W) => (ex_cells h.b).2.2.2.2.2.1
    have t6 := fun (W : World) (h : Tt w w2.heap.size w3.heap.size w.heap.size x y W) => (ex_cells h.b).2.2.2.2.2.2.1
    have t7 := fun (W : World) (h : Tt w w2.heap.size w3.heap.size w.heap.size x y W) => (ex_cells h.b).2.2.2.2.2.2.2.1
    have t8 := fun (W : World) (h : Tt w w2.heap.size w3.heap.size w.heap.size x y W) => (ex_cells h.b).2.2.2.2.2.2.2.2.1
    have t9 := fun (W : World) (h : Tt w w2.heap.size w3.heap.size w.heap.size x y W) => (ex_cells h.b).2.2.2.2.2.2.2.2.2
    have u0 := fun (W : World) (h : Tt w w2.heap.size w3.heap.size w.heap.size x y W) => (ex_cells h.c).1
    have u1 := fun (W : World) (h : Tt w w2.heap.size w3.heap.size w.heap.size x y W) => (ex_cells h.c).2.1
    have u2 := fun (W : World) (h : Tt w w2.heap.size w3.heap.size w.heap.size x y W) => (ex_cells h.c).2.2.1
    have u3 := fun (W : World) (h : Tt w w2.heap.size w3.heap.size w.heap.size x y W) => (ex_cells h.c).2.2.2.1
    have u4 := fun (W : World) (h : Tt w w2.heap.size w3.heap.size w.heap.size x y W) => (ex_cells h.c).2.2.2.2.1
    have u5 := fun (W : World) (h : Tt w w2.heap.size w3.heap.size w.heap.size x y W) => (ex_cells h.c).2.2.2.2.2.1
    have u6 := fun (W : World) (h : Tt w w2.heap.size w3.heap.size w.heap.size x y W) => (ex_cells h.c).2.2.2.2.2.2.1
    have u7 := fun (W : World) (h : Tt w w2.heap.size w3.heap.size w.heap.size x y W) => (ex_cells h.c).2.2.2.2.2.2.2.1
    have u8 := fun (W : World) (h : Tt w w2.heap.size w3.heap.size w.heap.size x y W) => (ex_cells h.c).2.2.2.2.2.2.2.2.1
    have u9 := fun (W : World) (h : Tt w w2.heap.size w3.heap.size w.heap.size x y W) => (ex_cells h.c).2.2.2.2.2.2.2.2.2
    clear E2 E3 F2 F3 G3 C1 C2 C3 C4 C5 C6 C7 E1
    go_wp2_with fail
    go_region_held3 (fun W => Tt w w2.heap.size w3.heap.size w.heap.size x y W) (first | assumption | exact HS3.out | exact tt_next HS3.out (Below.refl _ _).drew | exact tt_next (by assumption) (Below.refl _ _).drew) (first
      | (go_at_call 19; refine (D3.out _ (by assumption)).mono ?_; rintro e w9 ⟨rfl, h9⟩)
      | (go_at_call 20; refine (D4.out _ (by assumption)).mono ?_; rintro e w9 ⟨rfl, h9⟩)
      | (go_at_call 21; refine (D5.out _ (by assumption)).mono ?_; rintro e w9 ⟨rfl, h9⟩)
      | (go_at_call 22; refine (D6.out _ (by assumption)).mono ?_; rintro e w9 ⟨rfl, h9⟩)
      | (go_at_call 23; refine (D7.out _ (by assumption)).mono ?_; rintro e w9 ⟨rfl, h9⟩))
    all_goals go_wp2
    all_goals go_ret
    all_goals exact ⟨by simp, h9.a.bel⟩
theorem planTimes_any (m : Int) (x : En) (g : Nat → To3) (now tries : Int) (w : World) (hm : w.cell? ⟨0, 0, none⟩ = some (.int .i64 m)) (hT : Tos w x.A x.n g) (h1 : (Lit.int .u64 now).wf = true) (h2 : (Lit.int .i64 tries).wf = true) :
    Calls Tryd.prog 4 #[.agg (enA x), .int .u64 now, .int .i64 tries] w fun e w' => e = .returned (.bool true) ∧ Below w.heap.size w w' := times_any x g now tries m w hT (u64_wf h1).1 (u64_wf h1).2 (i64_wf h2).1 (i64_wf h2).2 hm
end Go.Proofs.YtocjjfjcepflnaaDoor
