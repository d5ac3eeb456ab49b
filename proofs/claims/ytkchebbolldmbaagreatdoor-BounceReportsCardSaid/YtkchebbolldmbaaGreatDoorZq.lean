/-
  PROVED HERE: what box and Entry of the answer compute; an entry is the same as one of the same contents. what Failed of the answer computes. what Report of the answer computes. BounceReports of the statements answers true.
-/
import Derived.Test.YtkchebbolldmbaaGreatDoorBk
import Derived.Deep.QuietTactic
import Derived.Test.YtkchebbolldmbaaGreatDoorZl
import Derived.Test.YtkchebbolldmbaaGreatDoorRsu
import Derived.Test.YtkchebbolldmbaaGreatDoorRMay
import Derived.Test.YtkchebbolldmbaaGreatDoorRPath
import Derived.Test.YtkchebbolldmbaaGreatDoorZs
import Derived.Maps.AppendAt
import Derived.Test.YtkchebbolldmbaaGreatDoorBa
set_option linter.unusedVariables false
namespace Go.Proofs.YtkchebbolldmbaaGreatDoor
open Go.RowKit
theorem info63 : (Tryz.prog.info? 63).map (·.size) = some 2 := by kernel_rfl

set_option maxRecDepth 100000 in
set_option maxHeartbeats 2000000 in
theorem rbox_any (l d : List UInt8) (w : World) : Calls Tryz.prog 41 #[bxV l d] w fun e w' => e = .returned (bxV l d) ∧ Below w.heap.size w w' := by
  have HB : Hid (Below w.heap.size w ((w.alloc (.cells #[.string ⟨l.toArray⟩, .string ⟨d.toArray⟩] 29)).alloc (.cells #[.string ⟨l.toArray⟩, .string ⟨d.toArray⟩] 63))) := ((Below.refl _ _).alloc (Nat.le_refl _) _).alloc (by simp) _
  obtain ⟨c1, c2⟩ := cell_two w (.string ⟨l.toArray⟩) (.string ⟨d.toArray⟩) 29
  unfold bxV
  go_enter Tryz.func41, Tryz.ntmps41
  go_wp2_with fail
  refine bodyPost_ret (results_cell_row rfl _ _ (w.heap.size + 1) 63 #[.string ⟨l.toArray⟩, .string ⟨d.toArray⟩] (0, 0) _ rfl ?_ Tryz.underlying63 rfl info63) rfl ⟨rfl, HB.out⟩
  show ((w.heap.push _).push _)[w.heap.size + 1]? = _
  rw [Array.getElem?_push]
  simp only [Array.size_push]
  rw [if_pos trivial]
theorem held46 : Tryz.prog.stoodInHeld 46 = false := by kernel_rfl
theorem guard46 : Tryz.prog.eqGuardType Tryz.prog.depth 46 = false := by kernel_rfl
theorem eq46 (a b : ByteArray) (c : Int) (w : World) (k : Nat) : (Op.equalIn (k + 3) 46 (.agg #[.string a, .string b, .int .i64 c]) (.agg #[.string a, .string b, .int .i64 c])).run Tryz.prog w = .ok true w := by
  rw [run_equalIn_struct w (k + 2) 46 _ _ (by simp [Program.fieldsOf, Tryz.underlying46]) held46]
  have h := eq24 a b a b w k
  rw [beq_self_eq_true, beq_self_eq_true, Bool.and_self] at h
  have c29 : Tryz.prog.cellsOf 29 = 2 := by kernel_rfl
  have c3 : Tryz.prog.cellsOf 3 = 1 := by kernel_rfl
  simp [Program.fieldsOf, Tryz.underlying46, Op.eqFields, go_sem]
theorem neq46 (a b : ByteArray) (c : Int) (w : World) : (binOp .neq 46 (.agg #[.string a, .string b, .int .i64 c]) (.agg #[.string a, .string b, .int .i64 c])).run Tryz.prog w = .ok (.bool false) w := by
  rw [run_neq_struct, eq46 a b c w 9997]; rfl
theorem gua46 (op : BinOp) (x y : Operand) (xs ys : Array Value) (w : World) : (eqGuard op 46 x y (.agg xs) (.agg ys)).run Tryz.prog w = .ok () w := run_eqGuard_agg w op 46 x y xs ys guard46

set_option maxRecDepth 100000 in
set_option maxHeartbeats 8000000 in
theorem rsame_any (x : En) (A2 : Option Addr) (c2 : Nat) (g : Nat → To3) (w : World) (hT : Tos w x.A x.n g) (hT2 : Tos w A2 x.n g) (hn : x.n ≤ 4611686018427387904) : Calls Tryz.prog 16 #[.agg (enA x), .agg (enA { x with A := A2, c := c2 })] w fun e w' => e = .returned (.bool true) ∧ Below w.heap.size w w' := by
  have B2 : Hid (Below w.heap.size w ((w.alloc (.cells (enA x) 32)).alloc (.cells (enA { x with A := A2, c := c2 }) 32))) := ((Below.refl _ _).alloc (Nat.le_refl _) _).alloc (by rw [World.size_alloc]; omega) _
  have E1 : Hid (Ex w w.heap.size x ((w.alloc (.cells (enA x) 32)).alloc (.cells (enA { x with A := A2, c := c2 }) 32))) := ex_next (ex_new (Below.refl _ _) x) ((Below.refl _ _).alloc (Nat.le_refl _) _)
  have E2 : Hid (Ex w (w.heap.size + 1) { x with A := A2, c := c2 } ((w.alloc (.cells (enA x) 32)).alloc (.cells (enA { x with A := A2, c := c2 }) 32))) := by
    have q := ex_new (w := w) ((Below.refl w.heap.size w).alloc (Nat.le_refl _) (.cells (enA x) 32)) { x with A := A2, c := c2 }
    rw [World.size_alloc] at q
    exact q
  have HT := Lib.hid (tos_below hT B2.out)
  have HT2 := Lib.hid (tos_below hT2 B2.out)
  have q29 : ∀ W, (binOp .eql 29 (.agg #[.string ⟨x.fl.toArray⟩, .string ⟨x.fd.toArray⟩]) (.agg #[.string ⟨x.fl.toArray⟩, .string ⟨x.fd.toArray⟩])).run Tryz.prog W = .ok (.bool true) W := fun W => by
    rw [eql24]; simp only [beq_self_eq_true, Bool.and_self]
  have gu29 := gua24
  have gu46 := gua46
  clear hT hT2
  unfold enA at *
  go_enter Tryz.func16, Tryz.ntmps16
  go_wp2_with fail
  generalize (w.alloc _).alloc _ = W at *
  obtain ⟨a0, a1, a2, a3, a4, a5, a6, a7, a8, a9⟩ := ex_cells E1.out
  obtain ⟨z0, z1, z2, z3, z4, z5, z6, z7, z8, z9⟩ := ex_cells E2.out
  have HE1 := Lib.hid E1.out.bel
  clear E1 E2 B2
  simp only [] at z0 z1 z2 z3 z4 z5 z6 z7 z8 z9
  go_loopw [5] (fun u wr => ∃ k q : Nat, u = .int .i64 k ∧ k ≤ x.n ∧ wr = W.drewN q) (fun u _ => x.n - (intOf u).toNat)
  case atStart => exact ⟨0, 0, rfl, by omega, rfl⟩
  case round =>
    obtain ⟨k, q, rfl, hk, rfl⟩ := hrel
    by_cases hlt : k < x.n
    · have hltz : (k : Int) < (x.n : Int) := by omega
      obtain ⟨b, off, hA, ⟨t0, t1⟩, t2⟩ := HT.out k hlt
      obtain ⟨b', off', hA', ⟨s0, s1⟩, s2⟩ := HT2.out k hlt
      rw [hA] at a6
      rw [hA'] at z6
      have q46 := fun W => neq46 ⟨(g k).lo.toArray⟩ ⟨(g k).dm.toArray⟩ (g k).st W
      generalize g k = y at *
      go_wp2_with fail
      go_quiet (fail)
      go_wp2
      go_roundw
      case rel => exact ⟨k + 1, _, by go_num, by omega, rfl⟩
      case measure => simp [intOf]; omega
    · have hltz : ¬ (k : Int) < (x.n : Int) := by omega
      go_wp2_with fail
      go_ret
      exact ⟨by simp, below_drewN HE1.out _⟩
/-- Has one of the first k failed? -/
def some2 (g : Nat → To3) (k : Nat) : Bool := !(fls g k).isEmpty
theorem some2_succ (g : Nat → To3) (k : Nat) : some2 g (k + 1) = (some2 g k || decide ((g k).st = 2)) := by
  unfold some2
  rw [fls_succ]
  by_cases h : (g k).st = 2 <;> cases (fls g k) <;> simp [h]

set_option maxRecDepth 100000 in
set_option maxHeartbeats 4000000 in
theorem rentry_no (x : En) (g : Nat → To3) (w : World) (hT : Tos w x.A x.n g) (hn : x.n ≤ 1000000) (hl1 : x.fl.length < 4294967281) (hl2 : x.fd.length < 4294967281) (hno : (x.fl = [] ∧ x.fd = []) ∨ fls g x.n = []) :
    Calls Tryz.prog 15 #[.agg (enA x)] w fun e w' => e = .returned (.tuple #[.agg (enA enZ), .bool false]) ∧ Below w.heap.size w w' := by
  have H1 := Lib.hid (ex_new (Below.refl w.heap.size w) x)
  have H2 := Lib.hid (ex_next H1.out ((Below.refl _ _).alloc (Nat.le_refl _) (.cells (enA enZ) 32)))
  have Z2 : Hid (Ex w (w.heap.size + 1) enZ ((w.alloc (.cells (enA x) 32)).alloc (.cells (enA enZ) 32))) := by have q := ex_new H1.out.bel enZ; rw [World.size_alloc] at q; exact q
  have HT := Lib.hid (tos_below (tos_below hT H1.out.bel) ((Below.refl _ _).alloc (Nat.le_refl _) (.cells (enA enZ) 32)))
  have hw1 : IntKind.i64.wrap ((x.fl.length : Int) + (x.fd.length : Int)) = ((x.fl.length + x.fd.length : Nat) : Int) := by rw [IntKind.wrap_i64]; omega
  have HNO : Hid (some2 g x.n = true → (x.fl.length + x.fd.length : Nat) = 0) := fun h => by
    rcases hno with ⟨h1, h2⟩ | h3
    · rw [h1, h2]; rfl
    · unfold some2 at h; rw [h3] at h; cases h
  obtain ⟨N, hN⟩ : ∃ N, N = x.fl.length + x.fd.length := ⟨_, rfl⟩
  rw [← hN] at hw1 HNO
  obtain ⟨c0, c1, c2, c3, c4, c5, c6, c7, c8, c9⟩ := ex_cells H2.out
  clear hno hT hN
  unfold enA at *
  obtain ⟨id, dom, ep, ct, fl, fd, A, n, c, born, next, tries⟩ := x
  simp only [enZ] at *
  go_enter Tryz.func15, Tryz.ntmps15
  go_wp2_with fail
  generalize (w.alloc _).alloc _ = W at *
  go_loopw [5, 4] (fun u s wr => ∃ k : Nat, u = .int .i64 k ∧ s = .bool (some2 g k) ∧ k ≤ n ∧ W = wr) (fun u _ _ => n - (intOf u).toNat)
  case atStart => exact ⟨0, rfl, rfl, by omega, rfl⟩
  case round =>
    obtain ⟨k, rfl, rfl, hk, rfl⟩ := hrel
    by_cases hlt : k < n
    · have hltz : (k : Int) < (n : Int) := by omega
      obtain ⟨b, off, rfl, ⟨t0, t1⟩, t2⟩ := HT.out k hlt
      have HS := Lib.hid (some2_succ g k)
      generalize g k = y at *
      obtain ⟨lo, dm, st⟩ := y
      simp only [] at *
      cases hs : some2 g k with
      | true =>
        rw [hs] at HS
        go_wp2_with fail
        go_roundw
        case rel => exact ⟨k + 1, by go_num, by rw [HS.out]; rfl, by omega, by trivial⟩
        case measure => simp [intOf]; omega
      | false =>
        rw [hs] at HS
        by_cases hst : st = 2
        · subst hst
          go_wp2_with fail
          go_roundw
          case rel => exact ⟨k + 1, by go_num, by rw [HS.out]; rfl, by omega, by trivial⟩
          case measure => simp [intOf]; omega
        · have hstb : (st == 2) = false := beq_false_of_ne hst
          go_wp2_with fail
          go_roundw
          case rel => exact ⟨k + 1, by go_num, by rw [HS.out, decide_eq_false hst]; rfl, by omega, by trivial⟩
          case measure => simp [intOf]; omega
    · have hltz : ¬ (k : Int) < (n : Int) := by omega
      obtain rfl : k = n := by omega
      have g0 := ex_frozen Z2.out 0
      have g1 := ex_frozen Z2.out 1
      have g2 := ex_frozen Z2.out 2
      have g3 := ex_frozen Z2.out 3
      have g4 := ex_frozen Z2.out 4
      have g5 := ex_frozen Z2.out 5
      have g6 := ex_frozen Z2.out 6
      have g7 := ex_frozen Z2.out 7
      have g8 := ex_frozen Z2.out 8
      have g9 := ex_frozen Z2.out 9
      obtain ⟨e0, e1, e2, e3, e4, e5, e6, e7, e8, e9⟩ := ex_cells Z2.out
      simp only [] at e0 e1 e2 e3 e4 e5 e6 e7 e8 e9
      have P5 := Lib.hid (ex_put Z2.out ⟨0, [], 0, 0, [], [], none, 0, 0, 0, 0, 0⟩)
      cases hs : some2 g k with
      | true =>
        obtain rfl := HNO.out hs
        clear HNO
        go_wp2_with fail
        obtain ⟨p0, p1, p2, p3, p4, p5, p6, p7, p8, p9⟩ := ex_cells P5.out
        refine bodyPost_ret (v := .tuple #[.agg (enA enZ), .bool false]) ?_ rfl ⟨rfl, P5.out.bel⟩
        simp [enZ, results, Tryz.results15, go_sem, p0, p1, p2, p3, p4, p5, p6, p7, p8, p9]
      | false =>
        clear HNO
        go_wp2_with fail
        obtain ⟨p0, p1, p2, p3, p4, p5, p6, p7, p8, p9⟩ := ex_cells P5.out
        refine bodyPost_ret (v := .tuple #[.agg (enA enZ), .bool false]) ?_ rfl ⟨rfl, P5.out.bel⟩
        simp [enZ, results, Tryz.results15, go_sem, p0, p1, p2, p3, p4, p5, p6, p7, p8, p9]
theorem own_pos {W : World} {base e size : Nat} {v : Value} {n : Nat} {xs : List Value} (h : W.ownsRow base e size v n xs) (h0 : 0 < n) : ∃ g c, v = .slice (some ⟨g, 0, none⟩) n c ∧ base ≤ g ∧ g < W.heap.size ∧ ∀ j u, xs[j]? = some u → W.cell? ⟨g, j, none⟩ = some u := by
  rcases h.2 with ⟨_, e0⟩ | ⟨g, cc, cu, e, hb, hg, _⟩
  · omega
  · obtain ⟨a, c, ev, _, hf⟩ := own_form h
    obtain ⟨g', e1, hlt, hc⟩ := hf h0
    rw [ev, e1] at e
    simp only [Value.slice.injEq, Option.some.injEq, Addr.mk.injEq] at e
    exact ⟨g', c, by rw [ev, e1], by rw [e.1.1]; exact hb, hlt, hc⟩
theorem ex_row {w W : World} {A : Nat} {x : En} (h : Ex w A x W) (a : Option Addr) (n c : Nat) : Ex w A { x with A := a, n := n, c := c } (W.setCell ⟨A, 6, none⟩ (.slice a n c)) := ⟨Joins.block_setCell (i := 6) h.kp _, h.bel.setCell h.ws _, h.ws⟩
theorem info46 : (Tryz.prog.info? 46).map (fun i => (i.zero, i.size, i.bytes)) = some (some (.agg #[.string ⟨#[]⟩, .string ⟨#[]⟩, .int .i64 0]), 3, 40) := by kernel_rfl
theorem ste_cell (W : World) (B : Nat) (x : En) (g j : Nat) (hg : g ≠ B) : (stE W B x).cell? ⟨g, j, none⟩ = W.cell? ⟨g, j, none⟩ := World.cell?_of_block (w := W) (ste_block W B x g hg)

set_option maxRecDepth 100000 in
set_option maxHeartbeats 8000000 in
theorem rentry_yes (x : En) (g : Nat → To3) (w : World) (hT : Tos w x.A x.n g) (hn : x.n ≤ 1000000) (hl1 : x.fl.length < 4294967281) (hl2 : x.fd.length < 4294967281) (h2 : ¬ (x.fl = [] ∧ x.fd = [])) (hne : fls g x.n ≠ []) :
    Calls Tryz.prog 15 #[.agg (enA x)] w fun e w' => (∃ a c, e = .returned (.tuple #[.agg (enA { bkE x 0 with A := a, c := c }), .bool true]) ∧ Tos w' a 1 (fun _ => ⟨x.fl, x.fd, 0⟩)) ∧ Below w.heap.size w w' := by
  obtain ⟨i0, hi0, hz0, hz1, hz2⟩ := info_parts info46
  have H1 := Lib.hid (ex_new (Below.refl w.heap.size w) x)
  have H2 := Lib.hid (ex_next H1.out ((Below.refl _ _).alloc (Nat.le_refl _) (.cells (enA enZ) 32)))
  have Z2 : Hid (Ex w (w.heap.size + 1) enZ ((w.alloc (.cells (enA x) 32)).alloc (.cells (enA enZ) 32))) := by have q := ex_new H1.out.bel enZ; rw [World.size_alloc] at q; exact q
  have HT := Lib.hid (tos_below (tos_below hT H1.out.bel) ((Below.refl _ _).alloc (Nat.le_refl _) (.cells (enA enZ) 32)))
  have HSZ : Hid (((w.alloc (.cells (enA x) 32)).alloc (.cells (enA enZ) 32)).heap.size = w.heap.size + 2) := by show _ = _; rw [World.size_alloc, World.size_alloc]
  have hw1 : IntKind.i64.wrap ((x.fl.length : Int) + (x.fd.length : Int)) = ((x.fl.length + x.fd.length : Nat) : Int) := by rw [IntKind.wrap_i64]; omega
  have HNO : Hid (some2 g x.n = true) := by
    show _ = _
    unfold some2
    cases h : fls g x.n with
    | nil => exact absurd h hne
    | cons _ _ => rfl
  have hNp : 0 < x.fl.length + x.fd.length := by
    by_cases q1 : x.fl = []
    · have : x.fd ≠ [] := fun q2 => h2 ⟨q1, q2⟩
      have := List.length_pos_iff.2 this
      omega
    · have := List.length_pos_iff.2 q1
      omega
  obtain ⟨N, hN⟩ : ∃ N, N = x.fl.length + x.fd.length := ⟨_, rfl⟩
  rw [← hN] at hw1 hNp
  have hN0 : ((N : Int) == 0) = false := beq_false_of_ne (by omega)
  obtain ⟨c0, c1, c2, c3, c4, c5, c6, c7, c8, c9⟩ := ex_cells H2.out
  clear hne h2 hT hN
  unfold enA at *
  obtain ⟨id, dom, ep, ct, fl, fd, A, n, c, born, next, tries⟩ := x
  simp only [enZ] at *
  go_enter Tryz.func15, Tryz.ntmps15
  go_wp2_with fail
  generalize (w.alloc _).alloc _ = W at *
  go_loopw [5, 4] (fun u s wr => ∃ k : Nat, u = .int .i64 k ∧ s = .bool (some2 g k) ∧ k ≤ n ∧ W = wr) (fun u _ _ => n - (intOf u).toNat)
  case atStart => exact ⟨0, rfl, rfl, by omega, rfl⟩
  case round =>
    obtain ⟨k, rfl, rfl, hk, rfl⟩ := hrel
    by_cases hlt : k < n
    · have hltz : (k : Int) < (n : Int) := by omega
      obtain ⟨b, off, rfl, ⟨t0, t1⟩, t2⟩ := HT.out k hlt
      have HS := Lib.hid (some2_succ g k)
      generalize g k = y at *
      obtain ⟨lo, dm, st⟩ := y
      simp only [] at *
      cases hs : some2 g k with
      | true =>
        rw [hs] at HS
        go_wp2_with fail
        go_roundw
        case rel => exact ⟨k + 1, by go_num, by rw [HS.out]; rfl, by omega, by trivial⟩
        case measure => simp [intOf]; omega
      | false =>
        rw [hs] at HS
        by_cases hst : st = 2
        · subst hst
          go_wp2_with fail
          go_roundw
          case rel => exact ⟨k + 1, by go_num, by rw [HS.out]; rfl, by omega, by trivial⟩
          case measure => simp [intOf]; omega
        · have hstb : (st == 2) = false := beq_false_of_ne hst
          go_wp2_with fail
          go_roundw
          case rel => exact ⟨k + 1, by go_num, by rw [HS.out, decide_eq_false hst]; rfl, by omega, by trivial⟩
          case measure => simp [intOf]; omega
    · have hltz : ¬ (k : Int) < (n : Int) := by omega
      obtain rfl : k = n := by omega
      rw [HNO.out]
      have EC1 := Lib.hid (ex_new H2.out.bel ⟨0, dom, 0, 0, [], [], none, 0, 0, born, next, 0⟩)
      have EC2 := Lib.hid (ex_next EC1.out ((Below.refl _ _).alloc (Nat.le_refl _) (.cells (bkA fl fd 0) 46)))
      have EZ2 := Lib.hid (ex_next (ex_next Z2.out ((Below.refl _ _).alloc (Nat.le_refl _) (.cells (enA ⟨0, dom, 0, 0, [], [], none, 0, 0, born, next, 0⟩) 32))) ((Below.refl _ _).alloc (Nat.le_refl _) (.cells (bkA fl fd 0) 46)))
      have HNEW : ∀ j u, ([.string ⟨fl.toArray⟩, .string ⟨fd.toArray⟩, .int .i64 0] : List Value)[j]? = some u → ((W.alloc (.cells (enA ⟨0, dom, 0, 0, [], [], none, 0, 0, born, next, 0⟩) 32)).alloc (.cells (bkA fl fd 0) 46)).cell? ((⟨W.heap.size + 1, 0, none⟩ : Addr).add j) = some u := fun j u hu => by
        rw [add_off, Nat.zero_add]
        have q := World.cell?_alloc_new (W.alloc (.cells (enA ⟨0, dom, 0, 0, [], [], none, 0, 0, born, next, 0⟩) 32)) (bkA fl fd 0) 46 j
        rw [World.size_alloc] at q
        rw [q]
        match j, hu with
        | 0, hu => exact hu
        | 1, hu => exact hu
        | 2, hu => exact hu
      have HNEWH := Lib.hid HNEW
      obtain ⟨d0, d1, d2, d3, d4, d5, d6, d7, d8, d9⟩ := ex_cells (ex_next H2.out ((Below.refl _ _).alloc (Nat.le_refl _) (.cells (enA ⟨0, dom, 0, 0, [], [], none, 0, 0, born, next, 0⟩) 32)))
      simp only [] at d4 d5
      clear HNEW HT d0 d1 d2 d3 d6 d7 d8 d9
      go_wp2_with (at_builtin; go_must (refine wpList_append_own _ rfl (.tmp 47) (.tmp 51) 30 rfl (w.heap.size + 3) 46 i0 _ 3 40 Tryz.underlying30 hi0 hz0 hz1 hz2 rfl (by decide) (.slice none 0 0) 0 [] rfl ⟨rfl, Or.inl ⟨rfl, rfl⟩⟩ ⟨W.heap.size + 1, 0, none⟩ 1 1 [.string ⟨fl.toArray⟩, .string ⟨fd.toArray⟩, .int .i64 0] rfl rfl ?x1 ?x2 ?x3 ?x4 ?x5 ?_))
      case x2 => exact ⟨rfl, rfl, rfl⟩
      case x3 => unfold maxLen; omega
      case x5 => have := HSZ.out; omega
      intro v' w1 hown hgrow _
      obtain ⟨gr, cr, rfl, hgb, hglt, hcells⟩ := own_pos hown (by omega)
      have hbw := (Below.refl ((W.alloc (.cells (enA ⟨0, dom, 0, 0, [], [], none, 0, 0, born, next, 0⟩) 32)).alloc (.cells (bkA fl fd 0) 46)).heap.size ((W.alloc (.cells (enA ⟨0, dom, 0, 0, [], [], none, 0, 0, born, next, 0⟩) 32)).alloc (.cells (bkA fl fd 0) 46))).grown hgrow (Nat.le_refl _) (fun q hq => by cases hq)
      have EC3 := Lib.hid (ex_next EC2.out hbw)
      have EZ3 := Lib.hid (ex_next EZ2.out hbw)
      have HR0 : Hid (w1.cell? ⟨gr, 0, none⟩ = some (.string ⟨fl.toArray⟩) ∧ w1.cell? ⟨gr, 1, none⟩ = some (.string ⟨fd.toArray⟩) ∧ w1.cell? ⟨gr, 2, none⟩ = some (.int .i64 0)) := ⟨hcells 0 _ rfl, hcells 1 _ rfl, hcells 2 _ rfl⟩
      have EC4 := Lib.hid (ex_row EC3.out (some ⟨gr, 0, none⟩) 1 cr)
      have hne1 : W.heap.size ≠ w.heap.size + 1 := by have := HSZ.out; omega
      have hle1 : w.heap.size ≤ W.heap.size := by have := HSZ.out; omega
      have EZ4 := Lib.hid (ex_other EZ3.out (p := ⟨W.heap.size, 6, none⟩) hne1 hle1 (.slice (some ⟨gr, 0, none⟩) 1 cr))
      have P5 := Lib.hid (ex_put EZ4.out ⟨0, dom, 0, 0, [], [], some ⟨gr, 0, none⟩, 1, cr, born, next, 0⟩)
      have hgw := HSZ.out
      have HTS : Hid (Tos (stE (w1.setCell ⟨W.heap.size, 6, none⟩ (.slice (some ⟨gr, 0, none⟩) 1 cr)) (w.heap.size + 1) ⟨0, dom, 0, 0, [], [], some ⟨gr, 0, none⟩, 1, cr, born, next, 0⟩) (some ⟨gr, 0, none⟩) 1 (fun _ => ⟨fl, fd, 0⟩)) := fun k hk => by
        obtain rfl : k = 0 := by omega
        have hx : ∀ j u, w1.cell? ⟨gr, j, none⟩ = some u → (stE (w1.setCell ⟨W.heap.size, 6, none⟩ (.slice (some ⟨gr, 0, none⟩) 1 cr)) (w.heap.size + 1) ⟨0, dom, 0, 0, [], [], some ⟨gr, 0, none⟩, 1, cr, born, next, 0⟩).cell? ⟨gr, j, none⟩ = some u := fun j u hu => by
          rw [ste_cell _ _ _ _ _ (by omega), World.cell?_setCell_far _ _ _ _ (by show W.heap.size ≠ gr; omega)]
          exact hu
        exact ⟨gr, 0, rfl, ⟨hx 0 _ HR0.out.1, hx 1 _ HR0.out.2.1⟩, hx 2 _ HR0.out.2.2⟩
      clear hown hgrow hbw hcells hgb hglt hgw hne1 hle1 d4 d5
      obtain ⟨_, _, _, _, _, _, k6, _, _, _⟩ := ex_cells EC3.out
      have kf := ex_frozen EC3.out 6
      obtain ⟨m0, m1, m2, m3, m4, m5, m6, m7, m8, m9⟩ := ex_cells EC4.out
      obtain ⟨z0, z1, z2, z3, z4, z5, z6, z7, z8, z9⟩ := ex_cells EZ4.out
      have y0 := ex_frozen EZ4.out 0
      have y1 := ex_frozen EZ4.out 1
      have y2 := ex_frozen EZ4.out 2
      have y3 := ex_frozen EZ4.out 3
      have y4 := ex_frozen EZ4.out 4
      have y5 := ex_frozen EZ4.out 5
      have y6 := ex_frozen EZ4.out 6
      have y7 := ex_frozen EZ4.out 7
      have y8 := ex_frozen EZ4.out 8
      have y9 := ex_frozen EZ4.out 9
      simp only [] at k6 m0 m1 m2 m3 m4 m5 m6 m7 m8 m9 z0 z1 z2 z3 z4 z5 z6 z7 z8 z9
      go_wp2_with fail
      obtain ⟨p0, p1, p2, p3, p4, p5, p6, p7, p8, p9⟩ := ex_cells P5.out
      refine bodyPost_ret (v := .tuple #[.agg (enA ⟨0, dom, 0, 0, [], [], some ⟨gr, 0, none⟩, 1, cr, born, next, 0⟩), .bool true]) ?_ rfl ⟨⟨_, ⟨_, rfl⟩, HTS.out⟩, P5.out.bel⟩
      simp [results, Tryz.results15, go_sem, p0, p1, p2, p3, p4, p5, p6, p7, p8, p9]
end Go.Proofs.YtkchebbolldmbaaGreatDoor
set_option linter.unusedVariables false
namespace Go.Proofs.YtkchebbolldmbaaGreatDoor
open Go.RowKit
abbrev finB : ByteArray := ⟨#[70, 105, 110, 97, 108, 45, 82, 101, 99, 105, 112, 105, 101, 110, 116, 58, 32, 114, 102, 99, 56, 50, 50, 59, 32]⟩
theorem fin_short (X : ByteArray) (h : ¬ 25 ≤ X.size) : Bnc.fd1 X.data.toList = [] := by
  apply fd1_no
  have q := Lib.hasPrefix_raw X finB
  have e : decide (finB.size ≤ X.size) = false := decide_eq_false h
  rw [e, Bool.false_and] at q
  exact q.symm
theorem fin_other (X : ByteArray) (h : ((X.extract 0 25).toList == Bnc.fin) = false) : Bnc.fd1 X.data.toList = [] := by
  apply fd1_no
  have q := Lib.hasPrefix_raw X finB
  have e : ((X.extract 0 finB.size).toList == finB.toList) = false := by rw [show finB.toList = Bnc.fin from by rw [ByteArray.toList_eq]; rfl]; exact h
  rw [e, Bool.and_false] at q
  exact q.symm
theorem fin_hit (X : ByteArray) (h : 25 ≤ X.size) (h2 : ((X.extract 0 25).toList == Bnc.fin) = true) : Lib.hasPrefix X.data.toList Bnc.fin = true ∧ Lib.trimPrefix X.data.toList Bnc.fin = (X.extract 25 X.size).data.toList := by
  have e : ((X.extract 0 finB.size).toList == finB.toList) = true := by rw [show finB.toList = Bnc.fin from by rw [ByteArray.toList_eq]; rfl]; exact h2
  have q := Lib.hasPrefix_raw X finB
  have e1 : decide (finB.size ≤ X.size) = true := decide_eq_true h
  rw [e1, e, Bool.and_true] at q
  have z := Lib.trimPrefix_hit X finB h e
  refine ⟨q.symm, ?_⟩
  have z2 := congrArg (fun b : ByteArray => b.data.toList) z
  exact z2

set_option maxRecDepth 100000 in
set_option maxHeartbeats 8000000 in
theorem rfailed_any (s : ByteArray) (m : Int) (w : World) (hs : s.size < 4294967200) (hm : w.cell? ⟨3, 0, none⟩ = some (.int .i64 m)) :
    Calls Tryz.prog 19 #[.string s] w fun e w' => (∃ v, e = .returned v ∧ Aow w' w.heap.size v (Bnc.fds s.data.toList)) ∧ Below w.heap.size w w' := by
  obtain ⟨i0, hi0, hz0, hz1, hz2⟩ := info_parts info24
  have HS := Lib.hid (rlines_any s w (by omega))
  have hsz := Lib.size_eq s
  have hlen := Bnc.lns_len s.data.toList
  have hLl : (Bnc.lns s.data.toList).length ≤ 4294967200 := by omega
  have HX : Hid (∀ x ∈ Bnc.lns s.data.toList, x.length < 4294967200) := fun x hx => by
    have := Bnc.lns_mem_len s.data.toList x hx
    omega
  have HFF : Hid (Bnc.fds s.data.toList = (Bnc.lns s.data.toList).flatMap Bnc.fd1) := rfl
  have HMM := Lib.hid (fun (W : World) (h : Below w.heap.size w W) => (show W.cell? ⟨3, 0, none⟩ = some (.int .i64 m) from by rw [h.cell (World.block_lt_of_cell? _ _ hm)]; exact hm))
  clear hlen hsz hm
  generalize Bnc.fds s.data.toList = R at *
  generalize Bnc.lns s.data.toList = L at *
  have HCN : Hid (∀ k, ((L.take k).flatMap Bnc.fd1).length ≤ k) := fun k => flat_le L Bnc.fd1 (fun x _ => fd1_len x) k
  go_enter Tryz.func19, Tryz.ntmps19
  go_wp2_with fail
  refine HS.out.mono ?_
  rintro e w1 ⟨⟨v, rfl, ho⟩, hb⟩
  obtain ⟨A, c, rfl, hle, hT⟩ := tow_txs ho
  have HT1 := Lib.hid hT
  have HB1 := Lib.hid hb
  have HO0 : Hid (Aow (w1.alloc (.cells #[] 29)) w1.heap.size (.slice (some ⟨w1.heap.size, 0, none⟩) 0 0) ((L.take 0).flatMap Bnc.fd1)) := World.ownsRow_lit w1 #[] 0 (Nat.le_refl _) (Nat.zero_le _) rfl
  have HBS := Lib.hid (hb.alloc hb.size (.cells #[] 29))
  clear ho hb hT HS hs
  go_wp2_with fail
  go_loopw [6, 4] (fun u v wr => ∃ k : Nat, u = .int .i64 k ∧ k ≤ L.length ∧ Hid (Aow wr w1.heap.size v ((L.take k).flatMap Bnc.fd1)) ∧ Hid (Below w.heap.size w wr) ∧ Hid (Below w1.heap.size w1 wr)) (fun u _ _ => L.length - (intOf u).toNat)
  case atStart => exact ⟨0, rfl, by omega, HO0, HBS, (Below.refl _ _).alloc (Nat.le_refl _) _⟩
  case round =>
    clear HO0 HBS
    obtain ⟨k, rfl, hk, HO, HB, HBB⟩ := hrel
    by_cases hlt : k < L.length
    · have hltz : (k : Int) < (L.length : Int) := by omega
      obtain ⟨b, off, rfl, t0'⟩ := HT1.out k hlt
      have t0 : wr.cell? ⟨b, off + k, none⟩ = some (.string ⟨(at' L k).toArray⟩) := by rw [HBB.out.cell (World.block_lt_of_cell? _ _ t0')]; exact t0'
      have hsz := HB.out.size
      have e0 := at_get L k hlt
      have h1 := HX.out L[k] (List.getElem_mem hlt)
      have HF := Lib.hid (take_flat L Bnc.fd1 k hlt)
      rw [← e0] at h1 HF
      have hcnt := HCN.out k
      have hm1 := HMM.out wr HB.out
      obtain ⟨X, hX⟩ : ∃ X : ByteArray, X = ⟨(at' L k).toArray⟩ := ⟨_, rfl⟩
      have hXd : X.data.toList = at' L k := by rw [hX]
      have hXs : X.size < 4294967200 := by rw [hX, size_mk]; exact h1
      rw [← hX] at t0
      rw [← hXd] at HF
      clear t0' e0 h1 hX hXd
      generalize (L.take k).flatMap Bnc.fd1 = P0 at *
      by_cases h25 : (X.size : Int) < 25
      · have HQ := Lib.hid (fin_short X (by omega))
        have HT5 : Hid (Aow wr w1.heap.size u4 ((L.take (k + 1)).flatMap Bnc.fd1)) := by
          show Aow _ _ _ _
          rw [HF.out, HQ.out, List.append_nil]
          exact HO.out
        go_wp2_with fail
        go_roundw
        case rel => exact ⟨k + 1, by go_num, by omega, HT5, HB, HBB⟩
        case measure => simp [intOf]; omega
      have h25n : (25 : Int) ≤ (X.size : Int) := by omega
      cases hpre : ((X.extract 0 25).toList == Bnc.fin) with
      | false =>
        have HQ := Lib.hid (fin_other X hpre)
        have hpre2 : ((X.extract 0 25).toList != Bnc.fin) = true := by rw [bne, hpre]; rfl
        unfold Bnc.fin at hpre hpre2
        have HT5 : Hid (Aow wr w1.heap.size u4 ((L.take (k + 1)).flatMap Bnc.fd1)) := by
          show Aow _ _ _ _
          rw [HF.out, HQ.out, List.append_nil]
          exact HO.out
        go_wp2_with fail
        go_roundw
        case rel => exact ⟨k + 1, by go_num, by omega, HT5, HB, HBB⟩
        case measure => simp [intOf]; omega
      | true =>
      obtain ⟨hh1, hh2⟩ := fin_hit X (by omega) hpre
      have hpre2 : ((X.extract 0 25).toList != Bnc.fin) = false := by rw [bne, hpre]; rfl
      unfold Bnc.fin at hpre hpre2
      have hzl : (X.extract 25 X.size).size ≤ X.size := by simp [ByteArray.size_extract]
      obtain ⟨z, hz⟩ : ∃ z, z = (X.extract 25 X.size).data.toList := ⟨_, rfl⟩
      rw [← hz] at hh2
      have hZ : X.extract 25 X.size = ⟨z.toArray⟩ := by rw [hz, Array.toArray_toList]
      rw [hZ, size_mk] at hzl
      have HNO := Lib.hid (@fd1_no X.data.toList)
      have HBAD := Lib.hid (@fd1_bad X.data.toList)
      have HAT := Lib.hid (fun l d => @fd1_at X.data.toList l d)
      rw [hh2] at HBAD HAT
      generalize Bnc.fd1 X.data.toList = R1 at *
      have HP := Lib.hid (rparse_any (⟨(60 :: (z ++ [62])).toArray⟩) m wr (by rw [size_mk]; simp only [List.length_cons, List.length_append, List.length_nil]; omega) hm1)
      obtain ⟨l, d, e, hpv, hl, hd, he0, he1⟩ := parse_form (60 :: (z ++ [62]))
      rw [show (⟨(60 :: (z ++ [62])).toArray⟩ : ByteArray).data.toList = 60 :: (z ++ [62]) from rfl, hpv] at HP
      have HW := Lib.hid (fun (W : World) (h : Below w.heap.size w W) => rwrite_any l d m W hl hd (HMM.out W h))
      obtain ⟨q, f, hwv, hql, hf0, hf1⟩ := write_form l d
      rw [hwv] at HW
      have HE0 := Lib.hid he0
      have HE1 := Lib.hid he1
      have HF0 := Lib.hid hf0
      have HF1 := Lib.hid hf1
      have HH1 := Lib.hid hh1
      clear he0 he1 hf0 hf1 hpv hwv hm1 hl hd hz hh1 hh2
      have e1 : (⟨#[60]⟩ : ByteArray) ++ ⟨z.toArray⟩ ++ ⟨#[62]⟩ = ⟨(60 :: (z ++ [62])).toArray⟩ := by
        have h1 : (⟨#[60]⟩ : ByteArray) ++ ⟨z.toArray⟩ = ⟨([60] ++ z).toArray⟩ := mk_append [60] z
        have h2 : (⟨([60] ++ z).toArray⟩ : ByteArray) ++ ⟨#[62]⟩ = ⟨(([60] ++ z) ++ [62]).toArray⟩ := mk_append ([60] ++ z) [62]
        rw [h1, h2]; rfl
      rw [← e1] at HP
      clear e1
      unfold bxV sV at *
      have hqz := str_beq q z
      go_wp2_with fail
      refine HP.out.mono ?_
      rintro e' w2 ⟨rfl, hb⟩
      have HB2 := Lib.hid (HB.out.trans (hb.mono hsz))
      have hs2 := HB2.out.size
      have HB3 := Lib.hid (HB2.out.alloc hs2 (.cells #[.string ⟨l.toArray⟩, .string ⟨d.toArray⟩] 63))
      have HL2 := Lib.hid ((hb.mono (Nat.le_refl _)).alloc hb.size (.cells #[.string ⟨l.toArray⟩, .string ⟨d.toArray⟩] 63))
      have HC2 := Lib.hid (cell_two w2 (.string ⟨l.toArray⟩) (.string ⟨d.toArray⟩) 63)
      obtain ⟨q0, q1⟩ := HC2.out
      clear hb HP
      go_wp2_with fail
      refine (HW.out _ HB3.out).mono ?_
      rintro e' w4 ⟨rfl, hb⟩
      have HB4 := Lib.hid (HB3.out.trans (hb.mono HB3.out.size))
      have HLL := Lib.hid (HL2.out.trans (hb.mono HL2.out.size))
      have HBB4 := Lib.hid (HBB.out.trans (HLL.out.mono HBB.out.size))
      have HO4 : Hid (Aow w4 w1.heap.size u4 P0) := aow_below HO.out HLL.out
      obtain ⟨c0, c1⟩ := two_keep HC2.out hb
      have hs4 := HB4.out.size
      have hz4 := HBB4.out.size
      clear hb HC2 q0 q1 HW HB2 HB3 HL2 HLL HB HBB HO hs2 hsz t0 hpre hpre2 hZ
      by_cases he : e = 0
      case neg =>
        have HR := Lib.hid (HBAD.out (HE1.out he))
        have he2 : (e == 0) = false := beq_false_of_ne he
        clear HNO HBAD HAT HE0 HE1 HF0 HF1 hqz he
        have HT5 : Hid (Aow w4 w1.heap.size u4 ((L.take (k + 1)).flatMap Bnc.fd1)) := by
          show Aow _ _ _ _
          rw [HF.out, HR.out, List.append_nil]
          exact HO4.out
        go_wp2_with fail
        go_roundw
        case rel => exact ⟨k + 1, by go_num, by omega, HT5, HB4, HBB4⟩
        case measure => simp [intOf]; omega
      have HRR := Lib.hid (HAT.out l d HH1.out (HE0.out he))
      subst he
      by_cases hf : f = 0
      case neg =>
        have hy := HF1.out hf
        have HR : Hid (R1 = []) := by show _ = _; rw [HRR.out, if_neg (fun h => by rw [hy] at h; exact Bool.noConfusion h.1)]
        have hf2 : (f == 0) = false := beq_false_of_ne hf
        clear HNO HBAD HAT HE0 HE1 HF0 HF1 HRR hqz hf hy
        have HT5 : Hid (Aow w4 w1.heap.size u4 ((L.take (k + 1)).flatMap Bnc.fd1)) := by
          show Aow _ _ _ _
          rw [HF.out, HR.out, List.append_nil]
          exact HO4.out
        go_wp2_with fail
        go_roundw
        case rel => exact ⟨k + 1, by go_num, by omega, HT5, HB4, HBB4⟩
        case measure => simp [intOf]; omega
      obtain ⟨hy, hqe⟩ := HF0.out hf
      subst hf
      by_cases hq2 : q = z
      case neg =>
        have HR : Hid (R1 = []) := by show _ = _; rw [HRR.out, if_neg (fun h => hq2 (hqe.trans h.2))]
        have hq3 : (q == z) = false := beq_false_of_ne hq2
        clear HNO HBAD HAT HE0 HE1 HF0 HF1 HRR hy hq2 hqe
        have HT5 : Hid (Aow w4 w1.heap.size u4 ((L.take (k + 1)).flatMap Bnc.fd1)) := by
          show Aow _ _ _ _
          rw [HF.out, HR.out, List.append_nil]
          exact HO4.out
        go_wp2_with fail
        go_roundw
        case rel => exact ⟨k + 1, by go_num, by omega, HT5, HB4, HBB4⟩
        case measure => simp [intOf]; omega
      have HR : Hid (R1 = [(l, d)]) := by show _ = _; rw [HRR.out, if_pos ⟨hy, hqe.symm.trans hq2⟩]
      have hq3 : (q == z) = true := beq_iff_eq.2 hq2
      have HO5 := Lib.hid (World.ownsRow.alloc HO4.out (.cells #[.string ⟨l.toArray⟩, .string ⟨d.toArray⟩] 29))
      have F2 := Lib.hid (cell_two_one w4 (.string ⟨l.toArray⟩) (.string ⟨d.toArray⟩) 29)
      clear HNO HBAD HAT HE0 HE1 HF0 HF1 HRR hy hq2 hqe
      go_wp2_with (at_builtin; go_must (refine wpList_append_own _ rfl (.tmp 70) (.tmp 76) 41 rfl w1.heap.size 29 i0 (.agg #[.string ⟨#[]⟩, .string ⟨#[]⟩]) 2 32 Tryz.underlying41 hi0 hz0 hz1 hz2 rfl (by decide) _ _ _ rfl HO5.out ⟨w4.heap.size, 0, none⟩ 1 1 [.string ⟨l.toArray⟩, .string ⟨d.toArray⟩] rfl rfl ?x1 ?x2 ?x3 ?x4 ?x5 ?_))
      case x1 => exact F2.out
      case x2 => intro u hu; simp only [List.mem_cons, List.not_mem_nil, or_false] at hu; rcases hu with rfl | rfl <;> rfl
      case x3 => unfold maxLen; omega
      case x4 => omega
      case x5 => simp only [World.size_alloc]; omega
      intro v' w5 hown hgrow _
      have HT5 : Hid (Aow w5 w1.heap.size v' ((L.take (k + 1)).flatMap Bnc.fd1)) := by
        show Aow _ _ _ _
        rw [HF.out, HR.out]
        unfold Aow
        rw [List.length_append, List.flatMap_append]
        exact hown
      have HBB5 := Lib.hid ((HBB4.out.alloc hz4 _).grown hgrow (by simp only [World.size_alloc]; omega) (fun q hq => (HO4.out.lt q hq).1))
      have HB5 := Lib.hid (HB1.out.trans (HBB5.out.mono HB1.out.size))
      clear hown hgrow
      go_wp2
      go_roundw
      case rel => exact ⟨k + 1, by go_num, by omega, HT5, HB5, HBB5⟩
      case measure => simp [intOf]; omega
    · have hltz : ¬ (k : Int) < (L.length : Int) := by omega
      obtain rfl : k = L.length := by omega
      rw [List.take_length] at HO
      go_wp2_with fail
      go_ret
      exact ⟨⟨_, rfl, by rw [HFF.out]; exact aow_mono HO.out HB1.out.size⟩, HB.out⟩
end Go.Proofs.YtkchebbolldmbaaGreatDoor
set_option linter.unusedVariables false
namespace Go.Proofs.YtkchebbolldmbaaGreatDoor
open Go.RowKit
/-- Two rows of texts of the call's own, in blocks of their own. -/
structure Tt (W : World) (base : Nat) (u v : Value) (N S : List (List UInt8)) : Prop where
  n : Tow W base u N
  s : Tow W base v S
  ne : ∀ q, u.ownBlock = some q → v.ownBlock = some q → False
theorem tt_below {W W1 : World} {base : Nat} {u v : Value} {N S : List (List UInt8)} (h : Tt W base u v N S) (g : Below W.heap.size W W1) : Tt W1 base u v N S := ⟨tow_below h.n g, tow_below h.s g, h.ne⟩
theorem tt_swap {W : World} {base : Nat} {u v : Value} {N S : List (List UInt8)} (h : Tt W base u v N S) : Tt W base v u S N := ⟨h.s, h.n, fun q h1 h2 => h.ne q h2 h1⟩
theorem tt_left {W W1 : World} {base : Nat} {u v u' : Value} {N S N' : List (List UInt8)} (h : Tt W base u v N S) (hg : W.grownBy W1 u.ownBlock) (hn : Tow W1 base u' N') (hat : u'.ownBlock = u.ownBlock ∨ u'.ownBlock = some W.heap.size) : Tt W1 base u' v N' S := by
  refine ⟨hn, World.ownsRow.kept h.s hg ?_, fun q h1 h2 => ?_⟩
  · cases hv : v.ownBlock with
    | none => exact Or.inl rfl
    | some q => exact Or.inr (fun e => h.ne q e.symm hv)
  · rcases hat with e | e
    · exact h.ne q (e ▸ h1) h2
    · have hlt := (World.ownsRow.lt h.s q h2).2
      rw [e] at h1
      cases h1
      omega
/-- A mailbox's text, or none. -/
def wq (l d : List UInt8) : List UInt8 := if Adr.mayB l d = true then Adr.wrt l d else []
theorem wrt_eq (l d : List UInt8) : wrtV l d = .tuple #[sV (wq l d), .int .i64 (if Adr.mayB l d = true then 0 else 2)] := by
  unfold wrtV wq
  split <;> rfl
theorem wq_len (l d : List UInt8) : (wq l d).length ≤ 400 := by
  unfold wq
  split
  · exact wrt_len (by assumption)
  · exact Nat.zero_le _
def nmq (p : Bxp) : List (List UInt8) := [60 :: (wq p.1 p.2 ++ [62])]
def stq (p : Bxp) : List (List UInt8) := [[], Bnc.fin ++ wq p.1 p.2, Bnc.act, Bnc.sta]
theorem fm_congr {α β : Type} (l : List α) (φ ψ : α → List β) (h : ∀ x ∈ l, φ x = ψ x) : l.flatMap φ = l.flatMap ψ := by
  induction l with
  | nil => rfl
  | cons a l ih => rw [List.flatMap_cons, List.flatMap_cons, h a (List.mem_cons_self ..), ih (fun x hx => h x (List.mem_cons_of_mem _ hx))]
theorem nmq_all {l : List Bxp} (h : ∀ p ∈ l, Adr.mayB p.1 p.2 = true) : l.flatMap nmq = l.flatMap Bnc.nm := fm_congr l nmq Bnc.nm (fun p hp => by unfold nmq wq Bnc.nm; rw [if_pos (h p hp)])
theorem stq_all {l : List Bxp} (h : ∀ p ∈ l, Adr.mayB p.1 p.2 = true) : l.flatMap stq = l.flatMap Bnc.stl := fm_congr l stq Bnc.stl (fun p hp => by unfold stq wq Bnc.stl; rw [if_pos (h p hp)])
theorem bsz {B : Nat} {a w : World} (h : Below B a w) (e : a.heap.size = B) : B ≤ w.heap.size := e ▸ h.size
theorem tow_is {W : World} {base : Nat} {v : Value} {Z : List (List UInt8)} {n : Nat} {xs : List Value} (h : W.ownsRow base 9 1 v n xs) (e1 : n = Z.length) (e2 : xs = Z.map sV) : Tow W base v Z := by
  subst e1 e2
  exact h
theorem cell_new_row (w : World) (xs : List Value) (t : TypeId) : ∀ j u, xs[j]? = some u → (w.alloc (.cells xs.toArray t)).cell? ((⟨w.heap.size, 0, none⟩ : Addr).add j) = some u := fun j u hu => by
  rw [add_off, Nat.zero_add, World.cell?_alloc_new]
  simpa using hu

set_option maxRecDepth 100000 in
set_option maxHeartbeats 16000000 in
theorem rreport_any (host : ByteArray) (x : En) (g : Nat → To3) (m : Int) (w : World) (hT : Tos w x.A x.n g) (hn : x.n ≤ 1000) (hfl : x.fl.length < 4294967281) (hfd : x.fd.length < 4294967281) (hto : ∀ k, k < x.n → (g k).lo.length < 4294967281 ∧ (g k).dm.length < 4294967281) (hh : host.size < 4611686018427387904) (hm : w.cell? ⟨3, 0, none⟩ = some (.int .i64 m)) :
    Calls Tryz.prog 13 #[.string host, .agg (enA x)] w fun e w' => e = .returned (repV host.data.toList x.fl x.fd (fls g x.n)) ∧ Below w.heap.size w w' := by
  obtain ⟨i0, hi0, hz0, hz1, hz2⟩ := info_parts info9b
  have H1 := Lib.hid (ex_new (Below.refl w.heap.size w) x)
  obtain ⟨c0, c1, c2, c3, c4, c5, c6, c7, c8, c9⟩ := ex_cells H1.out
  have HT := Lib.hid (tos_below hT H1.out.bel)
  have HMM := Lib.hid (fun (W : World) (h : Below w.heap.size w W) => (show W.cell? ⟨3, 0, none⟩ = some (.int .i64 m) from by rw [h.cell (World.block_lt_of_cell? _ _ hm)]; exact hm))
  have HTO := Lib.hid hto
  have HFM : Hid (∀ p ∈ fls g x.n, p.1.length < 4294967281 ∧ p.2.length < 4294967281) := fun p hp => by obtain ⟨k, hk, rfl⟩ := fls_mem hp; exact hto k hk
  have HB0w := Lib.hid H1.out.bel
  have hw1 : IntKind.i64.wrap ((x.fl.length : Int) + (x.fd.length : Int)) = ((x.fl.length + x.fd.length : Nat) : Int) := by rw [IntKind.wrap_i64]; omega
  have HNN : Hid (x.fl.length + x.fd.length = 0 ↔ (x.fl = [] ∧ x.fd = [])) := by
    show _ ↔ _
    constructor
    · intro h; exact ⟨List.length_eq_zero_iff.1 (by omega), List.length_eq_zero_iff.1 (by omega)⟩
    · rintro ⟨h1, h2⟩; rw [h1, h2]; rfl
  obtain ⟨NN, hNN⟩ : ∃ NN, NN = x.fl.length + x.fd.length := ⟨_, rfl⟩
  rw [← hNN] at hw1 HNN
  have HSZ0 : Hid ((w.alloc (.cells (enA x) 32)).heap.size = w.heap.size + 1) := by show _ = _; rw [World.size_alloc]
  obtain ⟨RV, hRV⟩ : ∃ RV, RV = repV host.data.toList x.fl x.fd (fls g x.n) := ⟨_, rfl⟩
  rw [← hRV]
  have HRV := Lib.hid hRV
  clear hRV hT hto hm hNN H1 c0 c1 c2 c3 c7 c8 c9
  unfold enA at *
  obtain ⟨id, dom, ep, ct, fl, fd, A, n, c, born, next, tries⟩ := x
  simp only [] at *
  go_enter Tryz.func13, Tryz.ntmps13
  go_wp2_with fail
  generalize w.alloc _ = W0 at *
  have HR0 : Hid (Tt ((W0.alloc (.cells #[] 9)).alloc (.cells #[] 9)) (w.heap.size + 1) (.slice (some ⟨w.heap.size + 1, 0, none⟩) 0 0) (.slice (some ⟨w.heap.size + 1 + 1, 0, none⟩) 0 0) ((fls g 0).flatMap nmq) ((fls g 0).flatMap stq)) := by
    show Tt _ _ _ _ _ _
    rw [← HSZ0.out]
    have q1 : Tow (W0.alloc (.cells #[] 9)) W0.heap.size (.slice (some ⟨W0.heap.size, 0, none⟩) 0 0) [] := World.ownsRow_lit W0 #[] 0 (Nat.le_refl _) (Nat.zero_le _) rfl
    have q2 : Tow ((W0.alloc (.cells #[] 9)).alloc (.cells #[] 9)) W0.heap.size (.slice (some ⟨(W0.alloc (.cells #[] 9)).heap.size, 0, none⟩) 0 0) [] := World.ownsRow_lit (W0.alloc (.cells #[] 9)) #[] 0 (by rw [World.size_alloc]; omega) (Nat.zero_le _) rfl
    rw [World.size_alloc] at q2
    refine ⟨tow_below q1 ((Below.refl _ _).alloc (Nat.le_refl _) _), q2, fun q h1 h2 => ?_⟩
    simp only [Value.ownBlock, Option.some.injEq] at h1 h2
    omega
  have HBS : Hid (Below (w.heap.size + 1) W0 ((W0.alloc (.cells #[] 9)).alloc (.cells #[] 9))) := ((Below.refl _ _).alloc (by rw [HSZ0.out]; omega) _).alloc (by rw [World.size_alloc, HSZ0.out]; omega) _
  go_wp2_with fail
  go_loopw [9, 8, 7, 6] (fun i bd st nm wr => ∃ k : Nat, i = .int .i64 k ∧ bd = .bool ((fls g k).any bad) ∧ k ≤ n ∧ Hid (Tt wr (w.heap.size + 1) nm st ((fls g k).flatMap nmq) ((fls g k).flatMap stq)) ∧ Hid (Below (w.heap.size + 1) W0 wr)) (fun i _ _ _ _ => n - (intOf i).toNat)
  case atStart => exact ⟨0, rfl, rfl, by omega, HR0, HBS⟩
  case round =>
    clear HR0 HBS
    obtain ⟨k, rfl, rfl, hk, HR, HB⟩ := hrel
    have hsz := bsz HB.out HSZ0.out
    have d4 : wr.cell? ⟨w.heap.size, 4, none⟩ = some (.string ⟨fl.toArray⟩) := by rw [HB.out.cell (show w.heap.size < w.heap.size + 1 by omega)]; exact c4
    have d5 : wr.cell? ⟨w.heap.size, 5, none⟩ = some (.string ⟨fd.toArray⟩) := by rw [HB.out.cell (show w.heap.size < w.heap.size + 1 by omega)]; exact c5
    have d6 : wr.cell? ⟨w.heap.size, 6, none⟩ = some (.slice A n c) := by rw [HB.out.cell (show w.heap.size < w.heap.size + 1 by omega)]; exact c6
    by_cases hlt : k < n
    · have hltz : (k : Int) < (n : Int) := by omega
      clear d4 d5
      have HT2 := Lib.hid (tos_below HT.out (by rw [HSZ0.out]; exact HB.out))
      obtain ⟨b, off, rfl, ⟨t0, t1⟩, t2⟩ := HT2.out k hlt
      have HF := Lib.hid (fls_succ g k)
      have hll := fls_len g k
      have hb1 := (HTO.out k hlt).1
      have hb2 := (HTO.out k hlt).2
      generalize g k = y at *
      obtain ⟨lo, dm, st⟩ := y
      simp only [] at *
      by_cases hst : st = 2
      case neg =>
        have hstb : (st != 2) = true := bne_iff_ne.2 hst
        have HE : Hid (fls g (k + 1) = fls g k) := by show _ = _; rw [HF.out, if_neg hst, List.append_nil]
        clear HF HT2
        go_wp2_with fail
        go_roundw
        case rel => exact ⟨k + 1, by go_num, by rw [HE.out], by omega, by rw [HE.out]; exact HR, HB⟩
        case measure => simp [intOf]; omega
      subst hst
      rw [if_pos rfl] at HF
      have HC1 := Lib.hid (rbox_any lo dm wr)
      have HC2 := Lib.hid (fun (W : World) (h : Below (w.heap.size + 1) W0 W) => rwrite_any lo dm m W hb1 hb2 (HMM.out W (HB0w.out.trans (h.mono (by omega)))))
      rw [wrt_eq] at HC2
      have hql := wq_len lo dm
      have HE1 : Hid (fls g (k + 1) = fls g k ++ [(lo, dm)]) := HF
      have HBD : Hid ((fls g (k + 1)).any bad = ((fls g k).any bad || bad (lo, dm))) := by show _ = _; rw [HE1.out, List.any_append]; simp
      have HE2 : Hid ((fls g (k + 1)).flatMap nmq = (fls g k).flatMap nmq ++ nmq (lo, dm)) := by show _ = _; rw [HE1.out, List.flatMap_append]; simp
      have HE3 : Hid ((fls g (k + 1)).flatMap stq = (fls g k).flatMap stq ++ stq (lo, dm)) := by show _ = _; rw [HE1.out, List.flatMap_append]; simp
      have HX1 : Hid (nmq (lo, dm) = [60 :: (wq lo dm ++ [62])]) := rfl
      have HX2 : Hid (stq (lo, dm) = [[], Bnc.fin ++ wq lo dm, Bnc.act, Bnc.sta]) := rfl
      obtain ⟨fe, hfe⟩ : ∃ fe : Int, fe = (if Adr.mayB lo dm = true then 0 else 2) := ⟨_, rfl⟩
      rw [← hfe] at HC2
      have HFE : Hid (((fe != 0) : Bool) = bad (lo, dm)) := by
        show _ = _
        rw [hfe]; unfold bad; dsimp only
        cases Adr.mayB lo dm <;> rfl
      have hNl : ((fls g k).flatMap nmq).length ≤ 1000 := by rw [flat_cnt _ nmq 1 (fun _ => rfl)]; omega
      have hSl : ((fls g k).flatMap stq).length ≤ 4000 := by rw [flat_cnt _ stq 4 (fun _ => rfl)]; omega
      clear HF HE1 hfe HT2 hb1 hb2
      generalize wq lo dm = q at *
      generalize bad (lo, dm) = fb at *
      generalize (fls g k).any bad = bd at *
      generalize (fls g k).flatMap nmq = N at *
      generalize (fls g k).flatMap stq = S at *
      generalize nmq (lo, dm) = N1 at *
      generalize stq (lo, dm) = S1 at *
      have E1 : Hid ((⟨#[60]⟩ : ByteArray) ++ ⟨q.toArray⟩ ++ ⟨#[62]⟩ = ⟨(60 :: (q ++ [62])).toArray⟩) := by
        have h1 : (⟨#[60]⟩ : ByteArray) ++ ⟨q.toArray⟩ = ⟨([60] ++ q).toArray⟩ := mk_append [60] q
        have h2 : (⟨([60] ++ q).toArray⟩ : ByteArray) ++ ⟨#[62]⟩ = ⟨(([60] ++ q) ++ [62]).toArray⟩ := mk_append ([60] ++ q) [62]
        show _ = _
        rw [h1, h2]; rfl
      have E2 : Hid ((⟨#[70, 105, 110, 97, 108, 45, 82, 101, 99, 105, 112, 105, 101, 110, 116, 58, 32, 114, 102, 99, 56, 50, 50, 59, 32]⟩ : ByteArray) ++ ⟨q.toArray⟩ = ⟨(Bnc.fin ++ q).toArray⟩) := mk_append Bnc.fin q
      unfold bxV at HC1 HC2
      unfold sV at HC2
      cases bd with
      | true =>
        go_wp2_with fail
        refine HC1.out.mono ?_
        rintro e w1 ⟨rfl, hb⟩
        have HB1 := Lib.hid (HB.out.trans (hb.mono hsz))
        have HR1 := Lib.hid (tt_below HR.out hb)
        clear hb HC1
        go_wp2_with fail
        refine (HC2.out w1 HB1.out).mono ?_
        rintro e w2 ⟨rfl, hb⟩
        have HB2 := Lib.hid (HB1.out.trans (hb.mono (bsz HB1.out HSZ0.out)))
        have HR2 := Lib.hid (tt_below HR1.out hb)
        have hs2 := bsz HB2.out HSZ0.out
        clear hb HC2 HB1 HR1 HB HR t0 t1 t2 d6
        have hfb := HFE.out
        have HB3 := Lib.hid (HB2.out.alloc hs2 (.cells #[.string (⟨#[60]⟩ ++ ⟨q.toArray⟩ ++ ⟨#[62]⟩)] 9))
        have HR3 := Lib.hid (tt_below HR2.out ((Below.refl _ _).alloc (Nat.le_refl _) (.cells #[.string (⟨#[60]⟩ ++ ⟨q.toArray⟩ ++ ⟨#[62]⟩)] 9)))
        have hs3 := bsz HB3.out HSZ0.out
        have HNW := Lib.hid (cell_new_row w2 [.string (⟨#[60]⟩ ++ ⟨q.toArray⟩ ++ ⟨#[62]⟩)] 9)
        go_wp2_with (at_builtin; go_must (refine wpList_append_own_at _ rfl (.tmp 47) (.tmp 51) 47 rfl (w.heap.size + 1) 9 i0 (.string ⟨#[]⟩) 1 16 Tryz.underlying47 hi0 hz0 hz1 hz2 rfl (by decide) _ _ _ rfl HR3.out.n ⟨w2.heap.size, 0, none⟩ 1 1 [.string (⟨#[60]⟩ ++ ⟨q.toArray⟩ ++ ⟨#[62]⟩)] rfl rfl ?x1 ?x2 ?x3 ?x4 ?x5 ?_))
        case x1 => exact HNW.out
        case x2 => first | rfl | (intro u hu; simp only [List.mem_singleton] at hu; subst hu; rfl)
        case x3 => unfold maxLen; omega
        case x4 => omega
        case x5 => exact hs3
        intro v' w5 hown hgrow _ hat
        have hN5 : Tow w5 (w.heap.size + 1) v' (N ++ N1) := by
          rw [HX1.out]
          unfold Tow
          rw [List.length_append, List.map_append]
          rw [E1.out] at hown
          exact hown
        have HB5 := Lib.hid (HB3.out.grown hgrow hs3 (fun q hq => (World.ownsRow.lt HR3.out.n q hq).1))
        have HR5 := Lib.hid (tt_left HR3.out hgrow hN5 (by rw [World.size_alloc]; exact hat))
        have hs5 := bsz HB5.out HSZ0.out
        have HB6 := Lib.hid (HB5.out.alloc hs5 (.cells #[.string ⟨#[]⟩, .string (⟨#[70, 105, 110, 97, 108, 45, 82, 101, 99, 105, 112, 105, 101, 110, 116, 58, 32, 114, 102, 99, 56, 50, 50, 59, 32]⟩ ++ ⟨q.toArray⟩), .string ⟨#[65, 99, 116, 105, 111, 110, 58, 32, 102, 97, 105, 108, 101, 100]⟩, .string ⟨#[83, 116, 97, 116, 117, 115, 58, 32, 53, 46, 48, 46, 48]⟩] 9))
        have HR6 := Lib.hid (tt_below HR5.out ((Below.refl _ _).alloc (Nat.le_refl _) (.cells #[.string ⟨#[]⟩, .string (⟨#[70, 105, 110, 97, 108, 45, 82, 101, 99, 105, 112, 105, 101, 110, 116, 58, 32, 114, 102, 99, 56, 50, 50, 59, 32]⟩ ++ ⟨q.toArray⟩), .string ⟨#[65, 99, 116, 105, 111, 110, 58, 32, 102, 97, 105, 108, 101, 100]⟩, .string ⟨#[83, 116, 97, 116, 117, 115, 58, 32, 53, 46, 48, 46, 48]⟩] 9)))
        have hs6 := bsz HB6.out HSZ0.out
        have HNS := Lib.hid (cell_new_row w5 [.string ⟨#[]⟩, .string (⟨#[70, 105, 110, 97, 108, 45, 82, 101, 99, 105, 112, 105, 101, 110, 116, 58, 32, 114, 102, 99, 56, 50, 50, 59, 32]⟩ ++ ⟨q.toArray⟩), .string ⟨#[65, 99, 116, 105, 111, 110, 58, 32, 102, 97, 105, 108, 101, 100]⟩, .string ⟨#[83, 116, 97, 116, 117, 115, 58, 32, 53, 46, 48, 46, 48]⟩] 9)
        clear hown hgrow hat hN5 HR3 HB3 HNW HB2 HR2
        go_wp2_with (at_builtin; go_must (refine wpList_append_own_at _ rfl (.tmp 53) (.tmp 56) 47 rfl (w.heap.size + 1) 9 i0 (.string ⟨#[]⟩) 1 16 Tryz.underlying47 hi0 hz0 hz1 hz2 rfl (by decide) _ _ _ rfl HR6.out.s ⟨w5.heap.size, 0, none⟩ 4 4 [.string ⟨#[]⟩, .string (⟨#[70, 105, 110, 97, 108, 45, 82, 101, 99, 105, 112, 105, 101, 110, 116, 58, 32, 114, 102, 99, 56, 50, 50, 59, 32]⟩ ++ ⟨q.toArray⟩), .string ⟨#[65, 99, 116, 105, 111, 110, 58, 32, 102, 97, 105, 108, 101, 100]⟩, .string ⟨#[83, 116, 97, 116, 117, 115, 58, 32, 53, 46, 48, 46, 48]⟩] rfl rfl ?x1 ?x2 ?x3 ?x4 ?x5 ?_))
        case x1 => exact HNS.out
        case x2 => first | exact ⟨rfl, rfl, rfl, rfl⟩ | (intro u hu; simp only [List.mem_cons, List.not_mem_nil, or_false] at hu; rcases hu with rfl | rfl | rfl | rfl <;> rfl)
        case x3 => unfold maxLen; omega
        case x4 => omega
        case x5 => exact hs6
        intro v2 w7 hown hgrow _ hat
        have hS7 : Tow w7 (w.heap.size + 1) v2 (S ++ S1) := by
          rw [HX2.out]
          unfold Tow
          rw [List.length_append, List.map_append]
          rw [E2.out] at hown
          exact hown
        have HB7 := Lib.hid (HB6.out.grown hgrow hs6 (fun q hq => (World.ownsRow.lt HR6.out.s q hq).1))
        have HR7 := Lib.hid (tt_swap (tt_left (tt_swap HR6.out) hgrow hS7 (by rw [World.size_alloc]; exact hat)))
        clear hown hgrow hat hS7 HR6 HB6 HNS HB5 HR5
        go_wp2
        go_roundw
        case rel => exact ⟨k + 1, by go_num, by rw [HBD.out]; first | rfl | simp [hfb], by omega, by rw [HE2.out, HE3.out]; exact HR7, HB7⟩
        case measure => simp [intOf]; omega
      | false =>
        go_wp2_with fail
        refine HC1.out.mono ?_
        rintro e w1 ⟨rfl, hb⟩
        have HB1 := Lib.hid (HB.out.trans (hb.mono hsz))
        have HR1 := Lib.hid (tt_below HR.out hb)
        clear hb HC1
        go_wp2_with fail
        refine (HC2.out w1 HB1.out).mono ?_
        rintro e w2 ⟨rfl, hb⟩
        have HB2 := Lib.hid (HB1.out.trans (hb.mono (bsz HB1.out HSZ0.out)))
        have HR2 := Lib.hid (tt_below HR1.out hb)
        have hs2 := bsz HB2.out HSZ0.out
        clear hb HC2 HB1 HR1 HB HR t0 t1 t2 d6
        have hfb := HFE.out
        have HB3 := Lib.hid (HB2.out.alloc hs2 (.cells #[.string (⟨#[60]⟩ ++ ⟨q.toArray⟩ ++ ⟨#[62]⟩)] 9))
        have HR3 := Lib.hid (tt_below HR2.out ((Below.refl _ _).alloc (Nat.le_refl _) (.cells #[.string (⟨#[60]⟩ ++ ⟨q.toArray⟩ ++ ⟨#[62]⟩)] 9)))
        have hs3 := bsz HB3.out HSZ0.out
        have HNW := Lib.hid (cell_new_row w2 [.string (⟨#[60]⟩ ++ ⟨q.toArray⟩ ++ ⟨#[62]⟩)] 9)
        go_wp2_with (at_builtin; go_must (refine wpList_append_own_at _ rfl (.tmp 47) (.tmp 51) 47 rfl (w.heap.size + 1) 9 i0 (.string ⟨#[]⟩) 1 16 Tryz.underlying47 hi0 hz0 hz1 hz2 rfl (by decide) _ _ _ rfl HR3.out.n ⟨w2.heap.size, 0, none⟩ 1 1 [.string (⟨#[60]⟩ ++ ⟨q.toArray⟩ ++ ⟨#[62]⟩)] rfl rfl ?x1 ?x2 ?x3 ?x4 ?x5 ?_))
        case x1 => exact HNW.out
        case x2 => first | rfl | (intro u hu; simp only [List.mem_singleton] at hu; subst hu; rfl)
        case x3 => unfold maxLen; omega
        case x4 => omega
        case x5 => exact hs3
        intro v' w5 hown hgrow _ hat
        have hN5 : Tow w5 (w.heap.size + 1) v' (N ++ N1) := by
          rw [HX1.out]
          unfold Tow
          rw [List.length_append, List.map_append]
          rw [E1.out] at hown
          exact hown
        have HB5 := Lib.hid (HB3.out.grown hgrow hs3 (fun q hq => (World.ownsRow.lt HR3.out.n q hq).1))
        have HR5 := Lib.hid (tt_left HR3.out hgrow hN5 (by rw [World.size_alloc]; exact hat))
        have hs5 := bsz HB5.out HSZ0.out
        have HB6 := Lib.hid (HB5.out.alloc hs5 (.cells #[.string ⟨#[]⟩, .string (⟨#[70, 105, 110, 97, 108, 45, 82, 101, 99, 105, 112, 105, 101, 110, 116, 58, 32, 114, 102, 99, 56, 50, 50, 59, 32]⟩ ++ ⟨q.toArray⟩), .string ⟨#[65, 99, 116, 105, 111, 110, 58, 32, 102, 97, 105, 108, 101, 100]⟩, .string ⟨#[83, 116, 97, 116, 117, 115, 58, 32, 53, 46, 48, 46, 48]⟩] 9))
        have HR6 := Lib.hid (tt_below HR5.out ((Below.refl _ _).alloc (Nat.le_refl _) (.cells #[.string ⟨#[]⟩, .string (⟨#[70, 105, 110, 97, 108, 45, 82, 101, 99, 105, 112, 105, 101, 110, 116, 58, 32, 114, 102, 99, 56, 50, 50, 59, 32]⟩ ++ ⟨q.toArray⟩), .string ⟨#[65, 99, 116, 105, 111, 110, 58, 32, 102, 97, 105, 108, 101, 100]⟩, .string ⟨#[83, 116, 97, 116, 117, 115, 58, 32, 53, 46, 48, 46, 48]⟩] 9)))
        have hs6 := bsz HB6.out HSZ0.out
        have HNS := Lib.hid (cell_new_row w5 [.string ⟨#[]⟩, .string (⟨#[70, 105, 110, 97, 108, 45, 82, 101, 99, 105, 112, 105, 101, 110, 116, 58, 32, 114, 102, 99, 56, 50, 50, 59, 32]⟩ ++ ⟨q.toArray⟩), .string ⟨#[65, 99, 116, 105, 111, 110, 58, 32, 102, 97, 105, 108, 101, 100]⟩, .string ⟨#[83, 116, 97, 116, 117, 115, 58, 32, 53, 46, 48, 46, 48]⟩] 9)
        clear hown hgrow hat hN5 HR3 HB3 HNW HB2 HR2
        go_wp2_with (at_builtin; go_must (refine wpList_append_own_at _ rfl (.tmp 53) (.tmp 56) 47 rfl (w.heap.size + 1) 9 i0 (.string ⟨#[]⟩) 1 16 Tryz.underlying47 hi0 hz0 hz1 hz2 rfl (by decide) _ _ _ rfl HR6.out.s ⟨w5.heap.size, 0, none⟩ 4 4 [.string ⟨#[]⟩, .string (⟨#[70, 105, 110, 97, 108, 45, 82, 101, 99, 105, 112, 105, 101, 110, 116, 58, 32, 114, 102, 99, 56, 50, 50, 59, 32]⟩ ++ ⟨q.toArray⟩), .string ⟨#[65, 99, 116, 105, 111, 110, 58, 32, 102, 97, 105, 108, 101, 100]⟩, .string ⟨#[83, 116, 97, 116, 117, 115, 58, 32, 53, 46, 48, 46, 48]⟩] rfl rfl ?x1 ?x2 ?x3 ?x4 ?x5 ?_))
        case x1 => exact HNS.out
        case x2 => first | exact ⟨rfl, rfl, rfl, rfl⟩ | (intro u hu; simp only [List.mem_cons, List.not_mem_nil, or_false] at hu; rcases hu with rfl | rfl | rfl | rfl <;> rfl)
        case x3 => unfold maxLen; omega
        case x4 => omega
        case x5 => exact hs6
        intro v2 w7 hown hgrow _ hat
        have hS7 : Tow w7 (w.heap.size + 1) v2 (S ++ S1) := by
          rw [HX2.out]
          unfold Tow
          rw [List.length_append, List.map_append]
          rw [E2.out] at hown
          exact hown
        have HB7 := Lib.hid (HB6.out.grown hgrow hs6 (fun q hq => (World.ownsRow.lt HR6.out.s q hq).1))
        have HR7 := Lib.hid (tt_swap (tt_left (tt_swap HR6.out) hgrow hS7 (by rw [World.size_alloc]; exact hat)))
        clear hown hgrow hat hS7 HR6 HB6 HNS HB5 HR5
        go_wp2
        go_roundw
        case rel => exact ⟨k + 1, by go_num, by rw [HBD.out]; first | rfl | simp [hfb], by omega, by rw [HE2.out, HE3.out]; exact HR7, HB7⟩
        case measure => simp [intOf]; omega
    · have hltz : ¬ (k : Int) < (n : Int) := by omega
      obtain rfl : k = n := by omega
      have hll := fls_len g k
      have HLL := Lib.hid hll
      have HNl : Hid (((fls g k).flatMap nmq).length = (fls g k).length) := by show _ = _; rw [flat_cnt _ nmq 1 (fun _ => rfl)]; omega
      have HSl : Hid (((fls g k).flatMap stq).length = (fls g k).length * 4) := by show _ = _; rw [flat_cnt _ stq 4 (fun _ => rfl)]
      have HNQ := Lib.hid (fun (h : (fls g k).any bad = false) => nmq_all (any_may h))
      have HSQ := Lib.hid (fun (h : (fls g k).any bad = false) => stq_all (any_may h))
      clear HT HTO hlt hk hll c4 c5 c6
      generalize fls g k = l at *
      generalize l.flatMap nmq = N at *
      generalize l.flatMap stq = S at *
      obtain ⟨a6, cp6, rfl, hle6, _⟩ := own_form HR.out.n
      by_cases hA : fl = [] ∧ fd = []
      · obtain ⟨rfl, rfl⟩ := hA
        obtain rfl := HNN.out.2 ⟨rfl, rfl⟩
        have HV : Hid (RV = .tuple #[.string ⟨#[]⟩, .int .i64 10]) := by show _ = _; rw [HRV.out]; unfold repV; rw [if_pos (Or.inl ⟨rfl, rfl⟩)]
        have HBW := Lib.hid (HB0w.out.trans (HB.out.mono (by omega)))
        clear HNN
        go_wp2_with fail
        go_ret2
        exact ⟨by rw [HV.out]; rfl, HBW.out⟩
      have hNNp : ((NN : Int) == 0) = false := beq_false_of_ne (fun e => hA (HNN.out.1 (by omega)))
      by_cases hl0 : l = []
      · have HV : Hid (RV = .tuple #[.string ⟨#[]⟩, .int .i64 10]) := by show _ = _; rw [HRV.out]; unfold repV; rw [if_pos (Or.inr hl0)]
        have hN0 : ((N.length : Int) == 0) = true := by rw [HNl.out, hl0]; rfl
        have HBW := Lib.hid (HB0w.out.trans (HB.out.mono (by omega)))
        go_wp2_with fail
        go_ret2
        exact ⟨by rw [HV.out]; rfl, HBW.out⟩
      have hlp : 0 < l.length := List.length_pos_iff.2 hl0
      have hN0 : ((N.length : Int) == 0) = false := beq_false_of_ne (by have := HNl.out; omega)
      have hnoB : ¬ ((fl = [] ∧ fd = []) ∨ l = []) := fun h => h.elim hA hl0
      have HC1 := Lib.hid (rbox_any fl fd wr)
      have HC2 := Lib.hid (fun (W : World) (h : Below (w.heap.size + 1) W0 W) => rpath_any fl fd m W hfl hfd (HMM.out W (HB0w.out.trans (h.mono (by omega)))))
      have hpv : pathV fl fd = if Adr.mayB fl fd = true then .tuple #[sV (60 :: (Adr.wrt fl fd ++ [62])), .int .i64 0] else .tuple #[.string ⟨#[]⟩, .int .i64 2] := by unfold pathV; rw [if_neg hA]
      rw [hpv] at HC2
      have hsz1 := hsz
      have HNoB := Lib.hid hnoB
      clear hpv hA hl0 hnoB HNN
      unfold bxV at HC1 HC2
      go_wp2_with fail
      refine HC1.out.mono ?_
      rintro e w1 ⟨rfl, hb⟩
      have HB1 := Lib.hid (HB.out.trans (hb.mono hsz))
      have HR1 := Lib.hid (tt_below HR.out hb)
      clear hb HC1
      cases hy : Adr.mayB fl fd with
      | false =>
        rw [hy, if_neg Bool.false_ne_true] at HC2
        have HV : Hid (RV = .tuple #[.string ⟨#[]⟩, .int .i64 2]) := by show _ = _; rw [HRV.out]; unfold repV; rw [if_neg HNoB.out, if_neg (fun h => by rw [hy] at h; exact Bool.noConfusion h.1)]
        go_wp2_with fail
        refine (HC2.out w1 HB1.out).mono ?_
        rintro e w2 ⟨rfl, hb⟩
        have HBW := Lib.hid (HB0w.out.trans ((HB1.out.trans (hb.mono (bsz HB1.out HSZ0.out))).mono (by omega)))
        clear hb
        go_wp2_with fail
        go_ret2
        exact ⟨by rw [HV.out]; rfl, HBW.out⟩
      | true =>
      rw [hy, if_pos rfl] at HC2
      have hPl : (60 :: (Adr.wrt fl fd ++ [62])).length ≤ 402 := by
        have := wrt_len hy
        simp only [List.length_cons, List.length_append, List.length_nil]
        omega
      cases hany : l.any bad with
      | true =>
        have HV : Hid (RV = .tuple #[.string ⟨#[]⟩, .int .i64 2]) := by show _ = _; rw [HRV.out]; unfold repV; rw [if_neg HNoB.out, if_neg (fun h => by rw [hany] at h; exact Bool.noConfusion h.2)]
        unfold sV at HC2
        generalize 60 :: (Adr.wrt fl fd ++ [62]) = Pth at *
        clear HNQ HSQ
        go_wp2_with fail
        refine (HC2.out w1 HB1.out).mono ?_
        rintro e w2 ⟨rfl, hb⟩
        have HBW := Lib.hid (HB0w.out.trans ((HB1.out.trans (hb.mono (bsz HB1.out HSZ0.out))).mono (by omega)))
        clear hb
        go_wp2_with fail
        go_ret2
        exact ⟨by rw [HV.out]; rfl, HBW.out⟩
      | false =>
      have HV : Hid (RV = .tuple #[sV (Bnc.rep host.data.toList fl fd l), .int .i64 0]) := by show _ = _; rw [HRV.out]; unfold repV; rw [if_neg HNoB.out, if_pos ⟨hy, hany⟩]
      have HAM := Lib.hid (any_may hany)
      have hJ := Bnc.joi_le (Bnc.repL host.data.toList fl fd l) 500 (Bnc.repL_mem host.data.toList fl fd l hy HAM.out)
      rw [Bnc.repL_len] at hJ
      have HJ := Lib.hid hJ
      have hk2 := Bnc.shw_len2 host.data.toList
      have hSH := Lib.hid (rshown_any host · hh)
      have HS1 : Hid (Bnc.sec1 fl fd = [Bnc.r0, Bnc.t1 ++ (60 :: (Adr.wrt fl fd ++ [62])), Bnc.r2, Bnc.r3, [], Bnc.r5, Bnc.r6, [], Bnc.r8]) := rfl
      have HS3 : Hid (Bnc.sec3 host.data.toList = [Bnc.r5, Bnc.s2, [], Bnc.s4 ++ Bnc.shw host.data.toList]) := rfl
      have HREP : Hid (Bnc.rep host.data.toList fl fd l = Lin.joi (Bnc.repL host.data.toList fl fd l)) := rfl
      have HRL : Hid (Bnc.repL host.data.toList fl fd l = Bnc.sec1 fl fd ++ N ++ Bnc.sec3 host.data.toList ++ S ++ [Bnc.r9]) := by
        show _ = _
        rw [HNQ.out hany, HSQ.out hany]
        unfold Bnc.repL Bnc.secs
        simp only [List.flatten_cons, List.flatten_nil, List.append_nil, List.append_assoc]
      have HRLn := Lib.hid (Bnc.repL_len host.data.toList fl fd l)
      have HL1 : Hid ((Bnc.sec1 fl fd).length = 9) := rfl
      have HL3 : Hid ((Bnc.sec3 host.data.toList).length = 4) := rfl
      generalize 60 :: (Adr.wrt fl fd ++ [62]) = Pth at *
      generalize Bnc.sec1 fl fd = S1 at *
      generalize Bnc.sec3 host.data.toList = S3 at *
      generalize Bnc.shw host.data.toList = sh at *
      generalize Bnc.rep host.data.toList fl fd l = rp at *
      generalize Bnc.repL host.data.toList fl fd l = rl at *
      clear HNQ HSQ hy HRV hJ
      unfold sV at HC2
      go_wp2_with fail
      refine (HC2.out w1 HB1.out).mono ?_
      rintro e w2 ⟨rfl, hb⟩
      have HB2 := Lib.hid (HB1.out.trans (hb.mono (bsz HB1.out HSZ0.out)))
      have HR2 := Lib.hid (tt_below HR1.out hb)
      have hs2 := bsz HB2.out HSZ0.out
      clear hb HC2 HB HR HB1 HR1 hsz hsz1 d4 d5 d6
      obtain ⟨gN, cN, evN, fN⟩ := tow_row HR2.out.n (by rw [HNl.out]; exact hlp)
      simp only [Value.slice.injEq, true_and] at evN
      obtain ⟨rfl, rfl⟩ := evN
      have HFN := Lib.hid fN
      clear fN
      have eP : Hid ((⟨#[84, 111, 58, 32]⟩ : ByteArray) ++ ⟨Pth.toArray⟩ = ⟨(Bnc.t1 ++ Pth).toArray⟩) := mk_append Bnc.t1 Pth
      have eH : Hid ((⟨#[82, 101, 112, 111, 114, 116, 105, 110, 103, 45, 77, 84, 65, 58, 32, 100, 110, 115, 59, 32]⟩ : ByteArray) ++ ⟨sh.toArray⟩ = ⟨(Bnc.s4 ++ sh).toArray⟩) := mk_append Bnc.s4 sh
      obtain ⟨gS, cS, rfl, _⟩ := tow_row HR2.out.s (by rw [HSl.out]; omega)
      have HO17 : Hid (Tow (w2.alloc (.cells #[.string ⟨#[70, 114, 111, 109, 58, 32, 60, 62]⟩, .string ⟨(Bnc.t1 ++ Pth).toArray⟩, .string ⟨#[83, 117, 98, 106, 101, 99, 116, 58, 32, 85, 110, 100, 101, 108, 105, 118, 101, 114, 101, 100, 32, 109, 97, 105, 108]⟩, .string ⟨#[67, 111, 110, 116, 101, 110, 116, 45, 84, 121, 112, 101, 58, 32, 109, 117, 108, 116, 105, 112, 97, 114, 116, 47, 114, 101, 112, 111, 114, 116, 59, 32, 114, 101, 112, 111, 114, 116, 45, 116, 121, 112, 101, 61, 100, 101, 108, 105, 118, 101, 114, 121, 45, 115, 116, 97, 116, 117, 115, 59, 32, 98, 111, 117, 110, 100, 97, 114, 121, 61, 34, 61, 34]⟩, .string ⟨#[]⟩, .string ⟨#[45, 45, 61]⟩, .string ⟨#[67, 111, 110, 116, 101, 110, 116, 45, 84, 121, 112, 101, 58, 32, 116, 101, 120, 116, 47, 112, 108, 97, 105, 110]⟩, .string ⟨#[]⟩, .string ⟨#[78, 111, 116, 32, 100, 101, 108, 105, 118, 101, 114, 101, 100, 58]⟩] 9)) (w.heap.size + 1) (.slice (some ⟨w2.heap.size, 0, none⟩) 9 9) S1) := by
        show Tow _ _ _ _
        rw [HS1.out]
        exact World.ownsRow_lit w2 (([Bnc.r0, Bnc.t1 ++ Pth, Bnc.r2, Bnc.r3, [], Bnc.r5, Bnc.r6, [], Bnc.r8].map sV).toArray) 9 hs2 (by unfold maxLen; omega) rfl
      have HR17 : Hid (Tt (w2.alloc (.cells #[.string ⟨#[70, 114, 111, 109, 58, 32, 60, 62]⟩, .string ⟨(Bnc.t1 ++ Pth).toArray⟩, .string ⟨#[83, 117, 98, 106, 101, 99, 116, 58, 32, 85, 110, 100, 101, 108, 105, 118, 101, 114, 101, 100, 32, 109, 97, 105, 108]⟩, .string ⟨#[67, 111, 110, 116, 101, 110, 116, 45, 84, 121, 112, 101, 58, 32, 109, 117, 108, 116, 105, 112, 97, 114, 116, 47, 114, 101, 112, 111, 114, 116, 59, 32, 114, 101, 112, 111, 114, 116, 45, 116, 121, 112, 101, 61, 100, 101, 108, 105, 118, 101, 114, 121, 45, 115, 116, 97, 116, 117, 115, 59, 32, 98, 111, 117, 110, 100, 97, 114, 121, 61, 34, 61, 34]⟩, .string ⟨#[]⟩, .string ⟨#[45, 45, 61]⟩, .string ⟨#[67, 111, 110, 116, 101, 110, 116, 45, 84, 121, 112, 101, 58, 32, 116, 101, 120, 116, 47, 112, 108, 97, 105, 110]⟩, .string ⟨#[]⟩, .string ⟨#[78, 111, 116, 32, 100, 101, 108, 105, 118, 101, 114, 101, 100, 58]⟩] 9)) (w.heap.size + 1) (.slice (some ⟨w2.heap.size, 0, none⟩) 9 9) (.slice (some ⟨gS, 0, none⟩) S.length cS) S1 S) := ⟨HO17.out, tow_below HR2.out.s ((Below.refl _ _).alloc (Nat.le_refl _) _), fun q h1 h2 => by
        have hlt := (World.ownsRow.lt HR2.out.s q h2).2
        simp only [Value.ownBlock, Option.some.injEq] at h1
        omega⟩
      have HFN2 : Hid (∀ j u, (N.map sV)[j]? = some u → (w2.alloc (.cells #[.string ⟨#[70, 114, 111, 109, 58, 32, 60, 62]⟩, .string ⟨(Bnc.t1 ++ Pth).toArray⟩, .string ⟨#[83, 117, 98, 106, 101, 99, 116, 58, 32, 85, 110, 100, 101, 108, 105, 118, 101, 114, 101, 100, 32, 109, 97, 105, 108]⟩, .string ⟨#[67, 111, 110, 116, 101, 110, 116, 45, 84, 121, 112, 101, 58, 32, 109, 117, 108, 116, 105, 112, 97, 114, 116, 47, 114, 101, 112, 111, 114, 116, 59, 32, 114, 101, 112, 111, 114, 116, 45, 116, 121, 112, 101, 61, 100, 101, 108, 105, 118, 101, 114, 121, 45, 115, 116, 97, 116, 117, 115, 59, 32, 98, 111, 117, 110, 100, 97, 114, 121, 61, 34, 61, 34]⟩, .string ⟨#[]⟩, .string ⟨#[45, 45, 61]⟩, .string ⟨#[67, 111, 110, 116, 101, 110, 116, 45, 84, 121, 112, 101, 58, 32, 116, 101, 120, 116, 47, 112, 108, 97, 105, 110]⟩, .string ⟨#[]⟩, .string ⟨#[78, 111, 116, 32, 100, 101, 108, 105, 118, 101, 114, 101, 100, 58]⟩] 9)).cell? ((⟨gN, 0, none⟩ : Addr).add j) = some u) := fun j u hu => by
        rw [add_off, Nat.zero_add]
        have q := HFN.out j u hu
        rw [((Below.refl w2.heap.size w2).alloc (Nat.le_refl _) (.cells #[.string ⟨#[70, 114, 111, 109, 58, 32, 60, 62]⟩, .string ⟨(Bnc.t1 ++ Pth).toArray⟩, .string ⟨#[83, 117, 98, 106, 101, 99, 116, 58, 32, 85, 110, 100, 101, 108, 105, 118, 101, 114, 101, 100, 32, 109, 97, 105, 108]⟩, .string ⟨#[67, 111, 110, 116, 101, 110, 116, 45, 84, 121, 112, 101, 58, 32, 109, 117, 108, 116, 105, 112, 97, 114, 116, 47, 114, 101, 112, 111, 114, 116, 59, 32, 114, 101, 112, 111, 114, 116, 45, 116, 121, 112, 101, 61, 100, 101, 108, 105, 118, 101, 114, 121, 45, 115, 116, 97, 116, 117, 115, 59, 32, 98, 111, 117, 110, 100, 97, 114, 121, 61, 34, 61, 34]⟩, .string ⟨#[]⟩, .string ⟨#[45, 45, 61]⟩, .string ⟨#[67, 111, 110, 116, 101, 110, 116, 45, 84, 121, 112, 101, 58, 32, 116, 101, 120, 116, 47, 112, 108, 97, 105, 110]⟩, .string ⟨#[]⟩, .string ⟨#[78, 111, 116, 32, 100, 101, 108, 105, 118, 101, 114, 101, 100, 58]⟩] 9)).cell (World.block_lt_of_cell? _ _ q)]
        exact q
      have hN1 : N.length ≤ 1000 := by have := HNl.out; have := HLL.out; omega
      have hS1 : S.length ≤ 4000 := by have := HSl.out; have := HLL.out; omega
      have hB17 := Lib.hid (HB2.out.alloc hs2 (.cells #[.string ⟨#[70, 114, 111, 109, 58, 32, 60, 62]⟩, .string ⟨(Bnc.t1 ++ Pth).toArray⟩, .string ⟨#[83, 117, 98, 106, 101, 99, 116, 58, 32, 85, 110, 100, 101, 108, 105, 118, 101, 114, 101, 100, 32, 109, 97, 105, 108]⟩, .string ⟨#[67, 111, 110, 116, 101, 110, 116, 45, 84, 121, 112, 101, 58, 32, 109, 117, 108, 116, 105, 112, 97, 114, 116, 47, 114, 101, 112, 111, 114, 116, 59, 32, 114, 101, 112, 111, 114, 116, 45, 116, 121, 112, 101, 61, 100, 101, 108, 105, 118, 101, 114, 121, 45, 115, 116, 97, 116, 117, 115, 59, 32, 98, 111, 117, 110, 100, 97, 114, 121, 61, 34, 61, 34]⟩, .string ⟨#[]⟩, .string ⟨#[45, 45, 61]⟩, .string ⟨#[67, 111, 110, 116, 101, 110, 116, 45, 84, 121, 112, 101, 58, 32, 116, 101, 120, 116, 47, 112, 108, 97, 105, 110]⟩, .string ⟨#[]⟩, .string ⟨#[78, 111, 116, 32, 100, 101, 108, 105, 118, 101, 114, 101, 100, 58]⟩] 9))
      have hs17 := bsz hB17.out HSZ0.out
      have hc9 : (⟨#[84, 111, 58, 32]⟩ : ByteArray) ++ ⟨Pth.toArray⟩ = ⟨(Bnc.t1 ++ Pth).toArray⟩ := eP.out
      go_wp2_with (at_builtin; go_must (refine wpList_append_own_at _ rfl (.tmp 88) (.tmp 89) 47 rfl (w.heap.size + 1) 9 i0 (.string ⟨#[]⟩) 1 16 Tryz.underlying47 hi0 hz0 hz1 hz2 rfl (by decide) _ _ _ rfl HO17.out ⟨gN, 0, none⟩ N.length cp6 (N.map sV) rfl (by simp) ?x1 ?x2 ?x3 ?x4 ?x5 ?_))
      case x1 => exact HFN2.out
      case x2 => intro u hu; obtain ⟨z, _, rfl⟩ := List.mem_map.1 hu; rfl
      case x3 => unfold maxLen; have := HL1.out; omega
      case x4 => have := HL1.out; omega
      case x5 => exact hs17
      intro v18 w18 hown hgrow _ hat
      have HN18 : Tow w18 (w.heap.size + 1) v18 (S1 ++ N) := by
        unfold Tow
        rw [List.length_append, List.map_append]
        exact hown
      have HB18 := Lib.hid (hB17.out.grown hgrow hs17 (fun q hq => (World.ownsRow.lt HR17.out.n q hq).1))
      have HR18 := Lib.hid (tt_left HR17.out hgrow HN18 (by first | exact hat | (rw [World.size_alloc]; exact hat)))
      have hs18 := bsz HB18.out HSZ0.out
      clear hown hgrow hat HN18 hB17 hs17 HR17 HFN2 HO17 HFN HR2 HB2 hs2 hc9
      have hc4 : (⟨#[82, 101, 112, 111, 114, 116, 105, 110, 103, 45, 77, 84, 65, 58, 32, 100, 110, 115, 59, 32]⟩ : ByteArray) ++ ⟨sh.toArray⟩ = ⟨(Bnc.s4 ++ sh).toArray⟩ := eH.out
      have HB19 := Lib.hid (HB18.out.alloc hs18 (.cells #[.string ⟨#[45, 45, 61]⟩, .string ⟨#[67, 111, 110, 116, 101, 110, 116, 45, 84, 121, 112, 101, 58, 32, 109, 101, 115, 115, 97, 103, 101, 47, 100, 101, 108, 105, 118, 101, 114, 121, 45, 115, 116, 97, 116, 117, 115]⟩, .string ⟨#[]⟩, .string ⟨(Bnc.s4 ++ sh).toArray⟩] 9))
      have HR19 := Lib.hid (tt_below HR18.out ((Below.refl _ _).alloc (Nat.le_refl _) (.cells #[.string ⟨#[45, 45, 61]⟩, .string ⟨#[67, 111, 110, 116, 101, 110, 116, 45, 84, 121, 112, 101, 58, 32, 109, 101, 115, 115, 97, 103, 101, 47, 100, 101, 108, 105, 118, 101, 114, 121, 45, 115, 116, 97, 116, 117, 115]⟩, .string ⟨#[]⟩, .string ⟨(Bnc.s4 ++ sh).toArray⟩] 9)))
      have hs19 := bsz HB19.out HSZ0.out
      have HNW : Hid (∀ j u, (S3.map sV)[j]? = some u → (w18.alloc (.cells #[.string ⟨#[45, 45, 61]⟩, .string ⟨#[67, 111, 110, 116, 101, 110, 116, 45, 84, 121, 112, 101, 58, 32, 109, 101, 115, 115, 97, 103, 101, 47, 100, 101, 108, 105, 118, 101, 114, 121, 45, 115, 116, 97, 116, 117, 115]⟩, .string ⟨#[]⟩, .string ⟨(Bnc.s4 ++ sh).toArray⟩] 9)).cell? ((⟨w18.heap.size, 0, none⟩ : Addr).add j) = some u) := by
        show ∀ j u, _ → _
        rw [HS3.out]
        exact cell_new_row w18 ([Bnc.r5, Bnc.s2, [], Bnc.s4 ++ sh].map sV) 9
      go_wp2_with fail
      refine (hSH.out _).mono ?_
      rintro e wx ⟨rfl, hbx⟩
      subst hbx
      go_wp2_with (at_builtin; go_must (refine wpList_append_own_at _ rfl (.tmp 91) (.tmp 95) 47 rfl (w.heap.size + 1) 9 i0 (.string ⟨#[]⟩) 1 16 Tryz.underlying47 hi0 hz0 hz1 hz2 rfl (by decide) _ _ _ rfl HR19.out.n ⟨w18.heap.size, 0, none⟩ 4 4 (S3.map sV) rfl (by rw [List.length_map, HL3.out]) ?x1 ?x2 ?x3 ?x4 ?x5 ?_))
      case x1 => exact HNW.out
      case x2 => intro u hu; obtain ⟨z, _, rfl⟩ := List.mem_map.1 hu; rfl
      case x3 => unfold maxLen; simp only [List.length_append]; have := HL1.out; have := HL3.out; omega
      case x4 => simp only [List.length_append]; have := HL1.out; have := HL3.out; omega
      case x5 => exact hs19
      intro v20 w20 hown hgrow _ hat
      have HN20 : Tow w20 (w.heap.size + 1) v20 (S1 ++ N ++ S3) := by
        exact tow_is hown (by simp only [List.length_append, HL3.out]) (by simp only [List.map_append, List.append_assoc])
      have HB20 := Lib.hid (HB19.out.grown hgrow hs19 (fun q hq => (World.ownsRow.lt HR19.out.n q hq).1))
      have HR20 := Lib.hid (tt_left HR19.out hgrow HN20 (by first | exact hat | (rw [World.size_alloc]; exact hat)))
      have hs20 := bsz HB20.out HSZ0.out
      clear hown hgrow hat HN20 HB18 HR18 hs18 HB19 HR19 hs19 HNW hc4
      have HFS : Hid (∀ j u, (S.map sV)[j]? = some u → w20.cell? ((⟨gS, 0, none⟩ : Addr).add j) = some u) := World.ownsRow.cells HR20.out.s rfl
      go_wp2_with (at_builtin; go_must (refine wpList_append_own_at _ rfl (.tmp 97) (.tmp 98) 47 rfl (w.heap.size + 1) 9 i0 (.string ⟨#[]⟩) 1 16 Tryz.underlying47 hi0 hz0 hz1 hz2 rfl (by decide) _ _ _ rfl HR20.out.n ⟨gS, 0, none⟩ S.length cS (S.map sV) rfl (by rw [List.length_map, Nat.mul_one]) ?x1 ?x2 ?x3 ?x4 ?x5 ?_))
      case x1 => exact HFS.out
      case x2 => intro u hu; obtain ⟨z, _, rfl⟩ := List.mem_map.1 hu; rfl
      case x3 => unfold maxLen; simp only [List.length_append]; have := HL1.out; have := HL3.out; omega
      case x4 => simp only [List.length_append]; have := HL1.out; have := HL3.out; omega
      case x5 => exact hs20
      intro v21 w21 hown hgrow _ hat
      have HN21 : Hid (Tow w21 (w.heap.size + 1) v21 (S1 ++ N ++ S3 ++ S)) := by
        show Tow _ _ _ _
        exact tow_is hown (by simp only [List.length_append]; omega) (by simp only [List.map_append, List.append_assoc])
      have HB21 := Lib.hid (HB20.out.grown hgrow hs20 (fun q hq => (World.ownsRow.lt HR20.out.n q hq).1))
      have hs21 := bsz HB21.out HSZ0.out
      clear hown hgrow hat HB20 HR20 hs20 HFS
      have HB22 := Lib.hid (HB21.out.alloc hs21 (.cells #[.string ⟨#[45, 45, 61, 45, 45]⟩] 9))
      have HN22 := Lib.hid (tow_below HN21.out ((Below.refl _ _).alloc (Nat.le_refl _) (.cells #[.string ⟨#[45, 45, 61, 45, 45]⟩] 9)))
      have hs22 := bsz HB22.out HSZ0.out
      have HNW : Hid (∀ j u, ([Bnc.r9].map sV)[j]? = some u → (w21.alloc (.cells #[.string ⟨#[45, 45, 61, 45, 45]⟩] 9)).cell? ((⟨w21.heap.size, 0, none⟩ : Addr).add j) = some u) := cell_new_row w21 ([Bnc.r9].map sV) 9
      go_wp2_with (at_builtin; go_must (refine wpList_append_own_at _ rfl (.tmp 100) (.tmp 101) 47 rfl (w.heap.size + 1) 9 i0 (.string ⟨#[]⟩) 1 16 Tryz.underlying47 hi0 hz0 hz1 hz2 rfl (by decide) _ _ _ rfl HN22.out ⟨w21.heap.size, 0, none⟩ 1 1 ([Bnc.r9].map sV) rfl (rfl) ?x1 ?x2 ?x3 ?x4 ?x5 ?_))
      case x1 => exact HNW.out
      case x2 => intro u hu; obtain ⟨z, _, rfl⟩ := List.mem_map.1 hu; rfl
      case x3 => unfold maxLen; simp only [List.length_append]; have := HL1.out; have := HL3.out; omega
      case x4 => simp only [List.length_append]; have := HL1.out; have := HL3.out; omega
      case x5 => exact hs22
      intro v23 w23 hown hgrow _ hat
      have HN23 : Tow w23 (w.heap.size + 1) v23 rl := by
        rw [HRL.out]
        exact tow_is hown (by simp only [List.length_append, List.length_cons, List.length_nil]; omega) (by simp only [List.map_append, List.append_assoc, List.map_cons, List.map_nil])
      have HB23 := Lib.hid (HB22.out.grown hgrow hs22 (fun q hq => (World.ownsRow.lt HN22.out q hq).1))
      obtain ⟨A23, c23, rfl, _, ht⟩ := tow_txs HN23
      have HJN := Lib.hid (rjoin_any A23 c23 rl.length rl w23 rfl ht (by have := HRLn.out; have := HLL.out; omega) (by have := HJ.out; have := HLL.out; omega))
      rw [← HREP.out] at HJN
      have HBW := Lib.hid (HB0w.out.trans (HB23.out.mono (by omega)))
      clear hown hgrow hat HN23 ht HB22 HN22 hs22 HNW HB21 HN21 hs21
      go_wp2_with fail
      refine HJN.out.mono ?_
      rintro e wy ⟨rfl, rfl⟩
      go_wp2_with fail
      go_ret2
      refine ⟨?_, HBW.out⟩
      rw [HV.out]
      exact congrArg Ending.returned (congrArg Value.tuple rfl)
end Go.Proofs.YtkchebbolldmbaaGreatDoor
set_option linter.unusedVariables false
namespace Go.Proofs.YtkchebbolldmbaaGreatDoor
open Go.RowKit
theorem repV_form (h fl fd : List UInt8) (l : List Bxp) (hn : l.length ≤ 1000) : ∃ R : List UInt8, ∃ f : Int, repV h fl fd l = .tuple #[.string ⟨R.toArray⟩, .int .i64 f] ∧ R.length < 4294967200 := by
  unfold repV
  by_cases h1 : (fl = [] ∧ fd = []) ∨ l = []
  · rw [if_pos h1]
    exact ⟨[], 10, rfl, by decide⟩
  rw [if_neg h1]
  by_cases h2 : Adr.mayB fl fd = true ∧ l.any bad = false
  · rw [if_pos h2]
    refine ⟨_, _, rfl, ?_⟩
    have hJ := Bnc.joi_le (Bnc.repL h fl fd l) 500 (Bnc.repL_mem h fl fd l h2.1 (any_may h2.2))
    rw [Bnc.repL_len] at hJ
    show (Lin.joi (Bnc.repL h fl fd l)).length < _
    omega
  · rw [if_neg h2]
    exact ⟨[], 2, rfl, by decide⟩
theorem fds_len (t : List UInt8) : (Bnc.fds t).length ≤ t.length := by
  have h := flat_le (Bnc.lns t) Bnc.fd1 (fun x _ => fd1_len x) (Bnc.lns t).length
  rw [List.take_length] at h
  have h2 := Bnc.lns_len t
  show ((Bnc.lns t).flatMap Bnc.fd1).length ≤ _
  omega
theorem tos_nil (W : World) (G : Nat → To3) : Tos W none 0 G := fun k hk => absurd hk (Nat.not_lt_zero k)
/-- What both write of an entry. -/
theorem entry_both (x : En) (g : Nat → To3) (w : World) (hT : Tos w x.A x.n g) : ∃ (X : En) (b : Bool) (G : Nat → To3), (X.n ≤ 1) ∧
    (x.n ≤ 30 → ∀ W, Below w.heap.size w W → Calls Tryz.prog 14 #[.agg (enA x)] W fun e w' => (∃ a c, e = .returned (.tuple #[.agg (enA { X with A := a, c := c }), .bool b]) ∧ Tos w' a X.n G) ∧ Below W.heap.size W w') ∧
    (x.n ≤ 30 → x.fl.length ≤ 500 → x.fd.length ≤ 500 → ∀ W, Below w.heap.size w W → Calls Tryz.prog 15 #[.agg (enA x)] W fun e w' => (∃ a c, e = .returned (.tuple #[.agg (enA { X with A := a, c := c }), .bool b]) ∧ Tos w' a X.n G) ∧ Below W.heap.size W w') := by
  by_cases hno : (x.fl = [] ∧ x.fd = []) ∨ fls g x.n = []
  · refine ⟨enZ, false, g, Nat.zero_le _, fun hn W hb => ?_, fun hn h1 h2 W hb => ?_⟩
    · refine (entry_no x g W (tos_below hT hb) (by omega) hno).mono ?_
      rintro e w' ⟨rfl, h⟩
      exact ⟨⟨none, 0, rfl, tos_nil _ _⟩, h⟩
    · refine (rentry_no x g W (tos_below hT hb) (by omega) (by omega) (by omega) hno).mono ?_
      rintro e w' ⟨rfl, h⟩
      exact ⟨⟨none, 0, rfl, tos_nil _ _⟩, h⟩
  · have h2 : ¬ (x.fl = [] ∧ x.fd = []) := fun q => hno (Or.inl q)
    have hne : fls g x.n ≠ [] := fun q => hno (Or.inr q)
    refine ⟨bkE x 0, true, fun _ => ⟨x.fl, x.fd, 0⟩, Nat.le_refl _, fun hn W hb => ?_, fun hn q1 q2 W hb => ?_⟩
    · refine (entry_yes x g W (tos_below hT hb) (by omega) h2 hne).mono ?_
      rintro e w' ⟨⟨gb, rfl, _, hk⟩, h⟩
      refine ⟨⟨some ⟨gb, 0, none⟩, 1, rfl, fun k hk1 => ?_⟩, h⟩
      obtain rfl : k = 0 := by have : k < 1 := hk1; omega
      exact ⟨gb, 0, rfl, ⟨by rw [Lib.cell_of_heap hk]; rfl, by rw [Lib.cell_of_heap hk]; rfl⟩, by rw [Lib.cell_of_heap hk]; rfl⟩
    · refine (rentry_yes x g W (tos_below hT hb) (by omega) (by omega) (by omega) h2 hne).mono ?_
      rintro e w' ⟨⟨a, c, rfl, ht⟩, h⟩
      exact ⟨⟨a, c, rfl, ht⟩, h⟩
/-- What is known behind both entries. -/
structure Pz (w : World) (x : En) (B1 B2 : Nat) (X : En) (a1 : Option Addr) (c1 : Nat) (a2 : Option Addr) (c2 : Nat) (G : Nat → To3) (W : World) : Prop where
  e : Ex w w.heap.size x W
  p : Ex w B1 { X with A := a1, c := c1 } W
  q : Ex w B2 { X with A := a2, c := c2 } W
  t1 : Tos W a1 X.n G
  t2 : Tos W a2 X.n G
theorem pz_next {w W W1 : World} {x : En} {B1 B2 : Nat} {X : En} {a1 a2 : Option Addr} {c1 c2 : Nat} {G : Nat → To3} (h : Pz w x B1 B2 X a1 c1 a2 c2 G W) (g : Below W.heap.size W W1) : Pz w x B1 B2 X a1 c1 a2 c2 G W1 :=
  ⟨ex_next h.e g, ex_next h.p g, ex_next h.q g, tos_below h.t1 g, tos_below h.t2 g⟩

set_option maxRecDepth 100000 in
set_option maxHeartbeats 16000000 in
theorem reports_law (H T : ByteArray) (x : En) (g : Nat → To3) (m : Int) (w : World) (hm : w.cell? ⟨3, 0, none⟩ = some (.int .i64 m)) (htab : Tabs w) (hT : Tos w x.A x.n g) :
    Calls Tryz.prog 4 #[.string H, .agg (enA x), .string T] w fun e w' => e = .returned (.bool true) ∧ Below w.heap.size w w' := by
  have HM := Lib.hid (fun (W : World) (h : Below w.heap.size w W) => (show W.cell? ⟨3, 0, none⟩ = some (.int .i64 m) from by rw [h.cell (World.block_lt_of_cell? _ _ hm)]; exact hm))
  have HTS := Lib.hid (fun (W : World) (h : Below w.heap.size w W) => tos_below hT h)
  have H0 := Lib.hid (ex_new (Below.refl w.heap.size w) x)
  have HA := Lib.hid (awake_any m _ (HM.out _ H0.out.bel) (tabs_below htab H0.out.bel))
  have HL := Lib.hid (fun (W : World) (h : Below w.heap.size w W) => large_any x g W (HTS.out W h))
  obtain ⟨X, bb, G, hXn, hE14, hE15⟩ := entry_both x g w hT
  have HE14 := Lib.hid hE14
  have HE15 := Lib.hid hE15
  have HREP : Hid (H.size ≤ 4096 → x.n ≤ 30 → x.fl.length ≤ 500 → x.fd.length ≤ 500 → (∀ k, k < x.n → (g k).lo.length ≤ 500 ∧ (g k).dm.length ≤ 500) → ∀ (W : World), Below w.heap.size w W → Calls Tryz.prog 12 #[.string H, .agg (enA x)] W fun e w' => e = .returned (repV H.data.toList x.fl x.fd (fls g x.n)) ∧ Below W.heap.size W w') := fun q1 q2 q3 q4 q5 W hb =>
    report_any H x g m W (HTS.out W hb) (by omega) (by omega) (by omega) (fun k hk => ⟨by have := (q5 k hk).1; omega, by have := (q5 k hk).2; omega⟩) (by omega) (HM.out W hb)
  have HREQ : Hid (H.size ≤ 4096 → x.n ≤ 30 → x.fl.length ≤ 500 → x.fd.length ≤ 500 → (∀ k, k < x.n → (g k).lo.length ≤ 500 ∧ (g k).dm.length ≤ 500) → ∀ (W : World), Below w.heap.size w W → Calls Tryz.prog 13 #[.string H, .agg (enA x)] W fun e w' => e = .returned (repV H.data.toList x.fl x.fd (fls g x.n)) ∧ Below W.heap.size W w') := fun q1 q2 q3 q4 q5 W hb =>
    rreport_any H x g m W (HTS.out W hb) (by omega) (by omega) (by omega) (fun k hk => ⟨by have := (q5 k hk).1; omega, by have := (q5 k hk).2; omega⟩) (by omega) (HM.out W hb)
  have HRC := Lib.hid (fun (q : x.n ≤ 30) => repV_form H.data.toList x.fl x.fd (fls g x.n) (by have := fls_len g x.n; omega))
  have HF : Hid (∀ (s : ByteArray), s.size < 4294967200 → ∀ W, Below w.heap.size w W → Calls Tryz.prog 18 #[.string s] W fun e w' => (∃ v, e = .returned v ∧ Aow w' W.heap.size v (Bnc.fds s.data.toList)) ∧ Below W.heap.size W w') := fun s hs W hb => failedT_any s m W hs (HM.out W hb)
  have HG : Hid (∀ (s : ByteArray), s.size < 4294967200 → ∀ W, Below w.heap.size w W → Calls Tryz.prog 19 #[.string s] W fun e w' => (∃ v, e = .returned v ∧ Aow w' W.heap.size v (Bnc.fds s.data.toList)) ∧ Below W.heap.size W w') := fun s hs W hb => rfailed_any s m W hs (HM.out W hb)
  clear hm htab hT hE14 hE15
  obtain ⟨id, dom, ep, ct, fl, fd, A, n, c, born, next, tries⟩ := x
  simp only [] at *
  go_enter Tryz.func4, Tryz.ntmps4
  go_wp2_with fail
  refine HA.out.mono ?_
  rintro e w1 ⟨rfl, hb1⟩
  have E1 := Lib.hid (ex_next H0.out hb1)
  clear hb1 HA H0
  obtain ⟨c0, c1, c2, c3, c4, c5, c6, c7, c8, c9⟩ := ex_cells E1.out
  go_wp2_with fail
  refine (HL.out w1 E1.out.bel).mono ?_
  rintro e w2 ⟨hr, hb2⟩
  have E2 := Lib.hid (ex_next E1.out hb2)
  clear hb2 HL c0 c1 c2 c3 c4 c5 c6 c7 c8 c9 E1
  rcases hr with rfl | ⟨rfl, hbd⟩
  · go_wp2_with fail
    go_ret
    exact ⟨rfl, E2.out.bel⟩
  obtain ⟨hn, h5, h6, h7⟩ := hbd.out
  clear hbd
  by_cases hHs : 4096 < H.size
  · have hHz : (4096 : Int) < (H.size : Int) := by omega
    clear HREP HREQ HRC h7
    go_wp2_with fail
    go_ret
    exact ⟨rfl, E2.out.bel⟩
  have hHz : ¬ (4096 : Int) < (H.size : Int) := by omega
  by_cases hTs : 4096 < T.size
  · have hTz : (4096 : Int) < (T.size : Int) := by omega
    clear HREP HREQ HRC h7
    go_wp2_with fail
    go_ret
    exact ⟨rfl, E2.out.bel⟩
  have hTz : ¬ (4096 : Int) < (T.size : Int) := by omega
  have HRP := Lib.hid (HREP.out (by omega) hn h5 h6 h7)
  have HRQ := Lib.hid (HREQ.out (by omega) hn h5 h6 h7)
  have HD14 := Lib.hid (HE14.out hn)
  have HD15 := Lib.hid (HE15.out hn h5 h6)
  obtain ⟨R, f, hV, hRl⟩ := HRC.out hn
  rw [hV] at HRP HRQ
  have HFT := Lib.hid (HF.out T (by omega))
  have HGT := Lib.hid (HG.out T (by omega))
  have HFR := Lib.hid (HF.out ⟨R.toArray⟩ (by rw [size_mk]; exact hRl))
  have HGR := Lib.hid (HG.out ⟨R.toArray⟩ (by rw [size_mk]; exact hRl))
  have hk1 : (Bnc.fds T.data.toList).length ≤ 4611686018427387904 := by have := fds_len T.data.toList; have := Lib.size_eq T; omega
  have hk2 : (Bnc.fds R).length ≤ 4611686018427387904 := by have := fds_len R; omega
  rw [show (⟨R.toArray⟩ : ByteArray).data.toList = R from rfl] at HFR HGR
  have HK1 := Lib.hid hk1
  have HK2 := Lib.hid hk2
  clear HREP HREQ HRC HE14 HE15 h5 h6 h7 hV HF HG hk1 hk2 HTS HM hRl
  generalize Bnc.fds T.data.toList = L1 at *
  generalize Bnc.fds R = L2 at *
  obtain ⟨c0, c1, c2, c3, c4, c5, c6, c7, c8, c9⟩ := ex_cells E2.out
  go_wp2_with fail
  refine (HRP.out w2 E2.out.bel).mono ?_
  rintro e w3 ⟨rfl, hb⟩
  have E3 := Lib.hid (ex_next E2.out hb)
  clear hb HRP c0 c1 c2 c3 c4 c5 c6 c7 c8 c9 E2
  obtain ⟨c0, c1, c2, c3, c4, c5, c6, c7, c8, c9⟩ := ex_cells E3.out
  go_wp2_with fail
  refine (HRQ.out w3 E3.out.bel).mono ?_
  rintro e w4 ⟨rfl, hb⟩
  have E4 := Lib.hid (ex_next E3.out hb)
  clear hb HRQ c0 c1 c2 c3 c4 c5 c6 c7 c8 c9 E3
  obtain ⟨c0, c1, c2, c3, c4, c5, c6, c7, c8, c9⟩ := ex_cells E4.out
  go_wp2_with fail
  refine (HD14.out w4 E4.out.bel).mono ?_
  rintro e w5 ⟨⟨a1, k1, rfl, ht1⟩, hb⟩
  obtain ⟨id0, dom0, ep0, ct0, fl0, fd0, A0, n0, q0, born0, next0, tries0⟩ := X
  simp only [] at *
  have E5 := Lib.hid (ex_next E4.out hb)
  have HT1 := Lib.hid ht1
  have X6 := Lib.hid (ex_new E5.out.bel ⟨id0, dom0, ep0, ct0, fl0, fd0, a1, n0, k1, born0, next0, tries0⟩)
  have hal := (Below.refl w5.heap.size w5).alloc (Nat.le_refl _) (.cells (enA ⟨id0, dom0, ep0, ct0, fl0, fd0, a1, n0, k1, born0, next0, tries0⟩) 32)
  have E6 := Lib.hid (ex_next E5.out hal)
  have HT2 := Lib.hid (tos_below ht1 hal)
  clear hb hal ht1 HD14 c0 c1 c2 c3 c4 c5 c6 c7 c8 c9 E4
  obtain ⟨c0, c1, c2, c3, c4, c5, c6, c7, c8, c9⟩ := ex_cells E6.out
  go_wp2_with fail
  refine (HD15.out _ E6.out.bel).mono ?_
  rintro e w7 ⟨⟨a2, k2, rfl, ht2⟩, hb⟩
  have hal := (Below.refl w7.heap.size w7).alloc (Nat.le_refl _) (.cells (enA ⟨id0, dom0, ep0, ct0, fl0, fd0, a2, n0, k2, born0, next0, tries0⟩) 32)
  have PZ : Hid (Pz w ⟨id, dom, ep, ct, fl, fd, A, n, c, born, next, tries⟩ w5.heap.size w7.heap.size ⟨id0, dom0, ep0, ct0, fl0, fd0, A0, n0, q0, born0, next0, tries0⟩ a1 k1 a2 k2 G (w7.alloc (.cells (enA ⟨id0, dom0, ep0, ct0, fl0, fd0, a2, n0, k2, born0, next0, tries0⟩) 32))) :=
    ⟨ex_next (ex_next E6.out hb) hal, ex_next (ex_next X6.out hb) hal, ex_new (ex_next E6.out hb).bel _, tos_below (tos_below HT2.out hb) hal, tos_below ht2 hal⟩
  clear hb hal ht2 HD15 c0 c1 c2 c3 c4 c5 c6 c7 c8 c9 E6 X6 HT1 HT2 E5
  obtain ⟨c0, c1, c2, c3, c4, c5, c6, c7, c8, c9⟩ := ex_cells PZ.out.p
  obtain ⟨d0, d1, d2, d3, d4, d5, d6, d7, d8, d9⟩ := ex_cells PZ.out.q
  simp only [] at c0 c1 c2 c3 c4 c5 c6 c7 c8 c9 d0 d1 d2 d3 d4 d5 d6 d7 d8 d9
  have HSM := Lib.hid (rsame_any ⟨id0, dom0, ep0, ct0, fl0, fd0, a1, n0, k1, born0, next0, tries0⟩ a2 k2 G _ PZ.out.t1 PZ.out.t2 (by show n0 ≤ _; omega))
  go_wp2_with fail
  refine HSM.out.mono ?_
  rintro e w8 ⟨rfl, hb⟩
  have B8 := Lib.hid (PZ.out.e.bel.trans (hb.mono PZ.out.e.bel.size))
  clear hb HSM PZ c0 c1 c2 c3 c4 c5 c6 c7 c8 c9 d0 d1 d2 d3 d4 d5 d6 d7 d8 d9
  go_wp2_with fail
  refine (HFT.out w8 B8.out).mono ?_
  rintro e w9 ⟨⟨v9, rfl, ho⟩, hb⟩
  obtain ⟨A9, z9, rfl, hbo⟩ := aow_bos ho
  have B9 := Lib.hid (B8.out.trans (hb.mono B8.out.size))
  have O9 := Lib.hid hbo
  clear ho hb hbo B8 HFT
  go_wp2_with fail
  refine (HGT.out w9 B9.out).mono ?_
  rintro e w10 ⟨⟨v10, rfl, ho⟩, hb⟩
  obtain ⟨A10, z10, rfl, hbo⟩ := aow_bos ho
  have B10 := Lib.hid (B9.out.trans (hb.mono B9.out.size))
  have HBS := Lib.hid (boxes_same A9 A10 z9 z10 L1.length L1 w10 rfl (bos_below O9.out hb) hbo HK1.out)
  clear ho hb hbo B9 HGT O9
  go_wp2_with fail
  refine HBS.out.mono ?_
  rintro e w11 ⟨rfl, hb⟩
  have B11 := Lib.hid (B10.out.trans (hb.mono B10.out.size))
  clear hb HBS B10
  go_wp2_with fail
  refine (HFR.out w11 B11.out).mono ?_
  rintro e w12 ⟨⟨v12, rfl, ho⟩, hb⟩
  obtain ⟨A12, z12, rfl, hbo⟩ := aow_bos ho
  have B12 := Lib.hid (B11.out.trans (hb.mono B11.out.size))
  have O12 := Lib.hid hbo
  clear ho hb hbo B11 HFR
  go_wp2_with fail
  refine (HGR.out w12 B12.out).mono ?_
  rintro e w13 ⟨⟨v13, rfl, ho⟩, hb⟩
  obtain ⟨A13, z13, rfl, hbo⟩ := aow_bos ho
  have B13 := Lib.hid (B12.out.trans (hb.mono B12.out.size))
  have HBS := Lib.hid (boxes_same A12 A13 z12 z13 L2.length L2 w13 rfl (bos_below O12.out hb) hbo HK2.out)
  clear ho hb hbo B12 HGR O12
  go_wp2_with fail
  refine HBS.out.mono ?_
  rintro e w14 ⟨rfl, hb⟩
  have B14 := Lib.hid (B13.out.trans (hb.mono B13.out.size))
  clear hb HBS B13
  go_wp2_with fail
  go_ret
  exact ⟨rfl, B14.out⟩
theorem bounceReports_any (m : Int) (H : List UInt8) (x : En) (g : Nat → To3) (T : List UInt8) (w : World) (hm : w.cell? ⟨3, 0, none⟩ = some (.int .i64 m)) (htab : Tabs w) (_ : H.length ≤ maxLen) (hT : Tos w x.A x.n g) (_ : T.length ≤ maxLen) :
    Calls Tryz.prog 4 #[.string ⟨H.toArray⟩, .agg (enA x), .string ⟨T.toArray⟩] w fun e w' => e = .returned (.bool true) ∧ Below w.heap.size w w' := reports_law ⟨H.toArray⟩ ⟨T.toArray⟩ x g m w hm htab hT
end Go.Proofs.YtkchebbolldmbaaGreatDoor
