/-
  PROVED HERE: what Entry of the program computes.
-/
import Derived.Test.YtkchebbolldmbaaGreatDoorBr
import Derived.Lib.SmallJoins
set_option linter.unusedVariables false
namespace Go.Proofs.YtkchebbolldmbaaGreatDoor
open Go.RowKit
section
variable {w W W1 : World} {A B : Nat} {x y : En}
def enZ : En := ⟨0, [], 0, 0, [], [], none, 0, 0, 0, 0, 0⟩
/-- An entry at a block of the call's own. -/
structure Ex (w : World) (A : Nat) (x : En) (W : World) : Prop where
  kp : W.heap[A]? = some (.cells (enA x) 32 (0, 0))
  bel : Below w.heap.size w W
  ws : w.heap.size ≤ A
theorem ex_new (h : Below w.heap.size w W) (x : En) : Ex w W.heap.size x (W.alloc (.cells (enA x) 32)) :=
  ⟨by show (W.heap.push _)[W.heap.size]? = _; rw [Array.getElem?_push_size], h.alloc h.size _, h.size⟩
theorem ex_next (h : Ex w A x W) (g : Below W.heap.size W W1) : Ex w A x W1 :=
  ⟨(g.block _ (Array.getElem?_eq_some_iff.1 h.kp).1).trans h.kp, h.bel.trans (g.mono h.bel.size), h.ws⟩
theorem ex_other (h : Ex w A x W) {p : Addr} (hp : p.block ≠ A) (hw : w.heap.size ≤ p.block) (v : Value) : Ex w A x (W.setCell p v) :=
  ⟨(Below.heap_setCell _ _ _ _ (fun e => hp e.symm)).trans h.kp, h.bel.setCell hw _, h.ws⟩
theorem ex_tries (h : Ex w A x W) (v : Int) : Ex w A { x with tries := v } (W.setCell ⟨A, 9, none⟩ (.int .i64 v)) := ⟨Joins.block_setCell (i := 9) h.kp _, h.bel.setCell h.ws _, h.ws⟩
theorem ex_nextc (h : Ex w A x W) (v : Int) : Ex w A { x with next := v } (W.setCell ⟨A, 8, none⟩ (.int .u64 v)) := ⟨Joins.block_setCell (i := 8) h.kp _, h.bel.setCell h.ws _, h.ws⟩
theorem ex_cells (h : Ex w A x W) : W.cell? ⟨A, 0, none⟩ = some (.int .u64 x.id) ∧ W.cell? ⟨A, 1, none⟩ = some (.string ⟨x.dom.toArray⟩) ∧ W.cell? ⟨A, 2, none⟩ = some (.int .u64 x.ep) ∧ W.cell? ⟨A, 3, none⟩ = some (.int .u64 x.ct) ∧ W.cell? ⟨A, 4, none⟩ = some (.string ⟨x.fl.toArray⟩) ∧ W.cell? ⟨A, 5, none⟩ = some (.string ⟨x.fd.toArray⟩) ∧ W.cell? ⟨A, 6, none⟩ = some (.slice x.A x.n x.c) ∧ W.cell? ⟨A, 7, none⟩ = some (.int .u64 x.born) ∧ W.cell? ⟨A, 8, none⟩ = some (.int .u64 x.next) ∧ W.cell? ⟨A, 9, none⟩ = some (.int .i64 x.tries) :=
  ⟨by rw [Lib.cell_of_heap h.kp]; rfl, by rw [Lib.cell_of_heap h.kp]; rfl, by rw [Lib.cell_of_heap h.kp]; rfl, by rw [Lib.cell_of_heap h.kp]; rfl, by rw [Lib.cell_of_heap h.kp]; rfl, by rw [Lib.cell_of_heap h.kp]; rfl, by rw [Lib.cell_of_heap h.kp]; rfl, by rw [Lib.cell_of_heap h.kp]; rfl, by rw [Lib.cell_of_heap h.kp]; rfl, by rw [Lib.cell_of_heap h.kp]; rfl⟩
theorem ex_frozen (h : Ex w A x W) (i : Nat) : W.frozen? ⟨A, i, none⟩ = false := Lib.frozen_of_heap h.kp i
/-- The world behind the store of a whole entry. -/
abbrev stE (W : World) (B : Nat) (x : En) : World := ((((((((((W.setCell ⟨B, 0, none⟩ (.int .u64 x.id)).setCell ⟨B, 1, none⟩ (.string ⟨x.dom.toArray⟩)).setCell ⟨B, 2, none⟩ (.int .u64 x.ep)).setCell ⟨B, 3, none⟩ (.int .u64 x.ct)).setCell ⟨B, 4, none⟩ (.string ⟨x.fl.toArray⟩)).setCell ⟨B, 5, none⟩ (.string ⟨x.fd.toArray⟩)).setCell ⟨B, 6, none⟩ (.slice x.A x.n x.c)).setCell ⟨B, 7, none⟩ (.int .u64 x.born)).setCell ⟨B, 8, none⟩ (.int .u64 x.next)).setCell ⟨B, 9, none⟩ (.int .i64 x.tries))
theorem ex_put (h : Ex w B y W) (x : En) : Ex w B x (stE W B x) := by
  have hb : Below B W (stE W B x) := ((((((((((Below.refl _ _).setCell (p := ⟨B, 0, none⟩) (Nat.le_refl _) _).setCell (p := ⟨B, 1, none⟩) (Nat.le_refl _) _).setCell (p := ⟨B, 2, none⟩) (Nat.le_refl _) _).setCell (p := ⟨B, 3, none⟩) (Nat.le_refl _) _).setCell (p := ⟨B, 4, none⟩) (Nat.le_refl _) _).setCell (p := ⟨B, 5, none⟩) (Nat.le_refl _) _).setCell (p := ⟨B, 6, none⟩) (Nat.le_refl _) _).setCell (p := ⟨B, 7, none⟩) (Nat.le_refl _) _).setCell (p := ⟨B, 8, none⟩) (Nat.le_refl _) _).setCell (p := ⟨B, 9, none⟩) (Nat.le_refl _) _
  have q := Joins.block_setCell (i := 9) (Joins.block_setCell (i := 8) (Joins.block_setCell (i := 7) (Joins.block_setCell (i := 6) (Joins.block_setCell (i := 5) (Joins.block_setCell (i := 4) (Joins.block_setCell (i := 3) (Joins.block_setCell (i := 2) (Joins.block_setCell (i := 1) (Joins.block_setCell (i := 0) (h.kp) (.int .u64 x.id)) (.string ⟨x.dom.toArray⟩)) (.int .u64 x.ep)) (.int .u64 x.ct)) (.string ⟨x.fl.toArray⟩)) (.string ⟨x.fd.toArray⟩)) (.slice x.A x.n x.c)) (.int .u64 x.born)) (.int .u64 x.next)) (.int .i64 x.tries)
  simp only [enA, List.setIfInBounds_toArray, List.set_cons_zero, List.set_cons_succ] at q
  exact ⟨q, h.bel.trans (hb.mono h.ws), h.ws⟩
theorem ex_keep (h : Ex w A x W) (hn : B ≠ A) (hw : w.heap.size ≤ B) (y : En) : Ex w A x (stE W B y) := ex_other (ex_other (ex_other (ex_other (ex_other (ex_other (ex_other (ex_other (ex_other (ex_other (h) (p := ⟨B, 0, none⟩) hn hw _) (p := ⟨B, 1, none⟩) hn hw _) (p := ⟨B, 2, none⟩) hn hw _) (p := ⟨B, 3, none⟩) hn hw _) (p := ⟨B, 4, none⟩) hn hw _) (p := ⟨B, 5, none⟩) hn hw _) (p := ⟨B, 6, none⟩) hn hw _) (p := ⟨B, 7, none⟩) hn hw _) (p := ⟨B, 8, none⟩) hn hw _) (p := ⟨B, 9, none⟩) hn hw _
end
/-- The entry of what is written back. -/
abbrev bkE (x : En) (g : Nat) : En := ⟨0, x.dom, 0, 0, [], [], some ⟨g, 0, none⟩, 1, 1, x.born, x.next, 0⟩
abbrev bkA (fl fd : List UInt8) (st : Int) : Array Value := #[.string ⟨fl.toArray⟩, .string ⟨fd.toArray⟩, .int .i64 st]

set_option maxRecDepth 100000 in
set_option maxHeartbeats 4000000 in
theorem entry_no (x : En) (g : Nat → To3) (w : World) (hT : Tos w x.A x.n g) (hn : x.n ≤ 1000000) (hno : (x.fl = [] ∧ x.fd = []) ∨ fls g x.n = []) :
    Calls Tryz.prog 14 #[.agg (enA x)] w fun e w' => e = .returned (.tuple #[.agg (enA enZ), .bool false]) ∧ Below w.heap.size w w' := by
  have H1 := Lib.hid (ex_new (Below.refl w.heap.size w) x)
  have H2 := Lib.hid (ex_next H1.out ((Below.refl _ _).alloc (Nat.le_refl _) (.cells (enA enZ) 32)))
  have Z2 : Hid (Ex w (w.heap.size + 1) enZ ((w.alloc (.cells (enA x) 32)).alloc (.cells (enA enZ) 32))) := by have q := ex_new H1.out.bel enZ; rw [World.size_alloc] at q; exact q
  have HF := Lib.hid (failed_any x g ((w.alloc (.cells (enA x) 32)).alloc (.cells (enA enZ) 32)) (tos_below (tos_below hT ((Below.refl _ _).alloc (Nat.le_refl _) _)) ((Below.refl _ _).alloc (Nat.le_refl _) _)) hn)
  have gv := gua24
  obtain ⟨c0, c1, c2, c3, c4, c5, c6, c7, c8, c9⟩ := ex_cells H2.out
  by_cases h2 : x.fl = [] ∧ x.fd = []
  · have ev : ∀ W, (binOp .eql 29 (.agg #[.string ⟨x.fl.toArray⟩, .string ⟨x.fd.toArray⟩]) (.agg #[.string ⟨#[]⟩, .string ⟨#[]⟩])).run Tryz.prog W = .ok (.bool true) W := fun W => by
      rw [eql24, h2.1, h2.2]; simp only [beq_self_eq_true, Bool.and_self]
    have g0 := ex_frozen Z2.out 0
    have g1 := ex_frozen Z2.out 1
    have g2 := ex_frozen Z2.out 2
    have g3 := ex_frozen Z2.out 3
    have g4 := ex_frozen Z2.out 4
    have g5 := ex_frozen Z2.out 5
    have g6 := ex_frozen Z2.out 6
    have g7 := ex_frozen Z2.out 7
    have g8 := ex_frozen Z2.out 8
    have g9 := ex_frozen Z2.out 9
    have P5 := Z2
    clear hno h2 HF hT
    unfold enA at *
    obtain ⟨id, dom, ep, ct, fl, fd, A, n, c, born, next, tries⟩ := x
    simp only [enZ] at *
    go_enter Tryz.func14, Tryz.ntmps14
    go_wp2_with fail
    obtain ⟨p0, p1, p2, p3, p4, p5, p6, p7, p8, p9⟩ := ex_cells P5.out
    refine bodyPost_ret (v := .tuple #[.agg (enA enZ), .bool false]) ?_ rfl ⟨rfl, P5.out.bel⟩
    simp [enZ, results, Tryz.results14, go_sem, p0, p1, p2, p3, p4, p5, p6, p7, p8, p9]
  · have ev : ∀ W, (binOp .eql 29 (.agg #[.string ⟨x.fl.toArray⟩, .string ⟨x.fd.toArray⟩]) (.agg #[.string ⟨#[]⟩, .string ⟨#[]⟩])).run Tryz.prog W = .ok (.bool false) W := fun W => by
      have e1 : ((⟨x.fl.toArray⟩ : ByteArray).toList == (⟨#[]⟩ : ByteArray).toList) = decide (x.fl = []) := (str_beq x.fl []).trans (by rw [Bool.eq_iff_iff]; simp)
      have e2 : ((⟨x.fd.toArray⟩ : ByteArray).toList == (⟨#[]⟩ : ByteArray).toList) = decide (x.fd = []) := (str_beq x.fd []).trans (by rw [Bool.eq_iff_iff]; simp)
      rw [eql24, e1, e2, ← Bool.decide_and, decide_eq_false h2]
    have hl : fls g x.n = [] := hno.resolve_left h2
    rw [hl] at HF
    clear hno h2 hl hT
    unfold enA at *
    obtain ⟨id, dom, ep, ct, fl, fd, A, n, c, born, next, tries⟩ := x
    simp only [enZ] at *
    go_enter Tryz.func14, Tryz.ntmps14
    go_wp2_with fail
    refine HF.out.mono ?_
    rintro e w3 ⟨⟨v, rfl, ho⟩, hb⟩
    obtain ⟨A1, cp, rfl, _⟩ := bow_bos ho
    have Z3 := Lib.hid (ex_next Z2.out hb)
    have g0 := ex_frozen Z3.out 0
    have g1 := ex_frozen Z3.out 1
    have g2 := ex_frozen Z3.out 2
    have g3 := ex_frozen Z3.out 3
    have g4 := ex_frozen Z3.out 4
    have g5 := ex_frozen Z3.out 5
    have g6 := ex_frozen Z3.out 6
    have g7 := ex_frozen Z3.out 7
    have g8 := ex_frozen Z3.out 8
    have g9 := ex_frozen Z3.out 9
    obtain ⟨e0, e1, e2, e3, e4, e5, e6, e7, e8, e9⟩ := ex_cells Z3.out
    have P5 := Lib.hid (ex_put Z3.out ⟨0, [], 0, 0, [], [], none, 0, 0, 0, 0, 0⟩)
    clear ho hb HF
    go_wp2_with fail
    obtain ⟨p0, p1, p2, p3, p4, p5, p6, p7, p8, p9⟩ := ex_cells P5.out
    refine bodyPost_ret (v := .tuple #[.agg (enA enZ), .bool false]) ?_ rfl ⟨rfl, P5.out.bel⟩
    simp [enZ, results, Tryz.results14, go_sem, p0, p1, p2, p3, p4, p5, p6, p7, p8, p9]
theorem ste_block (W : World) (B : Nat) (x : En) (g : Nat) (hg : g ≠ B) : (stE W B x).heap[g]? = W.heap[g]? := (Below.heap_setCell _ _ _ _ hg).trans ((Below.heap_setCell _ _ _ _ hg).trans ((Below.heap_setCell _ _ _ _ hg).trans ((Below.heap_setCell _ _ _ _ hg).trans ((Below.heap_setCell _ _ _ _ hg).trans ((Below.heap_setCell _ _ _ _ hg).trans ((Below.heap_setCell _ _ _ _ hg).trans ((Below.heap_setCell _ _ _ _ hg).trans ((Below.heap_setCell _ _ _ _ hg).trans (Below.heap_setCell _ _ _ _ hg)))))))))

set_option maxRecDepth 100000 in
set_option maxHeartbeats 4000000 in
theorem entry_yes (x : En) (g : Nat → To3) (w : World) (hT : Tos w x.A x.n g) (hn : x.n ≤ 1000000) (h2 : ¬ (x.fl = [] ∧ x.fd = [])) (hne : fls g x.n ≠ []) :
    Calls Tryz.prog 14 #[.agg (enA x)] w fun e w' => (∃ gb, e = .returned (.tuple #[.agg (enA (bkE x gb)), .bool true]) ∧ w.heap.size ≤ gb ∧ w'.heap[gb]? = some (.cells (bkA x.fl x.fd 0) 46 (0, 0))) ∧ Below w.heap.size w w' := by
  have H1 := Lib.hid (ex_new (Below.refl w.heap.size w) x)
  have H2 := Lib.hid (ex_next H1.out ((Below.refl _ _).alloc (Nat.le_refl _) (.cells (enA enZ) 32)))
  have Z2 : Hid (Ex w (w.heap.size + 1) enZ ((w.alloc (.cells (enA x) 32)).alloc (.cells (enA enZ) 32))) := by have q := ex_new H1.out.bel enZ; rw [World.size_alloc] at q; exact q
  have HF := Lib.hid (failed_any x g ((w.alloc (.cells (enA x) 32)).alloc (.cells (enA enZ) 32)) (tos_below (tos_below hT ((Below.refl _ _).alloc (Nat.le_refl _) _)) ((Below.refl _ _).alloc (Nat.le_refl _) _)) hn)
  have gv := gua24
  obtain ⟨c0, c1, c2, c3, c4, c5, c6, c7, c8, c9⟩ := ex_cells H2.out
  have ev : ∀ W, (binOp .eql 29 (.agg #[.string ⟨x.fl.toArray⟩, .string ⟨x.fd.toArray⟩]) (.agg #[.string ⟨#[]⟩, .string ⟨#[]⟩])).run Tryz.prog W = .ok (.bool false) W := fun W => by
    have e1 : ((⟨x.fl.toArray⟩ : ByteArray).toList == (⟨#[]⟩ : ByteArray).toList) = decide (x.fl = []) := (str_beq x.fl []).trans (by rw [Bool.eq_iff_iff]; simp)
    have e2 : ((⟨x.fd.toArray⟩ : ByteArray).toList == (⟨#[]⟩ : ByteArray).toList) = decide (x.fd = []) := (str_beq x.fd []).trans (by rw [Bool.eq_iff_iff]; simp)
    rw [eql24, e1, e2, ← Bool.decide_and, decide_eq_false h2]
  have hpos : 0 < (fls g x.n).length := List.length_pos_iff.2 hne
  have hll := fls_len g x.n
  generalize fls g x.n = l at *
  have hl0 : ((l.length : Int) == 0) = false := beq_false_of_ne (by omega)
  clear h2 hT hne
  unfold enA at *
  obtain ⟨id, dom, ep, ct, fl, fd, A, n, c, born, next, tries⟩ := x
  simp only [enZ] at *
  go_enter Tryz.func14, Tryz.ntmps14
  go_wp2_with fail
  refine HF.out.mono ?_
  rintro e w3 ⟨⟨v, rfl, ho⟩, hb⟩
  obtain ⟨A1, cp, rfl, _⟩ := bow_bos ho
  have X3 := Lib.hid (ex_next H2.out hb)
  have Z3 := Lib.hid (ex_next Z2.out hb)
  have hsz3 : w.heap.size + 2 ≤ w3.heap.size := by have := hb.size; simp only [World.size_alloc] at this; omega
  have Z4 := Lib.hid (ex_next Z3.out ((Below.refl _ _).alloc (Nat.le_refl _) (.cells (bkA fl fd 0) 46)))
  have X4 := Lib.hid (ex_next X3.out ((Below.refl _ _).alloc (Nat.le_refl _) (.cells (bkA fl fd 0) 46)))
  obtain ⟨b0, b1, b2, b3, b4, b5, b6, b7, b8, b9⟩ := ex_cells X3.out
  obtain ⟨k0, k1, k2, k3, k4, k5, k6, k7, k8, k9⟩ := ex_cells X4.out
  obtain ⟨e0, e1, e2, e3, e4, e5, e6, e7, e8, e9⟩ := ex_cells Z4.out
  have g0 := ex_frozen Z4.out 0
  have g1 := ex_frozen Z4.out 1
  have g2 := ex_frozen Z4.out 2
  have g3 := ex_frozen Z4.out 3
  have g4 := ex_frozen Z4.out 4
  have g5 := ex_frozen Z4.out 5
  have g6 := ex_frozen Z4.out 6
  have g7 := ex_frozen Z4.out 7
  have g8 := ex_frozen Z4.out 8
  have g9 := ex_frozen Z4.out 9
  have P5 := Lib.hid (ex_put Z4.out (bkE ⟨id, dom, ep, ct, fl, fd, A, n, c, born, next, tries⟩ w3.heap.size))
  have HGB : Hid ((stE (w3.alloc (.cells (bkA fl fd 0) 46)) (w.heap.size + 1) (bkE ⟨id, dom, ep, ct, fl, fd, A, n, c, born, next, tries⟩ w3.heap.size)).heap[w3.heap.size]? = some (.cells (bkA fl fd 0) 46 (0, 0))) := by
    show _ = _
    rw [ste_block _ _ _ _ (by omega)]
    show (w3.heap.push _)[w3.heap.size]? = _
    rw [Array.getElem?_push_size]
  clear ho hb HF
  go_wp2_with fail
  obtain ⟨p0, p1, p2, p3, p4, p5, p6, p7, p8, p9⟩ := ex_cells P5.out
  refine bodyPost_ret (v := .tuple #[.agg (enA (bkE ⟨id, dom, ep, ct, fl, fd, A, n, c, born, next, tries⟩ w3.heap.size)), .bool true]) ?_ rfl ⟨⟨w3.heap.size, rfl, by omega, HGB.out⟩, P5.out.bel⟩
  simp [results, Tryz.results14, go_sem, p0, p1, p2, p3, p4, p5, p6, p7, p8, p9]
end Go.Proofs.YtkchebbolldmbaaGreatDoor
