/-
  PROVED HERE: what the program's Parse computes.
-/
import Derived.Test.YtkchebbolldmbaaGreatDoorRead
set_option linter.unusedVariables false
namespace Go.Proofs.YtkchebbolldmbaaGreatDoor
open Go.RowKit
/-- What Parse answers. -/
def parseV (T : List UInt8) : Value :=
  match Adr.rdP T with
  | some (l, d, []) => .tuple #[bxV l d, .int .i64 0]
  | _ => .tuple #[bxV [] [], .int .i64 2]
theorem parse_none {T : List UInt8} (h : Adr.rdP T = none) : parseV T = .tuple #[bxV [] [], .int .i64 2] := by unfold parseV; rw [h]
theorem parse_some {T l d : List UInt8} (h : Adr.rdP T = some (l, d, [])) : parseV T = .tuple #[bxV l d, .int .i64 0] := by unfold parseV; rw [h]
theorem parse_more {T l d r : List UInt8} {x : UInt8} (h : Adr.rdP T = some (l, d, x :: r)) : parseV T = .tuple #[bxV [] [], .int .i64 2] := by unfold parseV; rw [h]
/-- Two strings at a block of the call's own. -/
structure Bx (m : Int) (w : World) (A : Nat) (x y : List UInt8) (W : World) : Prop where
  at' : At m w W
  kp : W.heap[A]? = some (.cells #[.string ⟨x.toArray⟩, .string ⟨y.toArray⟩] 54 (0, 0))
  ws : w.heap.size ≤ A
  pos : 3 < A
variable {m : Int} {w W W1 : World} {A : Nat} {x y : List UInt8}
theorem bx_new (h : At m w W) (x y : List UInt8) : Bx m w W.heap.size x y (W.alloc (.cells #[.string ⟨x.toArray⟩, .string ⟨y.toArray⟩] 54)) := by
  refine ⟨h.next ((Below.refl _ _).alloc (Nat.le_refl _) _), ?_, h.below.size, World.block_lt_of_cell? _ _ h.cell⟩
  show (W.heap.push _)[W.heap.size]? = _
  rw [Array.getElem?_push_size]
theorem at_refl (hm : w.cell? ⟨3, 0, none⟩ = some (.int .i64 m)) : At m w w := ⟨Below.refl _ _, hm⟩
theorem bx_next (h : Bx m w A x y W) (g : Below W.heap.size W W1) : Bx m w A x y W1 :=
  ⟨h.at'.next g, (g.block _ (Array.getElem?_eq_some_iff.1 h.kp).1).trans h.kp, h.ws, h.pos⟩
theorem bx_alloc (h : Bx m w A x y W) (o : Obj) : Bx m w A x y (W.alloc o) := bx_next h ((Below.refl _ _).alloc (Nat.le_refl _) o)
theorem bx_put (h : Bx m w A x y W) (x' y' : List UInt8) : Bx m w A x' y' ((W.setCell ⟨A, 0, none⟩ (.string ⟨x'.toArray⟩)).setCell ⟨A, 1, none⟩ (.string ⟨y'.toArray⟩)) := by
  have hb : Below A W ((W.setCell ⟨A, 0, none⟩ (.string ⟨x'.toArray⟩)).setCell ⟨A, 1, none⟩ (.string ⟨y'.toArray⟩)) := ((Below.refl _ _).setCell (p := ⟨A, 0, none⟩) (Nat.le_refl _) _).setCell (p := ⟨A, 1, none⟩) (Nat.le_refl _) _
  exact ⟨⟨h.at'.below.trans (hb.mono h.ws), by rw [hb.cell (p := ⟨3, 0, none⟩) h.pos]; exact h.at'.cell⟩, Joins.block_setCell (i := 1) (Joins.block_setCell (i := 0) h.kp _) _, h.ws, h.pos⟩
theorem bx_cells (h : Bx m w A x y W) : (W.cell? ⟨A, 0, none⟩ = some (.string ⟨x.toArray⟩) ∧ W.frozen? ⟨A, 0, none⟩ = false) ∧ W.cell? ⟨A, 1, none⟩ = some (.string ⟨y.toArray⟩) ∧ W.frozen? ⟨A, 1, none⟩ = false :=
  ⟨⟨by rw [Lib.cell_of_heap h.kp]; rfl, Lib.frozen_of_heap h.kp 0⟩, by rw [Lib.cell_of_heap h.kp]; rfl, Lib.frozen_of_heap h.kp 1⟩

set_option maxRecDepth 100000 in
set_option maxHeartbeats 1000000 in
theorem parse_any (T : List UInt8) (m : Int) (w : World) (hs : T.length < 4294967281) (hm : w.cell? ⟨3, 0, none⟩ = some (.int .i64 m)) :
    Calls Tryz.prog 48 #[.string ⟨T.toArray⟩] w fun e w' => e = .returned (parseV T) ∧ Below w.heap.size w w' := by
  have HX := Lib.hid (bx_new (at_refl hm) [] [])
  have HR := Lib.hid (fun (W : World) (h : At m w W) => read_any T m W hs h.cell)
  clear hm
  unfold readV bxV at HR
  cases ho : Adr.rdP T with
  | none =>
    rw [parse_none ho]
    rw [ho] at HR
    clear ho
    go_enter Tryz.func48, Tryz.ntmps48
    go_wp2_with fail
    refine (HR.out _ HX.out.at').mono ?_
    rintro e w1 ⟨rfl, h1⟩
    have H1 := Lib.hid (bx_next HX.out h1)
    have H2 := Lib.hid (bx_alloc H1.out (.cells #[.string ⟨([] : List UInt8).toArray⟩, .string ⟨([] : List UInt8).toArray⟩] 54))
    have H3 := Lib.hid (bx_new H1.out.at' [] [])
    obtain ⟨⟨c1, f1⟩, c2, f2⟩ := bx_cells H2.out
    obtain ⟨⟨c3, f3⟩, c4, f4⟩ := bx_cells H3.out
    have H4 := Lib.hid (bx_put H2.out [] [])
    obtain ⟨⟨c5, f5⟩, c6, f6⟩ := bx_cells H4.out
    clear h1
    go_wp2_with fail
    refine bodyPost_ret (v := .tuple #[bxV [] [], .int .i64 2]) ?_ rfl ⟨rfl, H4.out.at'.below⟩
    simp [results, Tryz.results48, go_sem, c5, c6, bxV]
  | some p =>
    obtain ⟨l, d, r⟩ := p
    cases r with
    | nil =>
      rw [parse_some ho]
      rw [ho] at HR
      clear ho
      go_enter Tryz.func48, Tryz.ntmps48
      go_wp2_with fail
      refine (HR.out _ HX.out.at').mono ?_
      rintro e w1 ⟨rfl, h1⟩
      have H1 := Lib.hid (bx_next HX.out h1)
      have H2 := Lib.hid (bx_alloc H1.out (.cells #[.string ⟨(l : List UInt8).toArray⟩, .string ⟨(d : List UInt8).toArray⟩] 54))
      have H3 := Lib.hid (bx_new H1.out.at' l d)
      obtain ⟨⟨c1, f1⟩, c2, f2⟩ := bx_cells H2.out
      obtain ⟨⟨c3, f3⟩, c4, f4⟩ := bx_cells H3.out
      have H4 := Lib.hid (bx_put H2.out l d)
      obtain ⟨⟨c5, f5⟩, c6, f6⟩ := bx_cells H4.out
      clear h1
      go_wp2_with fail
      refine bodyPost_ret (v := .tuple #[bxV l d, .int .i64 0]) ?_ rfl ⟨rfl, H4.out.at'.below⟩
      simp [results, Tryz.results48, go_sem, c5, c6, bxV]
    | cons x r =>
      rw [parse_more ho]
      rw [ho] at HR
      clear ho
      have e4 := emp_beq ⟨(x :: r).toArray⟩
      have e5 := emp_bne ⟨(x :: r).toArray⟩
      rw [show (⟨(x :: r).toArray⟩ : ByteArray).data.toList.isEmpty = false from rfl] at e4
      rw [show (!(⟨(x :: r).toArray⟩ : ByteArray).data.toList.isEmpty) = true from rfl] at e5
      have e6 : ¬ (⟨(x :: r).toArray⟩ : ByteArray).toList = [] := fun e => by rw [e] at e4; cases e4
      go_enter Tryz.func48, Tryz.ntmps48
      go_wp2_with fail
      refine (HR.out _ HX.out.at').mono ?_
      rintro e w1 ⟨rfl, h1⟩
      have H1 := Lib.hid (bx_next HX.out h1)
      have H2 := Lib.hid (bx_alloc H1.out (.cells #[.string ⟨(l : List UInt8).toArray⟩, .string ⟨(d : List UInt8).toArray⟩] 54))
      have H3 := Lib.hid (bx_new H1.out.at' l d)
      obtain ⟨⟨c1, f1⟩, c2, f2⟩ := bx_cells H2.out
      obtain ⟨⟨c3, f3⟩, c4, f4⟩ := bx_cells H3.out
      have H4 := Lib.hid (bx_put H2.out [] [])
      obtain ⟨⟨c5, f5⟩, c6, f6⟩ := bx_cells H4.out
      clear h1
      go_wp2_with fail
      refine bodyPost_ret (v := .tuple #[bxV [] [], .int .i64 2]) ?_ rfl ⟨rfl, H4.out.at'.below⟩
      simp [results, Tryz.results48, go_sem, c5, c6, bxV]
end Go.Proofs.YtkchebbolldmbaaGreatDoor
