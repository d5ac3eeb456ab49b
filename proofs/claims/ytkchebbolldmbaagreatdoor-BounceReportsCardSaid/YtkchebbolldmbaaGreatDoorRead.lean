/-
  PROVED HERE: what the program's Read computes.
-/
import Derived.Test.YtkchebbolldmbaaGreatDoorCat
set_option linter.unusedVariables false
namespace Go.Proofs.YtkchebbolldmbaaGreatDoor
open Go.RowKit
variable {m : Int} {w W W1 : World} {T r : List UInt8} {b : Nat}
/-- What Read answers. -/
def readV (T : List UInt8) : Value :=
  match Adr.rdP T with
  | none => .tuple #[bxV [] [], .string ⟨#[]⟩, .int .i64 2]
  | some (l, d, r) => .tuple #[bxV l d, .string ⟨r.toArray⟩, .int .i64 0]
/-- The three results of Read stand at their cells, behind the world w. -/
structure K3 (m : Int) (w W : World) : Prop where
  a : W.heap[w.heap.size]? = some (.cells #[.string ⟨#[]⟩, .string ⟨#[]⟩] 54 (0, 0))
  b : W.heap[w.heap.size + 1]? = some (.cells #[.string ⟨#[]⟩] 9 (0, 0))
  c : W.heap[w.heap.size + 2]? = some (.cells #[.int .i64 0] 34 (0, 0))
  at' : At m w W
def w0 (w : World) (T : List UInt8) : World := (((w.alloc (.cells #[.string ⟨#[]⟩, .string ⟨#[]⟩] 54)).alloc (.cells #[.string ⟨#[]⟩] 9)).alloc (.cells #[.int .i64 0] 34)).alloc (.cells #[.string ⟨T.toArray⟩] 107)
theorem w0_size (w : World) (T : List UInt8) : (w0 w T).heap.size = w.heap.size + 4 := by unfold w0; simp
theorem k3_start (hm : w.cell? ⟨3, 0, none⟩ = some (.int .i64 m)) : K3 m w (w0 w T) := by
  have hb : Below w.heap.size w (w0 w T) := ((((Below.refl _ _).alloc (Nat.le_refl _) _).alloc (by simp) _).alloc (by simp; omega) _).alloc (by simp; omega) _
  refine ⟨?_, ?_, ?_, hb, by rw [hb.cell (World.block_lt_of_cell? _ _ hm)]; exact hm⟩
  · show ((((w.heap.push _).push _).push _).push _)[w.heap.size]? = _
    rw [Array.getElem?_push, Array.getElem?_push, Array.getElem?_push, Array.getElem?_push]
    simp only [Array.size_push]
    rw [if_neg (by omega), if_neg (by omega), if_neg (by omega), if_pos trivial]
  · show ((((w.heap.push _).push _).push _).push _)[w.heap.size + 1]? = _
    rw [Array.getElem?_push, Array.getElem?_push, Array.getElem?_push]
    simp only [Array.size_push]
    rw [if_neg (by omega), if_neg (by omega), if_pos trivial]
  · show ((((w.heap.push _).push _).push _).push _)[w.heap.size + 2]? = _
    rw [Array.getElem?_push, Array.getElem?_push]
    simp only [Array.size_push]
    rw [if_neg (by omega), if_pos trivial]
theorem rr_start (hm : w.cell? ⟨3, 0, none⟩ = some (.int .i64 m)) : Rr m (w0 w T) (w.heap.size + 3) (w0 w T) T := by
  refine ⟨Av.refl (k3_start hm).at'.cell, ?_, by have : 3 < w.heap.size := World.block_lt_of_cell? _ _ hm; omega⟩
  show ((((w.heap.push _).push _).push _).push _)[w.heap.size + 3]? = _
  rw [Array.getElem?_push]
  simp only [Array.size_push]
  rw [if_pos trivial]
theorem k3_av (h : K3 m w (w0 w T)) (g : Av (w.heap.size + 3) m (w0 w T) W) : K3 m w W := by
  have hs := w0_size w T
  exact ⟨(g.block _ (by omega) (by omega)).trans h.a, (g.block _ (by omega) (by omega)).trans h.b, (g.block _ (by omega) (by omega)).trans h.c, ⟨h.at'.below.trans (g.below (by omega) (by omega)), g.cell⟩⟩
theorem k3_next (h : K3 m w W) (g : Below W.heap.size W W1) : K3 m w W1 := by
  have hs : w.heap.size + 2 < W.heap.size := (Array.getElem?_eq_some_iff.1 h.c).1
  exact ⟨(g.block _ (by omega)).trans h.a, (g.block _ (by omega)).trans h.b, (g.block _ (by omega)).trans h.c, h.at'.next g⟩
theorem k3_cells (h : K3 m w W) : (W.cell? ⟨w.heap.size, 0, none⟩ = some (.string ⟨#[]⟩) ∧ W.cell? ⟨w.heap.size, 1, none⟩ = some (.string ⟨#[]⟩) ∧ W.cell? ⟨w.heap.size + 1, 0, none⟩ = some (.string ⟨#[]⟩) ∧ W.cell? ⟨w.heap.size + 2, 0, none⟩ = some (.int .i64 0)) ∧
    W.frozen? ⟨w.heap.size, 0, none⟩ = false ∧ W.frozen? ⟨w.heap.size, 1, none⟩ = false ∧ W.frozen? ⟨w.heap.size + 1, 0, none⟩ = false ∧ W.frozen? ⟨w.heap.size + 2, 0, none⟩ = false :=
  ⟨⟨by rw [Lib.cell_of_heap h.a]; rfl, by rw [Lib.cell_of_heap h.a]; rfl, by rw [Lib.cell_of_heap h.b]; rfl, by rw [Lib.cell_of_heap h.c]; rfl⟩, Lib.frozen_of_heap h.a 0, Lib.frozen_of_heap h.a 1, Lib.frozen_of_heap h.b 0, Lib.frozen_of_heap h.c 0⟩

/-- The three results of Read, written. -/
structure K4 (m : Int) (w W : World) (x y r : List UInt8) (i : Int) : Prop where
  a : W.heap[w.heap.size]? = some (.cells #[.string ⟨x.toArray⟩, .string ⟨y.toArray⟩] 54 (0, 0))
  b : W.heap[w.heap.size + 1]? = some (.cells #[.string ⟨r.toArray⟩] 9 (0, 0))
  c : W.heap[w.heap.size + 2]? = some (.cells #[.int .i64 i] 34 (0, 0))
  below : Below w.heap.size w W
theorem k4_of (h : K3 m w W) : K4 m w W [] [] [] 0 := ⟨h.a, h.b, h.c, h.at'.below⟩
theorem k4_box {x y r : List UInt8} {i : Int} (h : K4 m w W x y r i) (x' y' : List UInt8) : K4 m w ((W.setCell ⟨w.heap.size, 0, none⟩ (.string ⟨x'.toArray⟩)).setCell ⟨w.heap.size, 1, none⟩ (.string ⟨y'.toArray⟩)) x' y' r i :=
  ⟨Joins.block_setCell (i := 1) (Joins.block_setCell (i := 0) h.a _) _, ((Below.heap_setCell _ _ _ _ (by show _ ≠ w.heap.size; omega)).trans (Below.heap_setCell _ _ _ _ (by show _ ≠ w.heap.size; omega))).trans h.b,
    ((Below.heap_setCell _ _ _ _ (by show _ ≠ w.heap.size; omega)).trans (Below.heap_setCell _ _ _ _ (by show _ ≠ w.heap.size; omega))).trans h.c, (h.below.setCell (p := ⟨w.heap.size, 0, none⟩) (Nat.le_refl _) _).setCell (p := ⟨w.heap.size, 1, none⟩) (Nat.le_refl _) _⟩
theorem k4_rest {x y r : List UInt8} {i : Int} (h : K4 m w W x y r i) (r' : List UInt8) : K4 m w (W.setCell ⟨w.heap.size + 1, 0, none⟩ (.string ⟨r'.toArray⟩)) x y r' i :=
  ⟨(Below.heap_setCell _ _ _ _ (by show _ ≠ w.heap.size + 1; omega)).trans h.a, Joins.block_setCell (i := 0) h.b _, (Below.heap_setCell _ _ _ _ (by show _ ≠ w.heap.size + 1; omega)).trans h.c, h.below.setCell (p := ⟨w.heap.size + 1, 0, none⟩) (Nat.le_succ _) _⟩
theorem k4_code {x y r : List UInt8} {i : Int} (h : K4 m w W x y r i) (i' : Int) : K4 m w (W.setCell ⟨w.heap.size + 2, 0, none⟩ (.int .i64 i')) x y r i' :=
  ⟨(Below.heap_setCell _ _ _ _ (by show _ ≠ w.heap.size + 2; omega)).trans h.a, (Below.heap_setCell _ _ _ _ (by show _ ≠ w.heap.size + 2; omega)).trans h.b, Joins.block_setCell (i := 0) h.c _, h.below.setCell (p := ⟨w.heap.size + 2, 0, none⟩) (Nat.le_add_right _ _) _⟩
theorem k4_next {x y r : List UInt8} {i : Int} (h : K4 m w W x y r i) (g : Below W.heap.size W W1) : K4 m w W1 x y r i := by
  have hs : w.heap.size + 2 < W.heap.size := (Array.getElem?_eq_some_iff.1 h.c).1
  exact ⟨(g.block _ (by omega)).trans h.a, (g.block _ (by omega)).trans h.b, (g.block _ (by omega)).trans h.c, h.below.trans (g.mono h.below.size)⟩
theorem k4_cells {x y r : List UInt8} {i : Int} (h : K4 m w W x y r i) : W.cell? ⟨w.heap.size, 0, none⟩ = some (.string ⟨x.toArray⟩) ∧ W.cell? ⟨w.heap.size, 1, none⟩ = some (.string ⟨y.toArray⟩) ∧ W.cell? ⟨w.heap.size + 1, 0, none⟩ = some (.string ⟨r.toArray⟩) ∧ W.cell? ⟨w.heap.size + 2, 0, none⟩ = some (.int .i64 i) :=
  ⟨by rw [Lib.cell_of_heap h.a]; rfl, by rw [Lib.cell_of_heap h.a]; rfl, by rw [Lib.cell_of_heap h.b]; rfl, by rw [Lib.cell_of_heap h.c]; rfl⟩

set_option maxRecDepth 100000 in
set_option maxHeartbeats 1000000 in
theorem read_any (T : List UInt8) (m : Int) (w : World) (hs : T.length < 4294967281) (hm : w.cell? ⟨3, 0, none⟩ = some (.int .i64 m)) :
    Calls Tryz.prog 65 #[.string ⟨T.toArray⟩] w fun e w' => e = .returned (readV T) ∧ Below w.heap.size w w' := by
  have hmf : ∀ (fn : Fn) (first cap : Array Value) (w : World), (Instr.makeFunc fn first cap).run Tryz.prog w = .ok (.func fn first cap) w := fun _ _ _ _ => rfl
  have HK := Lib.hid (k3_start (T := T) hm)
  have HR := Lib.hid (rr_start (T := T) hm)
  have HP := Lib.hid (rdP_any (by have := w0_size w T; omega) HR.out hs)
  unfold readV
  clear hm
  cases ho : Adr.rdP T with
  | none =>
    rw [ho] at HP
    unfold w0 at *
    clear ho
    go_enter_defers Tryz.func65, Tryz.ntmps65
    go_wp2_with fail
    refine HP.out.mono ?_
    rintro e w1 ⟨rfl, h1⟩
    have K1 := Lib.hid (k3_av HK.out h1)
    have K2 := Lib.hid (k3_next K1.out ((Below.refl _ _).alloc (Nat.le_refl _) (.cells #[] 103)))
    obtain ⟨⟨c1, c2, c3, c4⟩, f1, f2, f3, f4⟩ := k3_cells K2.out
    clear h1
    refine leaves_cons (f := 84) (args := #[.pointer (some ⟨w.heap.size, 0, none⟩), .pointer (some ⟨w.heap.size + 1, 0, none⟩), .pointer (some ⟨w.heap.size + 2, 0, none⟩)]) (by simp) (by simp [go_sem]) ?_
    refine (catch_yes w.heap.size w1 _ [] rfl _ _ _ _ c1 c2 c3 c4 f1 f2 f3 f4).mono ?_
    rintro e u' w'' ⟨rfl, rfl, rfl⟩
    simp [Leaves, settle, results, Tryz.results65, go_sem, c1, c2, c3, c4]
    exact ⟨rfl, (((K2.out.at'.below.setCell (p := ⟨w.heap.size, 0, none⟩) (Nat.le_refl _) _).setCell (p := ⟨w.heap.size, 1, none⟩) (Nat.le_refl _) _).setCell (p := ⟨w.heap.size + 1, 0, none⟩) (Nat.le_succ _) _).setCell (p := ⟨w.heap.size + 2, 0, none⟩) (Nat.le_add_right _ _) _⟩
  | some p =>
    obtain ⟨l, d, r⟩ := p
    rw [ho] at HP
    replace HP : Hid (Calls Tryz.prog 85 #[.pointer (some ⟨w.heap.size + 3, 0, none⟩)] (w0 w T) fun e w' => e = .returned (.agg #[.string ⟨l.toArray⟩, .string ⟨d.toArray⟩]) ∧ Rr m (w0 w T) (w.heap.size + 3) w' r) := HP
    unfold w0 at *
    clear ho
    go_enter_defers Tryz.func65, Tryz.ntmps65
    go_wp2_with fail
    refine HP.out.mono ?_
    rintro e w1 ⟨rfl, h1⟩
    have K1 := Lib.hid (k3_av HK.out h1.at')
    obtain ⟨⟨c1, c2, c3, c4⟩, f1, f2, f3, f4⟩ := k3_cells K1.out
    obtain ⟨c5, f5⟩ := rr_cell h1
    clear h1
    go_wp2_with fail
    go_big_region
    go_wp2_with fail
    have K6 := Lib.hid (k4_next (k4_code (k4_rest (k4_box (k4_box (k4_of K1.out) l d) l d) r) 0) ((Below.refl _ _).alloc (Nat.le_refl _) (.cells #[] 103)))
    obtain ⟨d1, d2, d3, d4⟩ := k4_cells K6.out
    refine leaves_cons (f := 84) (args := #[.pointer (some ⟨w.heap.size, 0, none⟩), .pointer (some ⟨w.heap.size + 1, 0, none⟩), .pointer (some ⟨w.heap.size + 2, 0, none⟩)]) (by simp) (by simp [go_sem]) ?_
    refine (catch_no _ _ _ _).mono ?_
    rintro e u' w'' ⟨rfl, rfl, rfl⟩
    simp only [Nat.add_assoc, Nat.reduceAdd]
    generalize World.alloc _ _ = W at *
    clear c1 c2 c3 c4 c5
    simp [Leaves, settle, results, Tryz.results65, go_sem, d1, d2, d3, d4]
    exact ⟨rfl, K6.out.below.drew⟩
end Go.Proofs.YtkchebbolldmbaaGreatDoor
