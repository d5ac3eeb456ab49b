/-
  PROVED HERE: what ahead of the answer computes.
-/
import Derived.Test.YtocjjfjcepflnaaDoorDue
set_option linter.unusedVariables false
namespace Go.Proofs.YtocjjfjcepflnaaDoor
open Go.RowKit Go.Shelf Go.Lib Go.Sort
/-- An entry and its weight, cell by cell. -/
abbrev dvA (x : En) (q : UInt64) : Array Value := #[.int .u64 x.id, .string ⟨x.dom.toArray⟩, .int .u64 x.ep, .int .u64 x.ct, .string ⟨x.fl.toArray⟩, .string ⟨x.fd.toArray⟩, .slice x.A x.n x.c, .int .u64 x.born, .int .u64 x.next, .int .i64 x.tries, .int .u64 (q.toNat : Int)]
def dwOf (x : En) (q : UInt64) : Dw := ⟨q, x.next, x.id⟩
theorem ahead_cells (w : World) (x y : En) (p q : UInt64) : ∃ W, W = (w.alloc (.cells (dvA x p) 80)).alloc (.cells (dvA y q) 80) ∧ (W.cell? ⟨w.heap.size, 10, none⟩ = some (.int .u64 (p.toNat : Int)) ∧ W.cell? ⟨w.heap.size, 8, none⟩ = some (.int .u64 x.next) ∧ W.cell? ⟨w.heap.size, 0, none⟩ = some (.int .u64 x.id)) ∧
    (W.cell? ⟨w.heap.size + 1, 10, none⟩ = some (.int .u64 (q.toNat : Int)) ∧ W.cell? ⟨w.heap.size + 1, 8, none⟩ = some (.int .u64 y.next) ∧ W.cell? ⟨w.heap.size + 1, 0, none⟩ = some (.int .u64 y.id)) ∧ Below w.heap.size w W := by
  have h1 : (w.alloc (.cells (dvA x p) 80)).heap[w.heap.size]? = some (.cells (dvA x p) 80 (0, 0)) := by show (w.heap.push _)[w.heap.size]? = _; rw [Array.getElem?_push_size]
  have hb : Below (w.alloc (.cells (dvA x p) 80)).heap.size (w.alloc (.cells (dvA x p) 80)) ((w.alloc (.cells (dvA x p) 80)).alloc (.cells (dvA y q) 80)) := (Below.refl _ _).alloc (Nat.le_refl _) _
  have h2 : ((w.alloc (.cells (dvA x p) 80)).alloc (.cells (dvA y q) 80)).heap[w.heap.size]? = some (.cells (dvA x p) 80 (0, 0)) := (hb.block _ (by rw [World.size_alloc]; omega)).trans h1
  have h3 : ((w.alloc (.cells (dvA x p) 80)).alloc (.cells (dvA y q) 80)).heap[w.heap.size + 1]? = some (.cells (dvA y q) 80 (0, 0)) := by
    have e : w.heap.size + 1 = (w.alloc (.cells (dvA x p) 80)).heap.size := by rw [World.size_alloc]
    rw [e]
    show ((w.alloc (.cells (dvA x p) 80)).heap.push _)[(w.alloc (.cells (dvA x p) 80)).heap.size]? = _
    rw [Array.getElem?_push_size]
  refine ⟨_, rfl, ⟨?_, ?_, ?_⟩, ⟨?_, ?_, ?_⟩, ((Below.refl _ _).alloc (Nat.le_refl _) _).alloc (by rw [World.size_alloc]; omega) _⟩
  · rw [Lib.cell_of_heap h2]; rfl
  · rw [Lib.cell_of_heap h2]; rfl
  · rw [Lib.cell_of_heap h2]; rfl
  · rw [Lib.cell_of_heap h3]; rfl
  · rw [Lib.cell_of_heap h3]; rfl
  · rw [Lib.cell_of_heap h3]; rfl

set_option maxRecDepth 100000 in
set_option maxHeartbeats 4000000 in
theorem ahead_any (x y : En) (p q : UInt64) (w : World) : Calls Tryd.prog 39 #[.agg (dvA x p), .agg (dvA y q)] w fun e w' => e = .returned (.bool (ltOf cmpDw (dwOf x p) (dwOf y q))) ∧ Below w.heap.size w w' := by
  have hp := UInt64.toNat_lt p
  have hq := UInt64.toNat_lt q
  have CC := Lib.hid (fun W => rcompare_any (p.toNat : Int) (q.toNat : Int) W (by omega) (by omega) (by omega) (by omega))
  have HL := Lib.hid (dw_less (dwOf x p) (dwOf y q))
  have c1 := cmpI_lt (Wgh.wt p.toNat) (Wgh.wt q.toNat)
  have c0 := cmpI_zero (Wgh.wt p.toNat) (Wgh.wt q.toNat)
  have HC : Hid (Wgh.cmpW (p.toNat : Int).toNat (q.toNat : Int).toNat = Pln.cmpI (Wgh.wt p.toNat) (Wgh.wt q.toNat)) := rfl
  obtain ⟨W, hW, ⟨a1, a2, a3⟩, ⟨b1, b2, b3⟩, hB⟩ := ahead_cells w x y p q
  have HB := Lib.hid hB
  rw [HC.out] at CC
  have HLT : Hid (∀ b : Bool, (b = true ↔ (Wgh.wt p.toNat < Wgh.wt q.toNat ∨ (Wgh.wt p.toNat = Wgh.wt q.toNat ∧ (x.next < y.next ∨ (x.next = y.next ∧ x.id < y.id))))) → b = ltOf cmpDw (dwOf x p) (dwOf y q)) := fun b h => Bool.eq_iff_iff.2 (h.trans HL.out.symm)
  clear hp hq hB HL HC
  generalize ltOf cmpDw (dwOf x p) (dwOf y q) = r at *
  generalize Pln.cmpI (Wgh.wt p.toNat) (Wgh.wt q.toNat) = c at *
  generalize Wgh.wt p.toNat = u at *
  generalize Wgh.wt q.toNat = v at *
  by_cases h0 : c = 0
  · have hcz : (c == 0) = true := by simp [h0]
    by_cases h1 : x.next = y.next
    · have HV : Hid (decide (x.id < y.id) = r) := HLT.out _ (by rw [decide_eq_true_iff]; omega)
      have e1 : (x.next == y.next) = true := by simp [h1]
      rw [← h1] at b2
      subst h0
      clear c1 c0 hcz e1
      go_enter Tryd.func39, Tryd.ntmps39
      go_wp2_with fail
      rw [← hW]
      refine (CC.out _).mono ?_
      rintro e w' ⟨rfl, rfl⟩
      clear hW
      go_wp2_with fail
      go_ret
      exact ⟨by rw [← HV.out]; rfl, HB.out⟩
    · have HV : Hid (decide (x.next < y.next) = r) := HLT.out _ (by rw [decide_eq_true_iff]; omega)
      have e1 : (x.next == y.next) = false := by simpa using h1
      subst h0
      clear c1 c0 hcz
      go_enter Tryd.func39, Tryd.ntmps39
      go_wp2_with fail
      rw [← hW]
      refine (CC.out _).mono ?_
      rintro e w' ⟨rfl, rfl⟩
      clear hW
      go_wp2_with fail
      go_ret
      exact ⟨by rw [← HV.out]; rfl, HB.out⟩
  · have HV : Hid (decide (c < 0) = r) := HLT.out _ (by rw [decide_eq_true_iff]; omega)
    have hcz : (c == 0) = false := by simpa using h0
    clear c1 c0
    go_enter Tryd.func39, Tryd.ntmps39
    go_wp2_with fail
    rw [← hW]
    refine (CC.out _).mono ?_
    rintro e w' ⟨rfl, rfl⟩
    clear hW
    go_wp2_with fail
    go_ret
    exact ⟨by rw [← HV.out]; rfl, HB.out⟩
end Go.Proofs.YtocjjfjcepflnaaDoor
