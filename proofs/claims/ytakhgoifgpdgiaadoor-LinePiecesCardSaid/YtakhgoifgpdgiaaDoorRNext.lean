/-
  PROVED HERE: what Next of the answer's reader computes (the walk).
-/
import Derived.Test.YtakhgoifgpdgiaaDoorNextW
import Derived.BigRegion
set_option linter.unusedVariables false
namespace Go.Proofs.YtakhgoifgpdgiaaDoor
open Go.RowKit

/-- The answer's reader in memory: the most, what came. -/
def RRd (w : World) (b : Nat) (n : Int) (t : List UInt8) : Prop := w.heap[b]? = some (.cells #[.int .i64 n, .string ⟨t.toArray⟩] 39 (0, 0))
theorem rrd_cells {w : World} {b : Nat} {n : Int} {t : List UInt8} (h : RRd w b n t) :
    w.cell? ⟨b, 0, none⟩ = some (.int .i64 n) ∧ w.cell? ⟨b, 1, none⟩ = some (.string ⟨t.toArray⟩) ∧ w.frozen? ⟨b, 1, none⟩ = false :=
  ⟨by rw [Lib.cell_of_heap h]; rfl, by rw [Lib.cell_of_heap h]; rfl, Lib.frozen_of_heap h 1⟩
theorem rrd_set1 {w : World} {b : Nat} {n : Int} {t : List UInt8} (h : RRd w b n t) (x : List UInt8) : RRd (w.setCell ⟨b, 1, none⟩ (.string ⟨x.toArray⟩)) b n x := by
  have := Joins.block_setCell (i := 1) h (.string ⟨x.toArray⟩)
  exact this
theorem rrd_lt {w : World} {b : Nat} {n : Int} {t : List UInt8} (h : RRd w b n t) : b < w.heap.size := by
  unfold RRd at h
  exact (Array.getElem?_eq_some_iff.1 h).1
theorem rrd_below {w w' : World} {b : Nat} {n : Int} {t : List UInt8} (h : RRd w b n t) (hb : Below w.heap.size w w') : RRd w' b n t := (hb.block b (rrd_lt h)).trans h

set_option maxRecDepth 100000 in
set_option maxHeartbeats 4000000 in
theorem rnext_any (b : Nat) (n : Int) (t : List UInt8) (w : World) (h : RRd w b n t) (hs : t.length < 4294967281) :
    Calls Tryd.prog 25 #[.pointer (some ⟨b, 0, none⟩)] w fun e w' => e = .returned (nxtV n t) ∧ RRd w' b n (Lin.nxt n t).2.2.2 ∧ But (fun k => k = b) w.heap.size w w' := by
  obtain ⟨c0, c1, f1⟩ := rrd_cells h
  have hj := joi_spl_le t
  have HSP := Lib.hid (rsplit_any ⟨t.toArray⟩ w (by rw [size_mk]; exact hs))
  rw [show (⟨t.toArray⟩ : ByteArray).data.toList = t from rfl] at HSP
  have HR := Lib.hid h
  clear h
  cases hL : (Lin.spl t).1 with
  | nil =>
    rw [hL] at HSP
    have HN := Lib.hid (nxt_none (n := n) hL)
    clear hL hj
    go_enter Tryd.func25, Tryd.ntmps25
    go_wp2_with (go_at_call 12; refine Calls.mono HSP.out ?_; rintro e w1 ⟨⟨A, c, rfl, HT⟩, HB1⟩)
    go_ret3
    unfold nxtV
    rw [HN.out]
    exact ⟨rfl, rrd_below HR.out HB1, But.of HB1⟩
  | cons x l =>
    rw [hL] at HSP hj
    have hxl : x.length + 2 ≤ t.length := by
      simp only [Lin.joi, Lin.E, List.length_append, List.length_cons, List.length_nil] at hj
      omega
    have HB := Lib.hid (fun g => nxt_big (n := n) hL g)
    have HF := Lib.hid (fun g => nxt_fit (n := n) hL g)
    clear hL hj
    go_enter Tryd.func25, Tryd.ntmps25
    go_wp2_with (go_at_call 12; refine Calls.mono HSP.out ?_; rintro e w1 ⟨⟨A, c, rfl, HT⟩, HB1⟩)
    have HR1 : Hid (RRd w1 b n t) := rrd_below HR.out HB1
    obtain ⟨d0, d1, g1⟩ := rrd_cells HR1.out
    obtain ⟨b1, o1, rfl, t1⟩ := HT 0 (by rw [List.length_cons]; omega)
    rw [show at' (x :: l) 0 = x from rfl, Nat.add_zero] at t1
    have HBB := Lib.hid HB1
    have HTT := Lib.hid HT
    have hw : IntKind.i64.wrap ((x.length : Int) + 2) = ((x.length + 2 : Nat) : Int) := by rw [IntKind.wrap_i64]; omega
    have hxz : ((x.length + 2 : Nat) : Int) ≤ (t.length : Int) := by omega
    have hl : 0 < (x :: l).length := by rw [List.length_cons]; omega
    clear HT HB1 c0 c1 f1
    go_big_region
    go_wp2_with fail
    have e2 : ((⟨t.toArray⟩ : ByteArray).extract (x.length + 2) t.length) = ⟨(t.drop (x.length + 2)).toArray⟩ := by
      have := Lib.extract_to_end (⟨t.toArray⟩ : ByteArray) (x.length + 2)
      rw [size_mk, show (⟨t.toArray⟩ : ByteArray).data.toList = t from rfl] at this
      rw [← this, Lib.mk_data]
    rw [e2]
    have hne : b1 ≠ b := fun e => by
      subst e
      rw [Lib.cell_of_heap HR1.out] at t1
      match o1, t1 with
      | 0, t1 => cases t1
      | 1, t1 =>
        have := Option.some.inj t1
        injection this with h1
        have h2 := congrArg (fun s : ByteArray => s.data.toList.length) h1
        simp only at h2
        omega
      | o + 2, t1 => simp at t1
    have HR2 := Lib.hid (rrd_set1 HR1.out (t.drop (x.length + 2)))
    have HW := Lib.hid (but_set w.heap.size w1 b 1 (.string ⟨(t.drop (x.length + 2)).toArray⟩))
    have t2 : (w1.setCell ⟨b, 1, none⟩ (.string ⟨(t.drop (x.length + 2)).toArray⟩)).cell? ⟨b1, o1, none⟩ = some (.string ⟨x.toArray⟩) :=
      (World.cell?_of_block (Below.heap_setCell _ _ _ _ hne)).trans t1
    clear e2 d0 d1 g1 t1
    obtain ⟨d0, d1, g1⟩ := rrd_cells HR2.out
    generalize w1.setCell ⟨b, 1, none⟩ (.string ⟨(t.drop (x.length + 2)).toArray⟩) = w2 at *
    go_quiet (fail)
    go_wp2_with fail
    all_goals go_ret3
    · have hc : n < (x.length : Int) := by assumption
      unfold nxtV
      rw [HB.out hc]
      exact ⟨rfl, HR2.out, (But.of HBB.out).trans (HW.out.trans (But.of (below_drewN (Below.refl _ _).drew _)))⟩
    · have hc : (x.length : Int) ≤ n := by omega
      unfold nxtV
      rw [HF.out hc]
      exact ⟨rfl, HR2.out, (But.of HBB.out).trans (HW.out.trans (But.of (below_drewN (Below.refl _ _) _)))⟩
end Go.Proofs.YtakhgoifgpdgiaaDoor
