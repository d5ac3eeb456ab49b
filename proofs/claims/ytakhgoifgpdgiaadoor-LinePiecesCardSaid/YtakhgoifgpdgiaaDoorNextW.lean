/-
  PROVED HERE: what Next of the program's reader computes (the walk).
-/
import Derived.Test.YtakhgoifgpdgiaaDoorNext
import Derived.Lib.SmallJoins
set_option linter.unusedVariables false
namespace Go.Proofs.YtakhgoifgpdgiaaDoor
open Go.RowKit

/-- What Next answers, of what came. -/
def nxtV (n : Int) (t : List UInt8) : Value := .tuple #[sV (Lin.nxt n t).1, .int .i64 (Lin.nxt n t).2.1, .bool (Lin.nxt n t).2.2.1]
theorem rd_set1 {w : World} {b : Nat} {n : Int} {t : List UInt8} {f : Nat} (h : Rd w b n t f) (x : List UInt8) : Rd (w.setCell ⟨b, 1, none⟩ (.string ⟨x.toArray⟩)) b n x f := by
  have := Joins.block_setCell (i := 1) h (.string ⟨x.toArray⟩)
  exact this
theorem rd_set2 {w : World} {b : Nat} {n : Int} {t : List UInt8} {f : Nat} (h : Rd w b n t f) (g : Nat) : Rd (w.setCell ⟨b, 2, none⟩ (.int .i64 (g : Int))) b n t g := by
  have := Joins.block_setCell (i := 2) h (.int .i64 (g : Int))
  exact this
theorem but_set (B : Nat) (w : World) (b i : Nat) (v : Value) : But (fun k => k = b) B w (w.setCell ⟨b, i, none⟩ v) :=
  ⟨rfl, rfl, rfl, by simp [World.setCell], fun _ _ hk => Below.heap_setCell _ _ _ _ hk⟩

theorem nxt_none {n : Int} {t : List UInt8} (h : (Lin.spl t).1 = []) : Lin.nxt n t = ([], 0, false, t) := by unfold Lin.nxt; rw [h]
theorem nxt_big {n : Int} {t x : List UInt8} {l : List (List UInt8)} (h : (Lin.spl t).1 = x :: l) (hn : n < (x.length : Int)) : Lin.nxt n t = ([], 5, true, t.drop (x.length + 2)) := by unfold Lin.nxt; rw [h]; exact if_pos hn
theorem nxt_fit {n : Int} {t x : List UInt8} {l : List (List UInt8)} (h : (Lin.spl t).1 = x :: l) (hn : ¬ n < (x.length : Int)) : Lin.nxt n t = (x, 0, true, t.drop (x.length + 2)) := by unfold Lin.nxt; rw [h]; exact if_neg hn

set_option maxRecDepth 100000 in
set_option maxHeartbeats 4000000 in
theorem next_any (b : Nat) (n : Int) (t : List UInt8) (f : Nat) (m : Int) (w : World) (h : Rd w b n t f) (hS : Lin.Seen t f) (hs : t.length < 4294967281) (hm : w.cell? ⟨0, 0, none⟩ = some (.int .i64 m)) :
    Calls Tryd.prog 24 #[.pointer (some ⟨b, 0, none⟩)] w fun e w' => e = .returned (nxtV n t) ∧ (∃ g, Rd w' b n (Lin.nxt n t).2.2.2 g ∧ Lin.Seen (Lin.nxt n t).2.2.2 g) ∧ But (fun k => k = b) w.heap.size w w' := by
  obtain ⟨c0, c1, c2, f1, f2⟩ := rd_cells h
  have hx : ((⟨t.toArray⟩ : ByteArray).extract f t.length).data.toList = t.drop f := by
    have := Lib.extract_to_end (⟨t.toArray⟩ : ByteArray) f
    rw [size_mk] at this
    exact this
  have HI := Lib.hid (fun q : Nat => Tryd.strings_Index ((⟨t.toArray⟩ : ByteArray).extract f t.length) ⟨#[13, 10]⟩ m (w.drewN q) (by rw [Lib.size_eq, hx, List.length_drop]; omega) hm)
  rw [hx, show (⟨#[13, 10]⟩ : ByteArray).data.toList = Lin.E from rfl] at HI
  have hfz : (f : Int) ≤ (t.length : Int) := by have := hS.1; omega
  have HR := Lib.hid h
  have HS := Lib.hid hS
  clear h hS hx hm
  rcases Lin.idx_seen t f HS.out with ⟨x1, x2, x3⟩ | ⟨k, x1, x2, x3⟩
  · rw [x1] at HI
    have HX2 := Lib.hid x2
    clear x1 x2
    go_enter Tryd.func24, Tryd.ntmps24
    go_wp2_with fail
    go_quiet ((go_at_call 34; exact Calls.quiet_of_same (HI.out _)))
    go_wp2
    go_ret3
    rw [nxt_none HX2.out]
    have e : max ((t.length : Int) - 1) 0 = ((t.length - 1 : Nat) : Int) := by omega
    rw [e]
    refine ⟨?_, ⟨t.length - 1, rd_set2 (w := w.drewN nq) HR.out _, x3⟩, (But.of (below_drewN (Below.refl _ _) nq)).trans (but_set _ _ _ _ _)⟩
    unfold nxtV
    rw [nxt_none HX2.out]
    rfl
  · rw [x1] at HI
    have HX3 := Lib.hid x3
    clear x1 x3
    go_enter Tryd.func24, Tryd.ntmps24
    go_wp2_with fail
    go_quiet ((go_at_call 34; exact Calls.quiet_of_same (HI.out _)))
    go_wp2
    all_goals go_ret3
    all_goals
      have e1 : (t.take (f + k)).length = f + k := by rw [List.length_take]; omega
      have e2 : ((⟨t.toArray⟩ : ByteArray).extract (k + f + 2) t.length) = ⟨(t.drop (f + k + 2)).toArray⟩ := by
        have := Lib.extract_to_end (⟨t.toArray⟩ : ByteArray) (k + f + 2)
        rw [size_mk, show (⟨t.toArray⟩ : ByteArray).data.toList = t from rfl] at this
        rw [show f + k + 2 = k + f + 2 from by omega, ← this, Lib.mk_data]
      have e3 : ((⟨t.toArray⟩ : ByteArray).extract 0 (k + f)) = ⟨(t.take (f + k)).toArray⟩ := by
        have := Lib.extract_data (⟨t.toArray⟩ : ByteArray) 0 (k + f)
        rw [show (⟨t.toArray⟩ : ByteArray).data.toList = t from rfl, List.drop_zero, Nat.sub_zero] at this
        rw [show f + k = k + f from by omega, ← this, Lib.mk_data]
      rw [e2]
    · have hc : n < ((t.take (f + k)).length : Int) := by rw [e1]; omega
      have e4 := nxt_big HX3.out hc
      rw [e1] at e4
      unfold nxtV
      rw [e4]
      exact ⟨rfl, ⟨0, rd_set2 (rd_set1 (w := w.drewN nq) HR.out _) 0, Lin.seen_zero _⟩, (But.of (below_drewN (Below.refl _ _) nq)).trans ((but_set _ _ _ _ _).trans (but_set _ _ _ _ _))⟩
    · have hc : ¬ n < ((t.take (f + k)).length : Int) := by rw [e1]; omega
      have e4 := nxt_fit HX3.out hc
      rw [e1] at e4
      unfold nxtV
      rw [e4, e3]
      exact ⟨rfl, ⟨0, rd_set2 (rd_set1 (w := w.drewN nq) HR.out _) 0, Lin.seen_zero _⟩, (But.of (below_drewN (Below.refl _ _) nq)).trans ((but_set _ _ _ _ _).trans (but_set _ _ _ _ _))⟩
end Go.Proofs.YtakhgoifgpdgiaaDoor
