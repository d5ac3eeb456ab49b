/-
  PROVED HERE: the program's reader and the answer's, side by side.
-/
import Derived.Test.YtakhgoifgpdgiaaDoorStfW
set_option linter.unusedVariables false
namespace Go.Proofs.YtakhgoifgpdgiaaDoor
open Go.RowKit

/-- The program's reader at b (text T), the answer's at c (text U), behind the world w. -/
structure Two (m n : Int) (w : World) (b c : Nat) (wr : World) (T U : List UInt8) : Prop where
  at' : At m w wr
  rd : ∃ f, Rd wr b n T f ∧ Lin.Seen T f
  rr : RRd wr c n U
  hb : w.heap.size ≤ b
  hc : w.heap.size ≤ c
  ne : b ≠ c
theorem rd_block {w w' : World} {b : Nat} {n : Int} {T : List UInt8} (h : ∃ f, Rd w b n T f ∧ Lin.Seen T f) (e : w'.heap[b]? = w.heap[b]?) : ∃ f, Rd w' b n T f ∧ Lin.Seen T f := by
  obtain ⟨f, h1, h2⟩ := h
  exact ⟨f, by unfold Rd; rw [e]; exact h1, h2⟩
theorem rd_size {w : World} {b : Nat} {n : Int} {T : List UInt8} (h : ∃ f, Rd w b n T f ∧ Lin.Seen T f) : b < w.heap.size := by
  obtain ⟨f, h1, h2⟩ := h
  exact (Array.getElem?_eq_some_iff.1 h1).1
theorem at_but {m : Int} {w w1 w2 : World} {b : Nat} (h0 : 0 < w.heap.size) (h : At m w w1) (hb : w.heap.size ≤ b) (k : But (fun k => k = b) w1.heap.size w1 w2) : At m w w2 :=
  have g := k.below h.below.size hb
  ⟨h.below.trans g, by rw [g.cell h0]; exact h.cell⟩
variable {m n : Int} {w wr : World} {b c : Nat} {T U : List UInt8}
theorem two_grown (h : Two m n w b c wr T U) {w' : World} (g : Below wr.heap.size wr w') : Two m n w b c w' T U :=
  ⟨h.at'.next g, rd_block h.rd (g.block b (rd_size h.rd)), rrd_below h.rr g, h.hb, h.hc, h.ne⟩
theorem two_next (h0 : 0 < w.heap.size) (h : Two m n w b c wr T U) (hs : T.length < 4294967281) :
    Calls Tryd.prog 24 #[.pointer (some ⟨b, 0, none⟩)] wr fun e w' => e = .returned (nxtV n T) ∧ Two m n w b c w' (Lin.nxt n T).2.2.2 U := by
  obtain ⟨f, h1, h2⟩ := h.rd
  refine (next_any b n T f m wr h1 h2 hs h.at'.cell).mono ?_
  rintro e w' ⟨e1, e2, e3⟩
  exact ⟨e1, at_but h0 h.at' h.hb e3, e2, (e3.block c (rrd_lt h.rr) (Ne.symm h.ne)).trans h.rr, h.hb, h.hc, h.ne⟩
theorem two_rnext (h0 : 0 < w.heap.size) (h : Two m n w b c wr T U) (hs : U.length < 4294967281) :
    Calls Tryd.prog 25 #[.pointer (some ⟨c, 0, none⟩)] wr fun e w' => e = .returned (nxtV n U) ∧ Two m n w b c w' T (Lin.nxt n U).2.2.2 := by
  refine (rnext_any c n U wr h.rr hs).mono ?_
  rintro e w' ⟨e1, e2, e3⟩
  exact ⟨e1, at_but h0 h.at' h.hc e3, rd_block h.rd (e3.block b (rd_size h.rd) h.ne), e2, h.hb, h.hc, h.ne⟩
theorem two_add (h0 : 0 < w.heap.size) (h : Two m n w b c wr T U) (x : List UInt8) (hl : T.length + x.length < 4611686018427387904) :
    Calls Tryd.prog 23 #[.pointer (some ⟨b, 0, none⟩), .string ⟨x.toArray⟩] wr fun e w' => e = .returned (.tuple #[]) ∧ Two m n w b c w' (T ++ x) U := by
  obtain ⟨f, h1, h2⟩ := h.rd
  refine (add_any b n T x f wr h1 hl).mono ?_
  rintro e w' ⟨e1, rfl⟩
  have k := but_set wr.heap.size wr b 1 (.string ⟨(T ++ x).toArray⟩)
  exact ⟨e1, at_but h0 h.at' h.hb k, ⟨f, rd_set1 h1 _, Lin.seen_append h2 x⟩, (k.block c (rrd_lt h.rr) (Ne.symm h.ne)).trans h.rr, h.hb, h.hc, h.ne⟩
theorem two_radd (h0 : 0 < w.heap.size) (h : Two m n w b c wr T U) (x : List UInt8) (q : Nat) : Two m n w b c ((wr.setCell ⟨c, 1, none⟩ (.string ⟨x.toArray⟩)).drewN q) T x := by
  have k := but_set wr.heap.size wr c 1 (.string ⟨x.toArray⟩)
  have h2 : Two m n w b c (wr.setCell ⟨c, 1, none⟩ (.string ⟨x.toArray⟩)) T x := ⟨at_but h0 h.at' h.hc k, rd_block h.rd (k.block b (rd_size h.rd) h.ne), rrd_set1 h.rr x, h.hb, h.hc, h.ne⟩
  exact two_grown h2 (below_drewN (Below.refl _ _) q)
theorem two_len (h : Two m n w b c wr T U) : Calls Tryd.prog 26 #[.pointer (some ⟨b, 0, none⟩)] wr fun e w' => e = .returned (.int .i64 (T.length : Int)) ∧ wr = w' := by
  obtain ⟨f, h1, h2⟩ := h.rd
  exact len_any b n T f wr h1
theorem nxt_le (n : Int) (t : List UInt8) : (Lin.nxt n t).2.2.2.length ≤ t.length := by
  unfold Lin.nxt
  split
  · exact Nat.le_refl _
  · split <;> (simp only [List.length_drop]; omega)
theorem two_new (h : At m w wr) : Two m n w wr.heap.size (wr.heap.size + 1) ((wr.alloc (.cells #[.int .i64 n, .string ⟨#[]⟩, .int .i64 0] 66)).alloc (.cells #[.int .i64 n, .string ⟨#[]⟩] 39)) [] [] := by
  have e : (wr.alloc (.cells #[.int .i64 n, .string ⟨#[]⟩, .int .i64 0] 66)).heap.size = wr.heap.size + 1 := by simp
  refine ⟨h.next (((Below.refl _ _).alloc (Nat.le_refl _) _).alloc (by rw [e]; omega) _), ⟨0, ?_, Lin.seen_zero _⟩, ?_, h.below.size, by have := h.below.size; omega, by omega⟩
  · unfold Rd
    rw [Below.heap_alloc _ _ _ (by rw [e]; omega)]
    exact Go.heap_alloc_new wr _
  · unfold RRd
    rw [← e]
    exact Go.heap_alloc_new _ _
end Go.Proofs.YtakhgoifgpdgiaaDoor
