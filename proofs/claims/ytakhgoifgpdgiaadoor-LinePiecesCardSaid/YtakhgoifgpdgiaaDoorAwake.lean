/-
  PROVED HERE: awake() of the statements of layer 8 answers true, and leaves what was there.
-/
import Derived.Test.YtakhgoifgpdgiaaDoorRNext
set_option linter.unusedVariables false
namespace Go.Proofs.YtakhgoifgpdgiaaDoor
open Go.RowKit

/-- A reader that is new behind w0. -/
def Rq (w0 : World) (b : Nat) (n : Int) (t : List UInt8) (w : World) : Prop := (∃ f, Rd w b n t f ∧ Lin.Seen t f) ∧ Below w0.heap.size w0 w ∧ w0.heap.size ≤ b
theorem rq_new (w0 : World) (n : Int) : Rq w0 w0.heap.size n [] (w0.alloc (.cells #[.int .i64 n, .string ⟨#[]⟩, .int .i64 0] 66)) :=
  ⟨⟨0, by exact Go.heap_alloc_new w0 _, Lin.seen_zero _⟩, (Below.refl _ _).alloc (Nat.le_refl _) _, Nat.le_refl _⟩
theorem rq_grown {w0 w w' : World} {b : Nat} {n : Int} {t : List UInt8} (h : Rq w0 b n t w) (g : Below w.heap.size w w') : Rq w0 b n t w' := by
  obtain ⟨⟨f, h1, h2⟩, h3, h4⟩ := h
  refine ⟨⟨f, ?_, h2⟩, h3.trans (g.mono h3.size), h4⟩
  unfold Rd at *
  rw [g.block b (Array.getElem?_eq_some_iff.1 h1).1]
  exact h1
theorem next_q {w0 w : World} {b : Nat} {n : Int} {t : List UInt8} (m : Int) (h : Rq w0 b n t w) (hs : t.length < 4294967281) (hm : w0.cell? ⟨0, 0, none⟩ = some (.int .i64 m)) :
    Calls Tryd.prog 24 #[.pointer (some ⟨b, 0, none⟩)] w fun e w' => e = .returned (nxtV n t) ∧ Rq w0 b n (Lin.nxt n t).2.2.2 w' := by
  obtain ⟨⟨f, h1, h2⟩, h3, h4⟩ := h
  refine (next_any b n t f m w h1 h2 hs ?_).mono ?_
  · rw [h3.cell (World.block_lt_of_cell? _ _ hm)]
    exact hm
  · rintro e w' ⟨e1, e2, e3⟩
    exact ⟨e1, e2, h3.trans (e3.below h3.size h4), h4⟩
theorem add_q {w0 w : World} {b : Nat} {n : Int} {t : List UInt8} (x : List UInt8) (h : Rq w0 b n t w) (hl : t.length + x.length < 4611686018427387904) :
    Calls Tryd.prog 23 #[.pointer (some ⟨b, 0, none⟩), .string ⟨x.toArray⟩] w fun e w' => e = .returned (.tuple #[]) ∧ Rq w0 b n (t ++ x) w' := by
  obtain ⟨⟨f, h1, h2⟩, h3, h4⟩ := h
  refine (add_any b n t x f w h1 hl).mono ?_
  rintro e w' ⟨e1, rfl⟩
  exact ⟨e1, ⟨f, rd_set1 h1 _, Lin.seen_append h2 x⟩, h3.trans ((but_set _ w b 1 _).below h3.size h4), h4⟩
theorem len_q {w0 w : World} {b : Nat} {n : Int} {t : List UInt8} (h : Rq w0 b n t w) : Calls Tryd.prog 26 #[.pointer (some ⟨b, 0, none⟩)] w fun e w' => e = .returned (.int .i64 (t.length : Int)) ∧ w = w' := by
  obtain ⟨⟨f, h1, h2⟩, h3, h4⟩ := h
  exact len_any b n t f w h1

theorem a_n1 : Lin.nxt 3 ([] ++ [97, 98, 13]) = ([], 0, false, [97, 98, 13]) := by decide +kernel
theorem a_n2 : Lin.nxt 3 ([97, 98, 13] ++ [10, 13, 99, 13, 10, 97, 98, 99, 100, 13, 10, 100]) = ([97, 98], 0, true, [13, 99, 13, 10, 97, 98, 99, 100, 13, 10, 100]) := by decide +kernel
theorem a_n3 : Lin.nxt 3 [13, 99, 13, 10, 97, 98, 99, 100, 13, 10, 100] = ([13, 99], 0, true, [97, 98, 99, 100, 13, 10, 100]) := by decide +kernel
theorem a_n4 : Lin.nxt 3 [97, 98, 99, 100, 13, 10, 100] = ([], 5, true, [100]) := by decide +kernel
theorem a_n5 : Lin.nxt 3 [100] = ([], 0, false, [100]) := by decide +kernel
theorem a_s1 : Lin.spl [97, 13, 10, 98] = ([[97]], [98]) := by decide +kernel
theorem a_s2 : Lin.usd (Lin.spl [46, 46, 97, 13, 10, 46, 13, 10, 120]).1 = some ([[46, 97]], 8) := by decide +kernel
theorem a_u1 : Lin.uns [46] = ([], true) := by decide +kernel
theorem a_j1 : Lin.joi [[97]] = [97, 13, 10] := by decide +kernel
theorem a_t1 : Lin.stu [[46, 97]] = [46, 46, 97, 13, 10, 46, 13, 10] := by decide +kernel

theorem ac_next {w0 w : World} {b : Nat} {t r : List UInt8} {x : List UInt8} {e0 : Int} {ok : Bool} (m : Int) (hn : Lin.nxt 3 t = (x, e0, ok, r)) (hs : t.length < 4294967281) (hm : w0.cell? ⟨0, 0, none⟩ = some (.int .i64 m)) (h : Rq w0 b 3 t w) :
    Calls Tryd.prog 24 #[.pointer (some ⟨b, 0, none⟩)] w fun e w' => e = .returned (.tuple #[.string ⟨x.toArray⟩, .int .i64 e0, .bool ok]) ∧ Rq w0 b 3 r w' := by
  refine (next_q m h hs hm).mono ?_
  rintro e w' ⟨h1, h2⟩
  unfold nxtV at h1
  rw [hn] at h1 h2
  exact ⟨h1, h2⟩
theorem ac_split {w0 w : World} {b : Nat} {t : List UInt8} (m : Int) (hm : w0.cell? ⟨0, 0, none⟩ = some (.int .i64 m)) (h : Rq w0 b 3 t w) :
    Calls Tryd.prog 11 #[.string ⟨#[97, 13, 10, 98]⟩] w fun e w' => (∃ g c, e = .returned (.tuple #[.slice (some ⟨g, 0, none⟩) 1 c, .string ⟨#[98]⟩]) ∧ w'.cell? ⟨g, 0, none⟩ = some (.string ⟨#[97]⟩)) ∧ Below w.heap.size w w' := by
  refine (split_any ⟨#[97, 13, 10, 98]⟩ m w (by decide) ?_).mono ?_
  · obtain ⟨_, h3, h4⟩ := h
    rw [h3.cell (World.block_lt_of_cell? _ _ hm)]
    exact hm
  · rintro e w' ⟨⟨c, h1⟩, h2, h3⟩
    rw [show Lin.spl (⟨#[97, 13, 10, 98]⟩ : ByteArray).data.toList = ([[97]], [98]) from a_s1] at h1 h2
    obtain ⟨b1, o1, e1, e2⟩ := h2 0 (by decide)
    cases e1
    exact ⟨⟨_, c, h1, e2⟩, h3⟩
theorem ac_unst {w0 w : World} {b : Nat} {t : List UInt8} (m : Int) (hm : w0.cell? ⟨0, 0, none⟩ = some (.int .i64 m)) (h : Rq w0 b 3 t w) :
    Calls Tryd.prog 13 #[.string ⟨#[46, 46, 97, 13, 10, 46, 13, 10, 120]⟩] w fun e w' => (∃ g o c, e = .returned (.tuple #[.slice (some ⟨g, o, none⟩) 1 c, .string ⟨#[120]⟩, .bool true]) ∧ w'.cell? ⟨g, o, none⟩ = some (.string ⟨#[46, 97]⟩)) ∧ Below w.heap.size w w' := by
  refine (unstuffed_any [46, 46, 97, 13, 10, 46, 13, 10, 120] m w (by decide) ?_ ?_).mono ?_
  · obtain ⟨_, h3, h4⟩ := h
    rw [h3.cell (World.block_lt_of_cell? _ _ hm)]
    exact hm
  · exact Nat.lt_of_lt_of_le (World.block_lt_of_cell? _ _ hm) h.2.1.size
  · rintro e w' ⟨h1, h2⟩
    unfold UnsPost at h1
    rw [a_s2] at h1
    obtain ⟨A, c, h3, h4⟩ := h1
    obtain ⟨b1, o1, e1, e2⟩ := h4 0 (by decide)
    subst e1
    exact ⟨⟨b1, o1, c, h3, e2⟩, h2⟩
end Go.Proofs.YtakhgoifgpdgiaaDoor
