/-
  PROVED HERE: two readers of the program's, side by side; what comes behind a line doesn't change it.
-/
import Derived.Test.YtakhgoifgpdgiaaDoorTwo
set_option linter.unusedVariables false
namespace Lin
open Go.Lib
theorem nxt_append (n : Int) (t y : List UInt8) (x : List UInt8) (q : List (List UInt8)) (h : (spl t).1 = x :: q) :
    nxt n (t ++ y) = ((nxt n t).1, (nxt n t).2.1, true, (nxt n t).2.2.2 ++ y) ∧ (nxt n t).2.2.1 = true ∧ (nxt n t).2.2.2.length < t.length := by
  rcases idx t with ⟨h1, h2⟩ | ⟨k, h1, h2, h3, h4⟩
  · rw [spl_none t h2] at h
    cases h
  · have e1 := spl_hit t k h3 h4
    have e2 := spl_hit (t ++ y) k (by rw [occ_left _ _ _ (by omega)]; exact h3) (fun j hj => by rw [occ_left _ _ _ (by omega)]; exact h4 j hj)
    have e3 : (t ++ y).take k = t.take k := List.take_append_of_le_length (by omega)
    have e4 : (t.take k).length = k := by rw [List.length_take]; omega
    have e5 : (t ++ y).drop (k + 2) = t.drop (k + 2) ++ y := List.drop_append_of_le_length (by omega)
    have e6 : (t.drop (k + 2)).length < t.length := by rw [List.length_drop]; omega
    have f1 : (spl t).1 = t.take k :: (spl (t.drop (k + 2))).1 := by rw [e1]
    have f2 : (spl (t ++ y)).1 = t.take k :: (spl ((t ++ y).drop (k + 2))).1 := by rw [e2, e3]
    unfold nxt
    rw [f1, f2]
    simp only [e4, e5]
    split
    · exact ⟨rfl, rfl, e6⟩
    · exact ⟨rfl, rfl, e6⟩
theorem flat_len (l : List (List UInt8)) : l.flatten.length = tot l := by
  induction l with
  | nil => rfl
  | cons x l ih => simp only [List.flatten_cons, List.length_append, tot, ih]
end Lin
namespace Go.Proofs.YtakhgoifgpdgiaaDoor
open Go.RowKit

theorem flat_succ (l : List (List UInt8)) (k : Nat) (hk : k < l.length) : (l.take (k + 1)).flatten = (l.take k).flatten ++ at' l k := by
  rw [List.take_add_one, List.getElem?_eq_getElem hk, List.flatten_append]
  unfold at'
  rw [List.getD_eq_getElem?_getD, List.getElem?_eq_getElem hk]
  exact congrArg _ (List.append_nil _)
theorem flat_drop (l : List (List UInt8)) (k : Nat) (hk : k < l.length) : (l.drop k).flatten = at' l k ++ (l.drop (k + 1)).flatten := by
  rw [drop_at l k hk]
  simp
/-- Two readers, at b (text T) and at c (text U). -/
structure Duo (m n : Int) (w : World) (b c : Nat) (wr : World) (T U : List UInt8) : Prop where
  at' : At m w wr
  rd : ∃ f, Rd wr b n T f ∧ Lin.Seen T f
  rc : ∃ f, Rd wr c n U f ∧ Lin.Seen U f
  hb : w.heap.size ≤ b
  hc : w.heap.size ≤ c
  ne : b ≠ c
variable {m n : Int} {w wr : World} {b c : Nat} {T U : List UInt8}
theorem duo_turn (h : Duo m n w b c wr T U) : Duo m n w c b wr U T := ⟨h.at', h.rc, h.rd, h.hc, h.hb, Ne.symm h.ne⟩
theorem duo_grown (h : Duo m n w b c wr T U) {w' : World} (g : Below wr.heap.size wr w') : Duo m n w b c w' T U :=
  ⟨h.at'.next g, rd_block h.rd (g.block b (rd_size h.rd)), rd_block h.rc (g.block c (rd_size h.rc)), h.hb, h.hc, h.ne⟩
theorem duo_next (h0 : 0 < w.heap.size) (h : Duo m n w b c wr T U) (hs : T.length < 4294967281) :
    Calls Tryd.prog 24 #[.pointer (some ⟨b, 0, none⟩)] wr fun e w' => e = .returned (nxtV n T) ∧ Duo m n w b c w' (Lin.nxt n T).2.2.2 U := by
  obtain ⟨f, h1, h2⟩ := h.rd
  refine (next_any b n T f m wr h1 h2 hs h.at'.cell).mono ?_
  rintro e w' ⟨e1, e2, e3⟩
  exact ⟨e1, at_but h0 h.at' h.hb e3, e2, rd_block h.rc (e3.block c (rd_size h.rc) (Ne.symm h.ne)), h.hb, h.hc, h.ne⟩
theorem duo_cnext (h0 : 0 < w.heap.size) (h : Duo m n w b c wr T U) (hs : U.length < 4294967281) :
    Calls Tryd.prog 24 #[.pointer (some ⟨c, 0, none⟩)] wr fun e w' => e = .returned (nxtV n U) ∧ Duo m n w b c w' T (Lin.nxt n U).2.2.2 :=
  (duo_next h0 (duo_turn h) hs).mono fun _ _ k => ⟨k.1, duo_turn k.2⟩
theorem duo_add (h0 : 0 < w.heap.size) (h : Duo m n w b c wr T U) (x : List UInt8) (hl : T.length + x.length < 4611686018427387904) :
    Calls Tryd.prog 23 #[.pointer (some ⟨b, 0, none⟩), .string ⟨x.toArray⟩] wr fun e w' => e = .returned (.tuple #[]) ∧ Duo m n w b c w' (T ++ x) U := by
  obtain ⟨f, h1, h2⟩ := h.rd
  refine (add_any b n T x f wr h1 hl).mono ?_
  rintro e w' ⟨e1, rfl⟩
  have k := but_set wr.heap.size wr b 1 (.string ⟨(T ++ x).toArray⟩)
  exact ⟨e1, at_but h0 h.at' h.hb k, ⟨f, rd_set1 h1 _, Lin.seen_append h2 x⟩, rd_block h.rc (k.block c (rd_size h.rc) (Ne.symm h.ne)), h.hb, h.hc, h.ne⟩
theorem duo_cadd (h0 : 0 < w.heap.size) (h : Duo m n w b c wr T U) (x : List UInt8) (hl : U.length + x.length < 4611686018427387904) :
    Calls Tryd.prog 23 #[.pointer (some ⟨c, 0, none⟩), .string ⟨x.toArray⟩] wr fun e w' => e = .returned (.tuple #[]) ∧ Duo m n w b c w' T (U ++ x) :=
  (duo_add h0 (duo_turn h) x hl).mono fun _ _ k => ⟨k.1, duo_turn k.2⟩
theorem duo_len (h : Duo m n w b c wr T U) : Calls Tryd.prog 26 #[.pointer (some ⟨b, 0, none⟩)] wr fun e w' => e = .returned (.int .i64 (T.length : Int)) ∧ wr = w' := by
  obtain ⟨f, h1, h2⟩ := h.rd
  exact len_any b n T f wr h1
theorem duo_new (h : At m w wr) : Duo m n w wr.heap.size (wr.heap.size + 1) ((wr.alloc (.cells #[.int .i64 n, .string ⟨#[]⟩, .int .i64 0] 66)).alloc (.cells #[.int .i64 n, .string ⟨#[]⟩, .int .i64 0] 66)) [] [] := by
  have e : (wr.alloc (.cells #[.int .i64 n, .string ⟨#[]⟩, .int .i64 0] 66)).heap.size = wr.heap.size + 1 := by simp
  refine ⟨h.next (((Below.refl _ _).alloc (Nat.le_refl _) _).alloc (by rw [e]; omega) _), ⟨0, ?_, Lin.seen_zero _⟩, ⟨0, ?_, Lin.seen_zero _⟩, h.below.size, by have := h.below.size; omega, by omega⟩
  · unfold Rd
    rw [Below.heap_alloc _ _ _ (by rw [e]; omega)]
    exact Go.heap_alloc_new wr _
  · unfold Rd
    rw [← e]
    exact Go.heap_alloc_new _ _
/-- How long the text of a reader is. -/
def lenAt (b : Nat) (w : World) : Nat := match w.cell? ⟨b, 1, none⟩ with | some (.string s) => s.size | _ => 0
theorem lenAt_duo (h : Duo m n w b c wr T U) : lenAt b wr = T.length := by
  obtain ⟨f, h1, h2⟩ := h.rd
  unfold lenAt
  rw [(rd_cells h1).2.1]
  exact size_mk T
end Go.Proofs.YtakhgoifgpdgiaaDoor
