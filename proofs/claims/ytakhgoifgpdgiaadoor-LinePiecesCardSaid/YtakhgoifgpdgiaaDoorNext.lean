/-
  PROVED HERE: what Next of the program's reader computes.
-/
import Derived.Test.YtakhgoifgpdgiaaDoorRUnst
import Derived.Test.YtakhgoifgpdgiaaDoorRd
set_option linter.unusedVariables false
namespace Lin
open Go.Lib
/-- What the next line is: the text, the error's number, whether there is one; and what stays. -/
def nxt (n : Int) (t : List UInt8) : List UInt8 × Int × Bool × List UInt8 :=
  match (spl t).1 with
  | [] => ([], 0, false, t)
  | x :: _ => if n < (x.length : Int) then ([], 5, true, t.drop (x.length + 2)) else (x, 0, true, t.drop (x.length + 2))
/-- Up to a place there is no end. -/
def Seen (t : List UInt8) (f : Nat) : Prop := f ≤ t.length - 1 ∧ ∀ j, j < f → occAt t E j = false
theorem seen_zero (t : List UInt8) : Seen t 0 := ⟨Nat.zero_le _, fun _ h => absurd h (Nat.not_lt_zero _)⟩
theorem seen_append {t : List UInt8} {f : Nat} (h : Seen t f) (x : List UInt8) : Seen (t ++ x) f := by
  have h1 := h.1
  refine ⟨by rw [List.length_append]; omega, fun j hj => ?_⟩
  have h2 := h.2 j hj
  have hl : j + 1 < t.length := by omega
  have hl2 : j + 1 < (t ++ x).length := by rw [List.length_append]; omega
  rw [occ_at t j hl] at h2
  rw [occ_at (t ++ x) j hl2, List.getElem_append_left (by omega), List.getElem_append_left hl]
  exact h2
/-- What is known of the first end behind the place. -/
theorem idx_seen (t : List UInt8) (f : Nat) (h : Seen t f) : (index (t.drop f) E = -1 ∧ (spl t).1 = [] ∧ Seen t (t.length - 1)) ∨ ∃ k : Nat, index (t.drop f) E = k ∧ f + k + 2 ≤ t.length ∧ (spl t).1 = t.take (f + k) :: (spl (t.drop (f + k + 2))).1 := by
  rcases idx (t.drop f) with ⟨h1, h2⟩ | ⟨k, h1, h2, h3, h4⟩
  · have hn : ∀ j, occAt t E j = false := fun j => by
      rcases Nat.lt_or_ge j f with g | g
      · exact h.2 j g
      · have := h2 (j - f)
        rw [occ_drop, show f + (j - f) = j from by omega] at this
        exact this
    exact .inl ⟨h1, by rw [spl_none t hn], by omega, fun j _ => hn j⟩
  · rw [List.length_drop] at h2
    have hf := h.1
    refine .inr ⟨k, h1, by omega, ?_⟩
    rw [occ_drop] at h3
    rw [spl_hit t (f + k) h3 (fun j hj => ?_)]
    rcases Nat.lt_or_ge j f with g | g
    · exact h.2 j g
    · have := h4 (j - f) (by omega)
      rw [occ_drop, show f + (j - f) = j from by omega] at this
      exact this
end Lin
namespace Go.Proofs.YtakhgoifgpdgiaaDoor
open Go.RowKit

/-- All blocks below B stay as they were, but for some. -/
structure But (S : Nat → Prop) (B : Nat) (w w' : World) : Prop where
  os : w'.os = w.os
  tape : w'.tape = w.tape
  output : w'.output = w.output
  size : w.heap.size ≤ w'.heap.size
  block : ∀ k, k < B → ¬ S k → w'.heap[k]? = w.heap[k]?
theorem But.refl (S : Nat → Prop) (B : Nat) (w : World) : But S B w w := ⟨rfl, rfl, rfl, Nat.le_refl _, fun _ _ _ => rfl⟩
theorem But.trans {S : Nat → Prop} {B : Nat} {a b c : World} (h : But S B a b) (k : But S B b c) : But S B a c :=
  ⟨k.os.trans h.os, k.tape.trans h.tape, k.output.trans h.output, Nat.le_trans h.size k.size, fun i hi hs => (k.block i hi hs).trans (h.block i hi hs)⟩
theorem But.of {S : Nat → Prop} {B : Nat} {a b : World} (h : Below B a b) : But S B a b := ⟨h.os, h.tape, h.output, h.size, fun k hk _ => h.block k hk⟩
theorem But.mono {S : Nat → Prop} {B B' : Nat} {w w' : World} (h : But S B w w') (hB : B' ≤ B) : But S B' w w' := ⟨h.os, h.tape, h.output, h.size, fun k hk => h.block k (Nat.lt_of_lt_of_le hk hB)⟩
theorem But.wide {S T : Nat → Prop} {B : Nat} {w w' : World} (h : But S B w w') (hS : ∀ k, S k → T k) : But T B w w' := ⟨h.os, h.tape, h.output, h.size, fun k hk ht => h.block k hk (fun hs => ht (hS k hs))⟩
theorem But.below {w w' : World} {B b : Nat} (h : But (fun k => k = b) w.heap.size w w') (hB : B ≤ w.heap.size) (hb : B ≤ b) : Below B w w' := ⟨h.os, h.tape, h.output, h.size, fun k hk => h.block k (Nat.lt_of_lt_of_le hk hB) (Nat.ne_of_lt (Nat.lt_of_lt_of_le hk hb))⟩
end Go.Proofs.YtakhgoifgpdgiaaDoor
