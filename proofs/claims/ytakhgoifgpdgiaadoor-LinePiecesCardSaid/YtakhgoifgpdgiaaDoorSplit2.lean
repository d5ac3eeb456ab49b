/-
  PROVED HERE: what Split of the answer computes.
-/
import Derived.Test.YtakhgoifgpdgiaaDoorSplit1
set_option linter.unusedVariables false
namespace Lin
open Go.Lib
theorem occ_drop (t : List UInt8) (f j : Nat) : occAt (t.drop f) E j = occAt t E (f + j) := by
  unfold occAt
  rw [List.drop_drop]
/-- Where the answer's loop stands: lines so far, from where the next one begins, up to where no end was seen. -/
def Sta (t : List UInt8) (pre : List (List UInt8)) (f i : Nat) : Prop :=
  pre ++ (spl (t.drop f)).1 = (spl t).1 ∧ (spl (t.drop f)).2 = (spl t).2 ∧ ∀ j, f ≤ j → j < i → occAt t E j = false
theorem sta_start (t : List UInt8) : Sta t [] 0 0 := ⟨rfl, rfl, fun _ _ h => absurd h (Nat.not_lt_zero _)⟩
theorem sta_pass {t : List UInt8} {pre : List (List UInt8)} {f i : Nat} (h : Sta t pre f i) (hi : i < f ∨ occAt t E i = false) : Sta t pre f (i + 1) := by
  refine ⟨h.1, h.2.1, fun j h1 h2 => ?_⟩
  rcases Nat.lt_or_ge j i with g | g
  · exact h.2.2 j h1 g
  · have : j = i := by omega
    subst this
    rcases hi with hi | hi
    · omega
    · exact hi
theorem sta_hit {t : List UInt8} {pre : List (List UInt8)} {f i : Nat} (h : Sta t pre f i) (hf : f ≤ i) (hi : occAt t E i = true) : Sta t (pre ++ [(t.drop f).take (i - f)]) (i + 2) (i + 1) := by
  have e := spl_hit (t.drop f) (i - f) (by rw [occ_drop, show f + (i - f) = i from by omega]; exact hi) (fun j hj => by rw [occ_drop]; exact h.2.2 _ (by omega) (by omega))
  have e2 : (t.drop f).drop (i - f + 2) = t.drop (i + 2) := by rw [List.drop_drop, show f + (i - f + 2) = i + 2 from by omega]
  rw [e2] at e
  have h1 := h.1
  have h2 := h.2.1
  rw [e] at h1 h2
  exact ⟨by rw [← h1]; simp, h2, fun j g1 g2 => by omega⟩
theorem sta_end {t : List UInt8} {pre : List (List UInt8)} {f i : Nat} (h : Sta t pre f i) (hi : t.length ≤ i) : spl t = (pre, t.drop f) := by
  have e := spl_none (t.drop f) (fun j => by
    rw [occ_drop]
    rcases Nat.lt_or_ge (f + j) i with g | g
    · exact h.2.2 _ (by omega) g
    · exact occ_room _ _ (by omega))
  have h1 := h.1
  have h2 := h.2.1
  rw [e] at h1 h2
  rw [List.append_nil] at h1
  rw [Prod.ext_iff]
  exact ⟨h1.symm, h2.symm⟩
end Lin
