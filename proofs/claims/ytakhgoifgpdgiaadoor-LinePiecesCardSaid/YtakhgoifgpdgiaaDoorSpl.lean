/-
  PROVED HERE: plain facts on lines that end in bytes 13 and 10. No program in sight.
-/
import Derived.Lib.Split
import Derived.Lib.IndexMore
import Derived.Lib.CutLaws
set_option linter.unusedVariables false
namespace Lin
open Go.Lib

/-- A line's end. -/
def E : List UInt8 := [13, 10]
def pre (b : UInt8) : List (List UInt8) × List UInt8 → List (List UInt8) × List UInt8
  | ([], r) => ([], b :: r)
  | (x :: xs, r) => ((b :: x) :: xs, r)
/-- Lines, and what stands behind. -/
def spl : List UInt8 → List (List UInt8) × List UInt8
  | [] => ([], [])
  | [b] => ([], [b])
  | b :: c :: t => if b = 13 ∧ c = 10 then ([] :: (spl t).1, (spl t).2) else pre b (spl (c :: t))

theorem occ_succ (b : UInt8) (t : List UInt8) (j : Nat) : occAt (b :: t) E (j + 1) = occAt t E j := by simp [occAt]
theorem beq_d (a b : UInt8) : (a == b) = decide (b = a) := by rw [Bool.eq_iff_iff, beq_iff_eq, decide_eq_true_iff]; exact eq_comm
theorem occ_zero (b c : UInt8) (t : List UInt8) : occAt (b :: c :: t) E 0 = decide (b = 13 ∧ c = 10) := by
  simp only [occAt, List.drop_zero, E, List.isPrefixOf, Bool.and_true, Bool.decide_and]
  rw [beq_d, beq_d]
theorem occ_nil (j : Nat) : occAt [] E j = false := by simp [occAt, E]
theorem occ_one (b : UInt8) (j : Nat) : occAt [b] E j = false := by
  cases j with
  | zero => simp [occAt, E, List.isPrefixOf]
  | succ j => rw [occ_succ, occ_nil]

theorem spl_none : ∀ (t : List UInt8), (∀ j, occAt t E j = false) → spl t = ([], t)
  | [], _ => rfl
  | [_], _ => rfl
  | b :: c :: t, h => by
    have h0 := h 0
    rw [occ_zero] at h0
    unfold spl
    rw [if_neg (by simpa using h0), spl_none (c :: t) (fun j => by rw [← occ_succ b]; exact h (j + 1))]
    rfl
theorem spl_hit : ∀ (t : List UInt8) (k : Nat), occAt t E k = true → (∀ j, j < k → occAt t E j = false) → spl t = (t.take k :: (spl (t.drop (k + 2))).1, (spl (t.drop (k + 2))).2)
  | [], k, h, _ => by rw [occ_nil] at h; cases h
  | [_], k, h, _ => by rw [occ_one] at h; cases h
  | b :: c :: t, 0, h, _ => by
    rw [occ_zero] at h
    rw [spl, if_pos (by simpa using h)]
    rfl
  | b :: c :: t, k + 1, h, hn => by
    have h0 := hn 0 (by omega)
    rw [occ_zero] at h0
    rw [occ_succ] at h
    rw [spl, if_neg (by simpa using h0), spl_hit (c :: t) k h (fun j hj => by rw [← occ_succ b]; exact hn (j + 1) (by omega))]
    rfl

/-- What is known of the first end. -/
theorem idx (t : List UInt8) : (index t E = -1 ∧ ∀ j, occAt t E j = false) ∨ ∃ k : Nat, index t E = k ∧ k + 2 ≤ t.length ∧ occAt t E k = true ∧ ∀ j, j < k → occAt t E j = false := by
  rcases index_spec t E with ⟨h1, h2⟩ | ⟨i, h1, _, h3, h4⟩
  · refine .inl ⟨h1, fun j => ?_⟩
    rcases Nat.lt_or_ge t.length j with g | g
    · cases e : occAt t E j with
      | false => rfl
      | true => rcases occAt_room e with r | r
                · simp [E] at r; omega
                · simp [E] at r
    · exact h2 j g
  · refine .inr ⟨i, h1, ?_, h3, h4⟩
    rcases occAt_room h3 with r | r
    · simpa [E] using r
    · simp [E] at r

theorem splitK_spl : ∀ (f : Nat) (s : List UInt8), s.length < f → splitK E 0 (countFrom E f s) s = (spl s).1 ++ [(spl s).2]
  | 0, s, h => by omega
  | f + 1, s, h => by
    rcases idx s with ⟨h1, h2⟩ | ⟨k, h1, h2, h3, h4⟩
    · rw [countFrom, h1, if_pos (by rfl), spl_none s h2]
      rfl
    · have hne : ¬ ((k : Int) == -1) = true := by rw [beq_iff_eq]; omega
      rw [countFrom, h1, if_neg hne, Nat.add_comm 1, splitK, h1, if_neg hne, spl_hit s k h3 h4]
      have e : ((k : Int).toNat + E.length) = k + 2 := by simp [E]
      rw [e, splitK_spl f _ (by rw [List.length_drop]; omega)]
      simp
theorem split_spl (s : List UInt8) : split s E = (spl s).1 ++ [(spl s).2] := splitK_spl _ s (by omega)

/-- What is joined: each line, and an end. -/
def joi : List (List UInt8) → List UInt8
  | [] => []
  | x :: l => x ++ E ++ joi l
theorem joi_append (a b : List (List UInt8)) : joi (a ++ b) = joi a ++ joi b := by
  induction a with
  | nil => rfl
  | cons x a ih => simp [joi, ih]
theorem joi_pre (b : UInt8) (p : List (List UInt8) × List UInt8) : joi (pre b p).1 ++ (pre b p).2 = b :: (joi p.1 ++ p.2) := by
  obtain ⟨l, r⟩ := p
  cases l <;> simp [pre, joi]
/-- What is split is joined to the same. -/
theorem joi_spl : ∀ (t : List UInt8), joi (spl t).1 ++ (spl t).2 = t
  | [] => rfl
  | [_] => rfl
  | b :: c :: t => by
    unfold spl
    split
    · rename_i h
      obtain ⟨rfl, rfl⟩ := h
      simp [joi, E, joi_spl t]
    · rw [joi_pre, joi_spl (c :: t)]
end Lin
