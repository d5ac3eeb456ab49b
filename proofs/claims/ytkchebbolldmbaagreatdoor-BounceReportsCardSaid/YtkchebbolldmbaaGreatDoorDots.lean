/-
  PROVED HERE: plain facts on texts that are parted by dots. No program in sight.
-/
import Derived.Lib.Split
import Derived.Lib.IndexMore
import Derived.Lib.CutLaws
set_option linter.unusedVariables false
namespace Adr
open Go.Lib
def D : List UInt8 := [46]
def pre (b : UInt8) : List (List UInt8) → List (List UInt8)
  | [] => [[b]]
  | x :: xs => (b :: x) :: xs
/-- The parts of a text, parted by dots. -/
def dots : List UInt8 → List (List UInt8)
  | [] => [[]]
  | b :: t => if b = 46 then [] :: dots t else pre b (dots t)
theorem occ_succ (b : UInt8) (t : List UInt8) (j : Nat) : occAt (b :: t) D (j + 1) = occAt t D j := by simp [occAt]
theorem beq_d (a b : UInt8) : (a == b) = decide (b = a) := by rw [Bool.eq_iff_iff, beq_iff_eq, decide_eq_true_iff]; exact eq_comm
theorem occ_zero (b : UInt8) (t : List UInt8) : occAt (b :: t) D 0 = decide (b = 46) := by
  simp only [occAt, List.drop_zero, D, List.isPrefixOf, Bool.and_true]
  rw [beq_d]
theorem occ_nil (j : Nat) : occAt [] D j = false := by simp [occAt, D]
theorem occ_room (t : List UInt8) (i : Nat) (h : t.length ≤ i) : occAt t D i = false := by
  cases e : occAt t D i with
  | false => rfl
  | true =>
    rcases occAt_room e with r | r
    · simp [D] at r; omega
    · simp [D] at r
theorem occ_at (t : List UInt8) (i : Nat) (h : i < t.length) : occAt t D i = (t[i] == 46) := by
  unfold occAt
  rw [List.drop_eq_getElem_cons h]
  simp only [D, List.isPrefixOf, Bool.and_true]
  rw [beq_d, beq_d]
  exact decide_eq_decide.2 eq_comm
theorem occ_drop (t : List UInt8) (f j : Nat) : occAt (t.drop f) D j = occAt t D (f + j) := by
  unfold occAt
  rw [List.drop_drop]
theorem dots_ne (t : List UInt8) : dots t ≠ [] := by
  cases t with
  | nil => simp [dots]
  | cons b t =>
    unfold dots
    split
    · simp
    · cases dots t <;> simp [pre]
theorem dots_none : ∀ (t : List UInt8), (∀ j, occAt t D j = false) → dots t = [t]
  | [], _ => rfl
  | b :: t, h => by
    have h0 := h 0
    rw [occ_zero] at h0
    unfold dots
    rw [if_neg (by simpa using h0), dots_none t (fun j => by rw [← occ_succ b]; exact h (j + 1))]
    rfl
theorem dots_hit : ∀ (t : List UInt8) (k : Nat), occAt t D k = true → (∀ j, j < k → occAt t D j = false) → dots t = t.take k :: dots (t.drop (k + 1))
  | [], k, h, _ => by rw [occ_nil] at h; cases h
  | b :: t, 0, h, _ => by
    rw [occ_zero] at h
    rw [dots, if_pos (by simpa using h)]
    rfl
  | b :: t, k + 1, h, hn => by
    have h0 := hn 0 (by omega)
    rw [occ_zero] at h0
    rw [occ_succ] at h
    rw [dots, if_neg (by simpa using h0), dots_hit t k h (fun j hj => by rw [← occ_succ b]; exact hn (j + 1) (by omega))]
    rfl
/-- What is known of the first dot. -/
theorem idx (t : List UInt8) : (index t D = -1 ∧ ∀ j, occAt t D j = false) ∨ ∃ k : Nat, index t D = k ∧ k + 1 ≤ t.length ∧ occAt t D k = true ∧ ∀ j, j < k → occAt t D j = false := by
  rcases index_spec t D with ⟨h1, h2⟩ | ⟨i, h1, _, h3, h4⟩
  · refine .inl ⟨h1, fun j => ?_⟩
    rcases Nat.lt_or_ge t.length j with g | g
    · exact occ_room t j (by omega)
    · exact h2 j g
  · refine .inr ⟨i, h1, ?_, h3, h4⟩
    rcases occAt_room h3 with r | r
    · simpa [D] using r
    · simp [D] at r
theorem splitK_dots : ∀ (f : Nat) (s : List UInt8), s.length < f → splitK D 0 (countFrom D f s) s = dots s
  | 0, s, h => by omega
  | f + 1, s, h => by
    rcases idx s with ⟨h1, h2⟩ | ⟨k, h1, h2, h3, h4⟩
    · rw [countFrom, h1, if_pos (by rfl), dots_none s h2]
      rfl
    · have hne : ¬ ((k : Int) == -1) = true := by rw [beq_iff_eq]; omega
      rw [countFrom, h1, if_neg hne, Nat.add_comm 1, splitK, h1, if_neg hne, dots_hit s k h3 h4]
      have e : ((k : Int).toNat + D.length) = k + 1 := by simp [D]
      rw [e, splitK_dots f _ (by rw [List.length_drop]; omega)]
      simp
theorem split_dots (s : List UInt8) : split s D = dots s := splitK_dots _ s (by omega)
theorem count_dots : ∀ (f : Nat) (s : List UInt8), s.length < f → countFrom D f s + 1 = (dots s).length
  | 0, s, h => by omega
  | f + 1, s, h => by
    rcases idx s with ⟨h1, h2⟩ | ⟨k, h1, h2, h3, h4⟩
    · rw [countFrom, h1, if_pos (by rfl), dots_none s h2]
      rfl
    · have hne : ¬ ((k : Int) == -1) = true := by rw [beq_iff_eq]; omega
      rw [countFrom, h1, if_neg hne, dots_hit s k h3 h4]
      have e : ((k : Int).toNat + D.length) = k + 1 := by simp [D]
      have := count_dots f (s.drop (k + 1)) (by rw [List.length_drop]; omega)
      rw [e, List.length_cons]
      omega
theorem dots_len (t : List UInt8) : (dots t).length ≤ t.length + 1 := by
  induction t with
  | nil => exact Nat.le_refl _
  | cons b t ih =>
    unfold dots
    split
    · simp only [List.length_cons]; omega
    · have h := dots_ne t
      cases hd : dots t with
      | nil => exact absurd hd h
      | cons x xs => rw [hd] at ih; simp only [pre, List.length_cons] at ih ⊢; omega
theorem dots_mem_len (t : List UInt8) : ∀ x ∈ dots t, x.length ≤ t.length := by
  induction t with
  | nil => intro x hx; simp [dots] at hx; subst hx; exact Nat.le_refl _
  | cons b t ih =>
    intro x hx
    unfold dots at hx
    split at hx
    · rcases List.mem_cons.1 hx with rfl | hx
      · exact Nat.zero_le _
      · have := ih x hx; simp only [List.length_cons]; omega
    · cases hd : dots t with
      | nil => exact absurd hd (dots_ne t)
      | cons y ys =>
        rw [hd] at hx ih
        rcases List.mem_cons.1 hx with rfl | hx
        · have := ih y (List.mem_cons_self ..); simp only [List.length_cons]; omega
        · have := ih x (List.mem_cons_of_mem _ hx); simp only [List.length_cons]; omega
/-- Where the answer's loop stands: parts so far, from where the next one begins, up to where no dot was seen. -/
def Sta (t : List UInt8) (pr : List (List UInt8)) (f i : Nat) : Prop :=
  pr ++ dots (t.drop f) = dots t ∧ f ≤ i ∧ ∀ j, f ≤ j → j < i → occAt t D j = false
theorem sta_start (t : List UInt8) : Sta t [] 0 0 := ⟨rfl, Nat.le_refl _, fun _ _ h => absurd h (Nat.not_lt_zero _)⟩
theorem sta_pass {t : List UInt8} {pr : List (List UInt8)} {f i : Nat} (h : Sta t pr f i) (hi : occAt t D i = false) : Sta t pr f (i + 1) := by
  refine ⟨h.1, Nat.le_succ_of_le h.2.1, fun j h1 h2 => ?_⟩
  rcases Nat.lt_or_ge j i with g | g
  · exact h.2.2 j h1 g
  · have : j = i := by omega
    subst this
    exact hi
theorem sta_hit {t : List UInt8} {pr : List (List UInt8)} {f i : Nat} (h : Sta t pr f i) (hi : occAt t D i = true) : Sta t (pr ++ [(t.drop f).take (i - f)]) (i + 1) (i + 1) := by
  have hf := h.2.1
  have e := dots_hit (t.drop f) (i - f) (by rw [occ_drop, show f + (i - f) = i from by omega]; exact hi) (fun j hj => by rw [occ_drop]; exact h.2.2 _ (by omega) (by omega))
  have e2 : (t.drop f).drop (i - f + 1) = t.drop (i + 1) := by rw [List.drop_drop, show f + (i - f + 1) = i + 1 from by omega]
  rw [e2] at e
  have h1 := h.1
  rw [e] at h1
  exact ⟨by rw [← h1]; simp, Nat.le_refl _, fun j g1 g2 => by omega⟩
theorem sta_end {t : List UInt8} {pr : List (List UInt8)} {f i : Nat} (h : Sta t pr f i) (hi : t.length ≤ i) : dots t = pr ++ [t.drop f] := by
  have e := dots_none (t.drop f) (fun j => by
    rw [occ_drop]
    rcases Nat.lt_or_ge (f + j) i with g | g
    · exact h.2.2 _ (by omega) g
    · exact occ_room _ _ (by omega))
  have h1 := h.1
  rw [e] at h1
  exact h1.symm
end Adr
