/-
  PROVED HERE: plain facts on lines that are parted by a line's end: a stamp ahead of a text, and what stands behind the first line without bytes.
-/
import Derived.Test.YtkchebbolldmbaaGreatDoorBd
set_option linter.unusedVariables false
namespace Lin
theorem spl_hit2 (t : List UInt8) : spl (13 :: 10 :: t) = ([] :: (spl t).1, (spl t).2) := by rw [spl, if_pos ⟨rfl, rfl⟩]
theorem spl_pass (b c : UInt8) (t : List UInt8) (h : ¬ (b = 13 ∧ c = 10)) : spl (b :: c :: t) = pre b (spl (c :: t)) := by rw [spl, if_neg h]
theorem pre_cons (b : UInt8) (x : List UInt8) (l : List (List UInt8)) (r : List UInt8) : pre b (x :: l, r) = ((b :: x) :: l, r) := rfl
/-- A text without a line's end's first byte, closed. -/
theorem spl_line : ∀ (x t : List UInt8), (∀ c ∈ x, c ≠ 13) → spl (x ++ 13 :: 10 :: t) = (x :: (spl t).1, (spl t).2)
  | [], t, _ => spl_hit2 t
  | b :: x, t, h => by
    have ih := spl_line x t (fun c hc => h c (List.mem_cons_of_mem _ hc))
    have hb : b ≠ 13 := h b (List.mem_cons_self ..)
    cases x with
    | nil =>
      show spl (b :: 13 :: 10 :: t) = _
      rw [spl_pass _ _ _ (fun e => hb e.1)]
      rw [show spl (13 :: 10 :: t) = ([] :: (spl t).1, (spl t).2) from spl_hit2 t]
      rfl
    | cons c x =>
      show spl (b :: c :: (x ++ 13 :: 10 :: t)) = _
      rw [spl_pass _ _ _ (fun e => hb e.1)]
      rw [show spl (c :: (x ++ 13 :: 10 :: t)) = ((c :: x) :: (spl t).1, (spl t).2) from ih]
      rfl
/-- What stands ahead of a line's end is split by itself. -/
theorem spl_part : ∀ (n : Nat) (s : List UInt8), s.length ≤ n → ∃ A, A ≠ [] ∧ spl (s ++ [13, 10]) = (A, []) ∧ ∀ t, spl (s ++ 13 :: 10 :: t) = (A ++ (spl t).1, (spl t).2)
  | n, [], _ => ⟨[[]], by simp, spl_hit2 [], fun t => spl_hit2 t⟩
  | 0, b :: s, h => absurd h (by simp)
  | n + 1, [b], _ => by
    by_cases hb : b = 13 ∧ (13 : UInt8) = 10
    · exact absurd hb.2 (by decide)
    · refine ⟨[[b]], by simp, ?_, fun t => ?_⟩
      · show spl (b :: 13 :: 10 :: []) = _
        rw [spl_pass _ _ _ hb, spl_hit2]; rfl
      · show spl (b :: 13 :: 10 :: t) = _
        rw [spl_pass _ _ _ hb, spl_hit2]; rfl
  | n + 1, b :: c :: s, h => by
    by_cases hb : b = 13 ∧ c = 10
    · obtain ⟨rfl, rfl⟩ := hb
      by_cases hs : s.length ≤ n
      · obtain ⟨A, h0, h1, h2⟩ := spl_part n s hs
        refine ⟨[] :: A, by simp, ?_, fun t => ?_⟩
        · show spl (13 :: 10 :: (s ++ [13, 10])) = _
          rw [spl_hit2, h1]
        · show spl (13 :: 10 :: (s ++ 13 :: 10 :: t)) = _
          rw [spl_hit2, h2]; rfl
      · simp only [List.length_cons] at h; omega
    · obtain ⟨A, h0, h1, h2⟩ := spl_part n (c :: s) (by simp only [List.length_cons] at h ⊢; omega)
      cases A with
      | nil => exact absurd rfl h0
      | cons a A =>
        refine ⟨(b :: a) :: A, by simp, ?_, fun t => ?_⟩
        · show spl (b :: c :: (s ++ [13, 10])) = _
          rw [spl_pass _ _ _ hb, show spl (c :: (s ++ [13, 10])) = (a :: A, []) from h1]; rfl
        · show spl (b :: c :: (s ++ 13 :: 10 :: t)) = _
          rw [spl_pass _ _ _ hb, show spl (c :: (s ++ 13 :: 10 :: t)) = ((a :: A) ++ (spl t).1, (spl t).2) from h2 t]; rfl
end Lin
namespace Bnc
theorem hdl_app_nil : ∀ (A X : List (List UInt8)), hdl (A ++ [] :: X) = hdl A
  | [], X => by rw [List.nil_append]; rfl
  | x :: A, X => by
    rw [List.cons_append, hdl, hdl]
    by_cases h : x = []
    · rw [if_pos h, if_pos h]
    · rw [if_neg h, if_neg h, hdl_app_nil A X]
theorem lns_of {t : List UInt8} {A : List (List UInt8)} {r : List UInt8} (h : Lin.spl t = (A, r)) : lns t = A ++ (if r = [] then [] else [r]) := by unfold lns; rw [h]
/-- What stands behind the first line without bytes is no matter. -/
theorem hops_behind (t b : List UInt8) : hops (t ++ [13, 10, 13, 10] ++ b) = hops (t ++ [13, 10]) := by
  obtain ⟨A, _, h1, h2⟩ := Lin.spl_part t.length t (Nat.le_refl _)
  have e : t ++ [13, 10, 13, 10] ++ b = t ++ 13 :: 10 :: (13 :: 10 :: b) := by simp
  have h3 : Lin.spl (t ++ [13, 10, 13, 10] ++ b) = (A ++ [] :: (Lin.spl b).1, (Lin.spl b).2) := by rw [e, h2, Lin.spl_hit2]
  unfold hops
  rw [lns_of h3, lns_of h1, if_pos rfl, List.append_nil, List.append_assoc, List.cons_append, hdl_app_nil]
theorem shB_ne (c : UInt8) : shB c ≠ 13 := by
  intro e
  by_cases h : c.toNat < 32 ∨ 126 < c.toNat
  · rw [sh_mark c h] at e; cases e
  · rw [sh_same c h] at e
    rw [e] at h
    exact h (Or.inl (by decide))
theorem shw_ne (t : List UInt8) : ∀ c ∈ shw t, c ≠ 13 := fun c hc => by
  unfold shw at hc
  obtain ⟨d, _, rfl⟩ := List.mem_map.1 hc
  exact shB_ne d
theorem num_ne (n : Nat) : ∀ c ∈ num n, c ≠ 13 := fun c hc e => by
  unfold num at hc
  rw [e] at hc
  revert hc
  induction n using Nat.strongRecOn with
  | _ n ih =>
    intro hc
    have dig : ∀ d, d < 10 → (13 : UInt8) ≠ UInt8.ofNat (48 + d) := by decide
    rw [Go.Lib.decDigits] at hc
    split at hc
    · rename_i h
      simp only [List.mem_cons, List.not_mem_nil, or_false] at hc
      exact dig n h hc
    · rename_i h
      rw [List.mem_append] at hc
      rcases hc with hc | hc
      · exact ih (n / 10) (by omega) hc
      · simp only [List.mem_cons, List.not_mem_nil, or_false] at hc
        exact dig (n % 10) (by omega) hc
theorem stamp_ne (h g : List UInt8) (i n : Nat) : ∀ c ∈ stamp h g i n, c ≠ 13 := fun c hc => by
  unfold stamp at hc
  simp only [List.mem_append] at hc
  rcases hc with ((((((hc | hc) | hc) | hc) | hc) | hc) | hc) | hc
  · revert c; decide
  · exact shw_ne _ c hc
  · revert c; decide
  · exact shw_ne _ c hc
  · revert c; decide
  · exact num_ne _ c hc
  · revert c; decide
  · exact num_ne _ c hc
theorem stamp_head (h g : List UInt8) (i n : Nat) : ∃ r, stamp h g i n = st1 ++ r := ⟨shw g ++ (st2 ++ (shw h ++ (st3 ++ (num i ++ (st4 ++ num n))))), by unfold stamp; simp only [List.append_assoc]⟩
theorem stamp_hop (h g : List UInt8) (i n : Nat) : hopB (stamp h g i n) = true := by
  obtain ⟨r, e⟩ := stamp_head h g i n
  rw [e]
  unfold hopB
  have h1 : 9 ≤ (st1 ++ r).length := by rw [List.length_append]; have : st1.length = 15 := rfl; omega
  have h2 : (st1 ++ r).take 9 = st1.take 9 := by rw [List.take_append_of_le_length (by decide)]
  rw [decide_eq_true h1, h2, Bool.true_and]
  decide
theorem stamp_some (h g : List UInt8) (i n : Nat) : stamp h g i n ≠ [] := fun e => by
  obtain ⟨r, e2⟩ := stamp_head h g i n
  rw [e] at e2
  cases e2
theorem stamp_spl (h g : List UInt8) (i n : Nat) (t : List UInt8) : Lin.spl (stamp h g i n ++ [13, 10] ++ t) = (stamp h g i n :: (Lin.spl t).1, (Lin.spl t).2) := by
  rw [List.append_assoc]
  exact Lin.spl_line _ t (stamp_ne h g i n)
theorem stamp_hops (h g : List UInt8) (i n : Nat) (t : List UInt8) : hops (stamp h g i n ++ [13, 10] ++ t) = hops t + 1 := by
  have e := stamp_spl h g i n t
  unfold hops
  rw [lns_of e]
  show ((hdl (stamp h g i n :: ((Lin.spl t).1 ++ _))).filter hopB).length = _
  rw [hdl, if_neg (stamp_some h g i n), List.filter_cons_of_pos (stamp_hop h g i n)]
  rfl
end Bnc
