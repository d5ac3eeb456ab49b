/-
  PROVED HERE: plain facts on paths: what is written is read back.
-/
import Derived.Test.YtkchebbolldmbaaGreatDoorRdP
set_option linter.unusedVariables false
namespace Adr
/-- Bytes of a text are those of its parts, and dots. -/
theorem dots_mem : ∀ (t : List UInt8) (p : UInt8 → Bool), (∀ x ∈ dots t, ∀ c ∈ x, p c = true) → ∀ c ∈ t, (p c || (c == 46)) = true
  | [], p, h, c, hc => by cases hc
  | b :: t, p, h, c, hc => by
    rw [dots] at h
    split at h
    · rename_i hb
      rcases List.mem_cons.1 hc with rfl | hc
      · subst hb; simp
      · exact dots_mem t p (fun x hx => h x (List.mem_cons_of_mem _ hx)) c hc
    · rename_i hb
      cases hd : dots t with
      | nil => exact absurd hd (dots_ne t)
      | cons x xs =>
        rw [hd] at h
        rcases List.mem_cons.1 hc with rfl | hc
        · rw [h (c :: x) (by simp [pre]) c (by simp)]; rfl
        · refine dots_mem t p (fun y hy => ?_) c hc
          rw [hd] at hy
          rcases List.mem_cons.1 hy with rfl | hy
          · exact fun e he => h (b :: y) (by simp [pre]) e (List.mem_cons_of_mem _ he)
          · exact h y (by simp [pre, hy])
theorem dots_nil_mem {t : List UInt8} (h : t = []) : [] ∈ dots t := by subst h; simp [dots]
theorem allB_mem {p : UInt8 → Bool} {t : List UInt8} (h : allB p t = true) : ∀ c ∈ t, p c = true := by
  unfold allB at h
  rw [Bool.and_eq_true] at h
  exact List.all_eq_true.1 h.1
theorem allB_ne {p : UInt8 → Bool} {t : List UInt8} (h : allB p t = true) : t ≠ [] := by
  intro e
  subst e
  cases h
theorem label_all {t : List UInt8} (h : label t = true) : allB labB t = true := by
  unfold label at h
  rw [Bool.and_eq_true, Bool.and_eq_true] at h
  exact h.2.1
theorem dom_mem {d : List UInt8} (h : domB d = true) : ∀ c ∈ d, inD c = true := by
  unfold domB at h
  rw [Bool.and_eq_true] at h
  exact dots_mem d labB fun x hx c hc => allB_mem (label_all (List.all_eq_true.1 h.2 x hx)) c hc
theorem dom_ne {d : List UInt8} (h : domB d = true) : d ≠ [] := by
  intro e
  subst e
  cases h
theorem plain_mem {l : List UInt8} (h : plainB l = true) : ∀ c ∈ l, inL c = true := by
  unfold plainB at h
  rw [Bool.and_eq_true] at h
  exact dots_mem l atomB fun x hx c hc => allB_mem (List.all_eq_true.1 h.2 x hx) c hc
theorem local_ne {l : List UInt8} (h : localB l = true) : l ≠ [] := by
  unfold localB at h
  rw [Bool.and_eq_true] at h
  exact allB_ne h.2
theorem plain_local {l : List UInt8} (h : plainB l = true) : localB l = true := by
  unfold plainB at h
  rw [Bool.and_eq_true] at h
  exact h.1
theorem while_all (p : UInt8 → Bool) : ∀ (t r : List UInt8), (∀ c ∈ t, p c = true) → (∀ c, r.head? = some c → p c = false) → (t ++ r).takeWhile p = t ∧ (t ++ r).dropWhile p = r
  | [], r, _, h => by
    cases r with
    | nil => exact ⟨rfl, rfl⟩
    | cons c r =>
      have := h c rfl
      simp [this]
  | c :: t, r, h, g => by
    have ih := while_all p t r (fun x hx => h x (List.mem_cons_of_mem _ hx)) g
    have hc := h c (by simp)
    simp [hc, ih.1, ih.2]
/-- A domain that stands ahead of a byte that is none of a domain's. -/
theorem rdD_dom {d : List UInt8} (h : domB d = true) {c : UInt8} (hc : inD c = false) (r : List UInt8) : rdD (d ++ c :: r) = some (sml d, c :: r) := by
  have hw := while_all inD d (c :: r) (dom_mem h) (fun x hx => by cases hx; exact hc)
  unfold rdD
  rw [hw.1, hw.2, if_pos h]
/-- A local part in quotes, with signs ahead of some bytes. -/
def sgnd : List UInt8 → List Bool → List UInt8
  | [], _ => []
  | c :: t, [] => (if c == 34 || c == 92 then [92, c] else [c]) ++ sgnd t []
  | c :: t, b :: bs => (if c == 34 || c == 92 || b then [92, c] else [c]) ++ sgnd t bs
theorem qlp_one (c : UInt8) (b : Bool) (r acc : List UInt8) : qlp ((if c == 34 || c == 92 || b then [92, c] else [c]) ++ r) acc = qlp r (acc ++ [c]) := by
  split
  · exact qlp_sign c r acc
  · rename_i h
    simp only [Bool.or_eq_true, not_or, beq_iff_eq] at h
    exact qlp_more c r acc h.1.1 h.1.2
theorem qlp_sgnd : ∀ (t : List UInt8) (bs : List Bool) (r acc : List UInt8), qlp (sgnd t bs ++ 34 :: r) acc = some (acc ++ t, r)
  | [], bs, r, acc => by rw [sgnd, List.nil_append, qlp_end, List.append_nil]
  | c :: t, [], r, acc => by
    have h := qlp_one c false (sgnd t [] ++ 34 :: r) acc
    rw [Bool.or_false] at h
    rw [sgnd, List.append_assoc, h, qlp_sgnd t [] r]
    simp
  | c :: t, b :: bs, r, acc => by
    rw [sgnd, List.append_assoc, qlp_one c b, qlp_sgnd t bs r]
    simp
theorem escs_sgnd (t : List UInt8) : escs t = sgnd t [] := by
  induction t with
  | nil => rfl
  | cons c t ih =>
    rw [sgnd, ← ih]
    rfl
theorem rdL_quo {l : List UInt8} (h : localB l = true) (bs : List Bool) (r : List UInt8) : rdL (34 :: (sgnd l bs ++ 34 :: r)) = some (l, r) := by
  unfold rdL
  rw [if_pos (by rfl), List.tail_cons]
  exact rdQ_yes (by rw [qlp_sgnd, List.nil_append]) h
theorem head_app {l r : List UInt8} (h : l ≠ []) : (l ++ r).head? = l.head? := by
  cases l with
  | nil => exact absurd rfl h
  | cons c t => rfl
theorem atB_head (c : UInt8) (T : List UInt8) : atB c T = (T.head? == some c) := by
  cases T with
  | nil => rfl
  | cons x r => rfl
theorem atB_not {l r : List UInt8} {p : UInt8 → Bool} (h : ∀ c ∈ l, p c = true) (hne : l ≠ []) {c : UInt8} (hc : p c = false) : atB c (l ++ r) = false := by
  cases l with
  | nil => exact absurd rfl hne
  | cons x t =>
    show (x == c) = false
    rw [beq_eq_false_iff_ne]
    intro e
    subst e
    have := h x (by simp)
    rw [hc] at this
    cases this
theorem rdL_plain {l : List UInt8} (h : plainB l = true) {c : UInt8} (hc : inL c = false) (r : List UInt8) : rdL (l ++ c :: r) = some (l, c :: r) := by
  have hw := while_all inL l (c :: r) (plain_mem h) (fun x hx => by cases hx; exact hc)
  unfold rdL
  rw [atB_not (plain_mem h) (local_ne (plain_local h)) (by decide +kernel), if_neg (by decide), hw.1, hw.2, if_pos h]
/-- A mailbox that stands as it is written, ahead of the sign at a path's end. -/
theorem rdP2_box {X l d r : List UInt8} (hX : ∀ u, rdL (X ++ 64 :: u) = some (l, 64 :: u)) (hd : domB d = true) : rdP2 (X ++ 64 :: (d ++ 62 :: r)) = some (l, sml d, r) := by
  unfold rdP2
  rw [hX, Option.bind_some]
  show (tk 64 (64 :: (d ++ 62 :: r))).bind _ = _
  rw [tk_yes (by rfl), Option.bind_some, List.tail_cons]
  unfold rdP3
  rw [rdD_dom hd (by decide +kernel), Option.bind_some]
  show (tk 62 (62 :: r)).bind _ = _
  rw [tk_yes (by rfl)]
  rfl
theorem may_parts {l d : List UInt8} (h : mayB l d = true) : domB d = true ∧ sml d = d ∧ localB l = true := by
  unfold mayB at h
  rw [Bool.and_eq_true, Bool.and_eq_true, beq_iff_eq] at h
  exact h
/-- Behind a sign of a local part's kind no route stands, and no end. -/
theorem wrt_ahead {l d : List UInt8} (h : mayB l d = true) (r : List UInt8) : ∃ X, wrt l d ++ r = X ++ 64 :: (d ++ r) ∧ (∀ u, rdL (X ++ 64 :: u) = some (l, 64 :: u)) ∧ (∀ u, atB 62 (X ++ u) = false) ∧ ∀ u, atB 64 (X ++ u) = false := by
  obtain ⟨_, _, hl⟩ := may_parts h
  cases hp : plainB l with
  | true =>
    refine ⟨l, ?_, fun u => rdL_plain hp (by decide +kernel) u, fun u => atB_not (plain_mem hp) (local_ne hl) (by decide +kernel), fun u => atB_not (plain_mem hp) (local_ne hl) (by decide +kernel)⟩
    unfold wrt
    rw [if_pos hp]
    simp
  | false =>
    refine ⟨quo l, ?_, fun u => ?_, fun u => rfl, fun u => rfl⟩
    · unfold wrt
      rw [hp]
      simp
    · unfold quo
      rw [escs_sgnd]
      have := rdL_quo hl [] (64 :: u)
      simpa using this
/-- A mailbox's path is read back, whatever follows. -/
theorem rdP_path {l d : List UInt8} (h : mayB l d = true) (s : List UInt8) : rdP (60 :: (wrt l d ++ 62 :: s)) = some (l, d, s) := by
  obtain ⟨hd, hs, hl⟩ := may_parts h
  obtain ⟨X, hX, hL, h62, h64⟩ := wrt_ahead h (62 :: s)
  unfold rdP
  rw [tk_yes (by rfl), Option.bind_some, List.tail_cons]
  unfold rdP1
  rw [hX, h62, if_neg (by decide)]
  unfold rdR
  rw [h64, if_neg (by decide), Option.bind_some, rdP2_box hL hd, hs]
theorem rdP_none_box (s : List UInt8) : rdP (60 :: 62 :: s) = some ([], [], s) := rfl
end Adr
