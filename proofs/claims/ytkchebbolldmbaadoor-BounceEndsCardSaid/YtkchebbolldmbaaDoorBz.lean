/-
  PROVED HERE: plain facts on reports: what is written back tells just those that failed, and has no hop.
-/
import Derived.Test.YtkchebbolldmbaaDoorBr
import Derived.Test.YtkchebbolldmbaaDoorBq
set_option linter.unusedVariables false
namespace Lin
theorem spl_joi : ∀ L : List (List UInt8), (∀ x ∈ L, ∀ c ∈ x, c ≠ 13) → spl (joi L) = (L, [])
  | [], _ => rfl
  | x :: L, h => by
    have ih := spl_joi L (fun y hy => h y (List.mem_cons_of_mem _ hy))
    have e : joi (x :: L) = x ++ 13 :: 10 :: joi L := by rw [joi, E, List.append_assoc]; rfl
    rw [e, spl_line x (joi L) (h x (List.mem_cons_self ..)), ih]
end Lin
namespace Adr
theorem shown_ne {c : UInt8} (h : shownB c = true) : c ≠ 13 := fun e => by
  rw [e] at h
  exact absurd h (by decide)
theorem local_ne13 {l : List UInt8} (h : localB l = true) : ∀ c ∈ l, c ≠ 13 := fun c hc => by
  unfold localB at h
  rw [Bool.and_eq_true] at h
  exact shown_ne (allB_mem h.2 c hc)
theorem quo_ne13 {l : List UInt8} (h : ∀ c ∈ l, c ≠ 13) : ∀ c ∈ quo l, c ≠ 13 := fun c hc => by
  unfold quo escs at hc
  simp only [List.mem_append, List.mem_cons, List.not_mem_nil, or_false] at hc
  rcases hc with (rfl | hc) | rfl
  · decide
  · obtain ⟨x, hx, hq⟩ := List.mem_flatten.1 hc
    obtain ⟨d, hd, rfl⟩ := List.mem_map.1 hx
    unfold esc at hq
    split at hq
    · simp only [List.mem_cons, List.not_mem_nil, or_false] at hq
      rcases hq with rfl | rfl
      · decide
      · exact h _ hd
    · simp only [List.mem_cons, List.not_mem_nil, or_false] at hq
      rw [hq]
      exact h _ hd
  · decide
theorem wrt_ne13 {l d : List UInt8} (h : mayB l d = true) : ∀ c ∈ wrt l d, c ≠ 13 := fun c hc => by
  obtain ⟨h1, _, h3⟩ := may_parts h
  unfold wrt at hc
  rw [List.mem_append, List.mem_append] at hc
  rcases hc with hc | hc | hc
  · split at hc
    · exact local_ne13 h3 c hc
    · exact quo_ne13 (local_ne13 h3) c hc
  · simp only [List.mem_cons, List.not_mem_nil, or_false] at hc
    rw [hc]
    decide
  · intro e
    have := dom_mem h1 c hc
    rw [e] at this
    exact absurd this (by decide)
end Adr
namespace Bnc
theorem lns_joi {L : List (List UInt8)} (h : ∀ x ∈ L, ∀ c ∈ x, c ≠ 13) : lns (Lin.joi L) = L := by rw [lns_of (Lin.spl_joi L h), if_pos rfl, List.append_nil]
theorem repL_ne (h fl fd : List UInt8) (l : List Bp) (hy : Adr.mayB fl fd = true) (hl : ∀ p ∈ l, Adr.mayB p.1 p.2 = true) : ∀ x ∈ repL h fl fd l, ∀ c ∈ x, c ≠ 13 := by
  intro x hx
  unfold repL secs at hx
  simp only [List.flatten_cons, List.flatten_nil, List.mem_append, List.not_mem_nil, or_false] at hx
  rcases hx with hx | hx | hx | hx | hx
  · unfold sec1 at hx
    simp only [List.mem_cons, List.not_mem_nil, or_false] at hx
    rcases hx with rfl | rfl | rfl | rfl | rfl | rfl | rfl | rfl | rfl
    · decide
    · intro c hc
      simp only [List.mem_append, List.mem_cons, List.not_mem_nil, or_false] at hc
      rcases hc with hc | rfl | hc | rfl
      · revert c; decide
      · decide
      · exact Adr.wrt_ne13 hy c hc
      · decide
    all_goals decide
  · obtain ⟨p, hp, hq⟩ := List.mem_flatMap.1 hx
    unfold nm at hq
    simp only [List.mem_cons, List.not_mem_nil, or_false] at hq
    rw [hq]
    intro c hc
    simp only [List.mem_append, List.mem_cons, List.not_mem_nil, or_false] at hc
    rcases hc with rfl | hc | rfl
    · decide
    · exact Adr.wrt_ne13 (hl p hp) c hc
    · decide
  · unfold sec3 at hx
    simp only [List.mem_cons, List.not_mem_nil, or_false] at hx
    rcases hx with rfl | rfl | rfl | rfl
    · decide
    · decide
    · decide
    · intro c hc
      rw [List.mem_append] at hc
      rcases hc with hc | hc
      · revert c; decide
      · exact shw_ne h c hc
  · obtain ⟨p, hp, hq⟩ := List.mem_flatMap.1 hx
    unfold stl at hq
    simp only [List.mem_cons, List.not_mem_nil, or_false] at hq
    rcases hq with rfl | rfl | rfl | rfl
    · decide
    · intro c hc
      rw [List.mem_append] at hc
      rcases hc with hc | hc
      · revert c; decide
      · exact Adr.wrt_ne13 (hl p hp) c hc
    · decide
    · decide
  · simp only [List.mem_cons, List.not_mem_nil, or_false] at hx
    rw [hx]
    decide
theorem fd1_first {x : List UInt8} (c : UInt8) (r : List UInt8) (e : x = c :: r) (hc : c ≠ 70) : fd1 x = [] := by
  refine Go.Proofs.YtkchebbolldmbaaDoor.fd1_no ?_
  rw [e]
  unfold Go.Lib.hasPrefix fin
  rw [List.isPrefixOf]
  have : ((70 : UInt8) == c) = false := beq_false_of_ne (fun h => hc h.symm)
  rw [this, Bool.false_and]
theorem fd1_fin {l d : List UInt8} (h : Adr.mayB l d = true) : fd1 (fin ++ Adr.wrt l d) = [(l, d)] := by
  have hp : Go.Lib.hasPrefix (fin ++ Adr.wrt l d) fin = true := by
    unfold Go.Lib.hasPrefix
    rw [List.isPrefixOf_iff_prefix]
    exact List.prefix_append _ _
  have ht : Go.Lib.trimPrefix (fin ++ Adr.wrt l d) fin = Adr.wrt l d := by
    unfold Go.Lib.trimPrefix
    rw [if_pos hp, List.drop_left]
  have hr : Adr.rdP (60 :: (Go.Lib.trimPrefix (fin ++ Adr.wrt l d) fin ++ [62])) = some (l, d, []) := by
    rw [ht]
    exact Adr.rdP_path h []
  rw [Go.Proofs.YtkchebbolldmbaaDoor.fd1_at hp hr, ht, if_pos ⟨h, rfl⟩]
theorem fm_nil {α β : Type} (l : List α) (φ : α → List β) (h : ∀ x ∈ l, φ x = []) : l.flatMap φ = [] := by
  induction l with
  | nil => rfl
  | cons x l ih => rw [List.flatMap_cons, h x (List.mem_cons_self ..), ih (fun y hy => h y (List.mem_cons_of_mem _ hy))]; rfl
theorem stl_fds : ∀ (l : List Bp), (∀ p ∈ l, Adr.mayB p.1 p.2 = true) → (l.flatMap stl).flatMap fd1 = l
  | [], _ => rfl
  | p :: l, h => by
    rw [List.flatMap_cons, List.flatMap_append, stl_fds l (fun q hq => h q (List.mem_cons_of_mem _ hq))]
    have e : (stl p).flatMap fd1 = [p] := by
      unfold stl
      simp only [List.flatMap_cons, List.flatMap_nil, List.append_nil]
      rw [fd1_fin (h p (List.mem_cons_self ..)), show fd1 [] = [] from rfl, show fd1 act = [] from fd1_first 65 _ rfl (by decide), show fd1 sta = [] from fd1_first 83 _ rfl (by decide)]
      rfl
    rw [e]
    rfl
/-- A report tells just those that failed. -/
theorem rep_fds (h fl fd : List UInt8) (l : List Bp) (hy : Adr.mayB fl fd = true) (hl : ∀ p ∈ l, Adr.mayB p.1 p.2 = true) : fds (rep h fl fd l) = l := by
  unfold fds rep
  rw [lns_joi (repL_ne h fl fd l hy hl)]
  unfold repL secs
  simp only [List.flatten_cons, List.flatten_nil, List.flatMap_append, List.append_nil]
  have e1 : (sec1 fl fd).flatMap fd1 = [] := fm_nil _ _ (fun x hx => by
    unfold sec1 at hx
    simp only [List.mem_cons, List.not_mem_nil, or_false] at hx
    rcases hx with rfl | rfl | rfl | rfl | rfl | rfl | rfl | rfl | rfl
    · decide +kernel
    · exact fd1_first 84 _ rfl (by decide)
    all_goals decide +kernel)
  have e2 : (l.flatMap nm).flatMap fd1 = [] := fm_nil _ _ (fun x hx => by
    obtain ⟨p, hp, hq⟩ := List.mem_flatMap.1 hx
    unfold nm at hq
    simp only [List.mem_cons, List.not_mem_nil, or_false] at hq
    exact fd1_first 60 _ hq (by decide))
  have e3 : (sec3 h).flatMap fd1 = [] := fm_nil _ _ (fun x hx => by
    unfold sec3 at hx
    simp only [List.mem_cons, List.not_mem_nil, or_false] at hx
    rcases hx with rfl | rfl | rfl | rfl
    · decide +kernel
    · decide +kernel
    · decide +kernel
    · exact fd1_first 82 _ rfl (by decide))
  have e5 : [r9].flatMap fd1 = [] := by decide +kernel
  rw [e1, e2, e3, e5, stl_fds l hl]
  simp
/-- A report has no hop. -/
theorem rep_hops (h fl fd : List UInt8) (l : List Bp) (hy : Adr.mayB fl fd = true) (hl : ∀ p ∈ l, Adr.mayB p.1 p.2 = true) : hops (rep h fl fd l) = 0 := by
  unfold hops rep
  rw [lns_joi (repL_ne h fl fd l hy hl)]
  have e : repL h fl fd l = [r0, t1 ++ (60 :: (Adr.wrt fl fd ++ [62])), r2, r3] ++ [] :: ([r5, r6, [], r8] ++ (l.flatMap nm ++ (sec3 h ++ (l.flatMap stl ++ ([r9] ++ []))))) := rfl
  have h1 : hopB (t1 ++ (60 :: (Adr.wrt fl fd ++ [62]))) = false := by
    unfold hopB
    rw [Bool.and_eq_false_iff]
    refine Or.inr (decide_eq_false (fun q => ?_))
    have q2 := congrArg (fun z => z.head?) q
    exact absurd q2 (by
      show some (Adr.low 84) ≠ some 114
      decide)
  rw [e, hdl_app_nil]
  have e2 : hdl [r0, t1 ++ (60 :: (Adr.wrt fl fd ++ [62])), r2, r3] = [r0, t1 ++ (60 :: (Adr.wrt fl fd ++ [62])), r2, r3] := rfl
  rw [e2, List.filter_cons_of_neg (by decide), List.filter_cons_of_neg (by rw [h1]; exact Bool.false_ne_true), List.filter_cons_of_neg (by decide), List.filter_cons_of_neg (by decide)]
  rfl
end Bnc
