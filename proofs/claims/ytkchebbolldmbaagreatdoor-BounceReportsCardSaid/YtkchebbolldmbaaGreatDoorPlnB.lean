/-
  PROVED HERE: plain facts on paths: what is read is a mailbox that may be, and a beginning of the text.
-/
import Derived.Test.YtkchebbolldmbaaGreatDoorPln
set_option linter.unusedVariables false
namespace Adr
theorem tk_suf {c : UInt8} {T r : List UInt8} (h : tk c T = some r) : T = c :: r := by
  unfold tk at h
  split at h
  · rename_i h3
    cases h
    exact at_cons h3
  · cases h
theorem rdD_suf {T d r : List UInt8} (h : rdD T = some (d, r)) : r <:+ T := by
  unfold rdD at h
  split at h
  · cases h; exact List.dropWhile_suffix _
  · cases h
theorem qlp_suf : ∀ (T acc : List UInt8) (p : List UInt8 × List UInt8), qlp T acc = some p → p.2 <:+ T
  | [], acc, p, h => by simp [qlp] at h
  | x :: r, acc, p, h => by
    rw [qlp.eq_def] at h
    simp only at h
    split at h
    · cases h; exact List.suffix_cons x r
    · split at h
      · cases r with
        | nil => cases h
        | cons c r' => exact (qlp_suf r' _ p h).trans ((List.suffix_cons c r').trans (List.suffix_cons x (c :: r')))
      · exact (qlp_suf r _ p h).trans (List.suffix_cons x r)
theorem tail_suf (T : List UInt8) : T.tail <:+ T := List.tail_suffix T
theorem rdL_suf {T l r : List UInt8} (h : rdL T = some (l, r)) : r <:+ T := by
  unfold rdL at h
  split at h
  · unfold rdQ at h
    split at h
    · cases h
    · rename_i hq
      split at h
      · cases h
        exact (qlp_suf _ _ _ hq).trans (tail_suf T)
      · cases h
  · split at h
    · cases h; exact List.dropWhile_suffix _
    · cases h
theorem rl_suf : ∀ (f : Nat) (T r : List UInt8), rl f T = some r → r <:+ T
  | 0, T, r, h => by cases h
  | f + 1, T, r, h => by
    rw [rl] at h
    cases h1 : tk 64 T with
    | none => rw [h1] at h; cases h
    | some u =>
      rw [h1, Option.bind_some] at h
      have hu : u <:+ T := by rw [tk_suf h1]; exact List.suffix_cons 64 u
      cases h2 : rdD u with
      | none => rw [h2] at h; cases h
      | some p =>
        obtain ⟨x, v⟩ := p
        rw [h2, Option.bind_some] at h
        have hv := (rdD_suf h2).trans hu
        simp only at h
        split at h
        · exact ((rl_suf f _ _ h).trans (tail_suf v)).trans hv
        · exact (show r <:+ v by rw [tk_suf h]; exact List.suffix_cons 58 r).trans hv
theorem rdR_suf {T r : List UInt8} (h : rdR T = some r) : r <:+ T := by
  unfold rdR at h
  split at h
  · exact rl_suf _ _ _ h
  · cases h; exact List.suffix_refl _
theorem rdP_suf {T l d r : List UInt8} (h : rdP T = some (l, d, r)) : ∃ u, T = 60 :: u ∧ r <:+ u := by
  unfold rdP at h
  cases h1 : tk 60 T with
  | none => rw [h1] at h; cases h
  | some u =>
    rw [h1, Option.bind_some] at h
    refine ⟨u, tk_suf h1, ?_⟩
    unfold rdP1 at h
    split at h
    · cases h; exact tail_suf u
    · cases h2 : rdR u with
      | none => rw [h2] at h; cases h
      | some v =>
        rw [h2, Option.bind_some] at h
        have hv := rdR_suf h2
        unfold rdP2 at h
        cases h3 : rdL v with
        | none => rw [h3] at h; cases h
        | some p =>
          obtain ⟨x, y⟩ := p
          rw [h3, Option.bind_some] at h
          have hy := (rdL_suf h3).trans hv
          simp only at h
          cases h4 : tk 64 y with
          | none => rw [h4] at h; cases h
          | some z =>
            rw [h4, Option.bind_some] at h
            have hz : z <:+ u := (show z <:+ y by rw [tk_suf h4]; exact List.suffix_cons 64 z).trans hy
            unfold rdP3 at h
            cases h5 : rdD z with
            | none => rw [h5] at h; cases h
            | some q =>
              obtain ⟨e, k⟩ := q
              rw [h5, Option.bind_some] at h
              have hk := (rdD_suf h5).trans hz
              simp only at h
              cases h6 : tk 62 k with
              | none => rw [h6] at h; cases h
              | some i =>
                rw [h6, Option.bind_some] at h
                cases h
                exact (show r <:+ k by rw [tk_suf h6]; exact List.suffix_cons 62 r).trans hk
theorem low_byte : ∀ n, n < 256 → (labB (low n.toUInt8) = labB n.toUInt8 ∧ (low n.toUInt8 == 46) = (n.toUInt8 == 46) ∧ (low n.toUInt8 == 45) = (n.toUInt8 == 45) ∧ low (low n.toUInt8) = low n.toUInt8) := by decide +kernel
theorem low_facts (c : UInt8) : labB (low c) = labB c ∧ (low c == 46) = (c == 46) ∧ (low c == 45) = (c == 45) ∧ low (low c) = low c := by
  have h := low_byte c.toNat (UInt8.toNat_lt c)
  rwa [show c.toNat.toUInt8 = c from UInt8.ofNat_toNat] at h
theorem sml_sml (t : List UInt8) : sml (sml t) = sml t := by
  unfold sml
  rw [List.map_map]
  exact List.map_congr_left fun c _ => (low_facts c).2.2.2
theorem dots_sml : ∀ t : List UInt8, dots (sml t) = (dots t).map sml
  | [] => rfl
  | c :: t => by
    show dots (low c :: sml t) = _
    rw [dots, dots]
    have h := (low_facts c).2.1
    by_cases hc : c = 46
    · subst hc
      rw [if_pos (by decide +kernel), if_pos rfl, dots_sml t]
      rfl
    · have h2 : ¬ low c = 46 := by
        intro e
        rw [e] at h
        have : (c == 46) = true := h ▸ rfl
        exact hc (eq_of_beq this)
      rw [if_neg h2, if_neg hc, dots_sml t]
      cases hd : dots t with
      | nil => exact absurd hd (dots_ne t)
      | cons x xs => rfl
theorem allB_sml (t : List UInt8) : allB labB (sml t) = allB labB t := by
  unfold allB sml
  rw [List.all_map, List.isEmpty_map]
  congr 2
  funext c
  exact (low_facts c).1
theorem label_sml (t : List UInt8) : label (sml t) = label t := by
  unfold label
  rw [allB_sml]
  have h1 : (sml t).length = t.length := by unfold sml; rw [List.length_map]
  have h2 : ((sml t).headD 0 != 45) = (t.headD 0 != 45) := by
    cases t with
    | nil => rfl
    | cons c t => show (low c != 45) = (c != 45); unfold bne; rw [(low_facts c).2.2.1]
  have h3 : ((sml t).getLastD 0 != 45) = (t.getLastD 0 != 45) := by
    unfold sml
    rw [List.getLastD_eq_getLast?, List.getLastD_eq_getLast?, List.getLast?_map]
    cases t.getLast? with
    | none => rfl
    | some c => show (low c != 45) = (c != 45); unfold bne; rw [(low_facts c).2.2.1]
  rw [h1, h2, h3]
theorem domB_sml (t : List UInt8) : domB (sml t) = domB t := by
  unfold domB
  rw [dots_sml, List.all_map, show (sml t).length = t.length by unfold sml; rw [List.length_map]]
  congr 2
  funext x
  exact label_sml x
theorem rdD_dom2 {T d r : List UInt8} (h : rdD T = some (d, r)) : domB d = true ∧ sml d = d := by
  unfold rdD at h
  split at h
  · rename_i hd
    cases h
    exact ⟨by rw [domB_sml]; exact hd, sml_sml _⟩
  · cases h
theorem rdL_local {T l r : List UInt8} (h : rdL T = some (l, r)) : localB l = true := by
  unfold rdL at h
  split at h
  · unfold rdQ at h
    split at h
    · cases h
    · split at h
      · rename_i hl
        cases h
        exact hl
      · cases h
  · split at h
    · rename_i hp
      cases h
      exact plain_local hp
    · cases h
/-- What is read is no mailbox, or one that may be. -/
theorem rdP_may {T l d r : List UInt8} (h : rdP T = some (l, d, r)) : (l = [] ∧ d = []) ∨ mayB l d = true := by
  unfold rdP at h
  cases h1 : tk 60 T with
  | none => rw [h1] at h; cases h
  | some u =>
    rw [h1, Option.bind_some] at h
    unfold rdP1 at h
    split at h
    · cases h; exact .inl ⟨rfl, rfl⟩
    · right
      cases h2 : rdR u with
      | none => rw [h2] at h; cases h
      | some v =>
        rw [h2, Option.bind_some] at h
        unfold rdP2 at h
        cases h3 : rdL v with
        | none => rw [h3] at h; cases h
        | some p =>
          obtain ⟨x, y⟩ := p
          rw [h3, Option.bind_some] at h
          have hl := rdL_local h3
          simp only at h
          cases h4 : tk 64 y with
          | none => rw [h4] at h; cases h
          | some z =>
            rw [h4, Option.bind_some] at h
            unfold rdP3 at h
            cases h5 : rdD z with
            | none => rw [h5] at h; cases h
            | some q =>
              obtain ⟨e, k⟩ := q
              rw [h5, Option.bind_some] at h
              have hd := rdD_dom2 h5
              simp only at h
              cases h6 : tk 62 k with
              | none => rw [h6] at h; cases h
              | some i =>
                rw [h6, Option.bind_some] at h
                cases h
                unfold mayB
                rw [hd.1, hd.2, hl]
                simp
end Adr
