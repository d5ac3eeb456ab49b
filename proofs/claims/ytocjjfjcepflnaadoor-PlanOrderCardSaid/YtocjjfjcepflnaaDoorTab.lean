/-
  PROVED HERE: plain facts on tables of rules by their domains.
-/
import Derived.Test.YtocjjfjcepflnaaDoorFnd
import Derived.Maps.RangeWalk
set_option linter.unusedVariables false
namespace Go.Proofs.YtocjjfjcepflnaaDoor
open Go.RowKit Go.Maps Go.ChangeMaps
/-- A rule as a datum. -/
def ruD (x : Ru) : DataW Unit := .agg [.lit (.string x.dm), .lit (.int .i64 x.kd), .lit (.int .i64 x.ho)]
def ruR (v : Value) : Option (DataW Unit × List MemPlace) :=
  match v with
  | .agg cs => match cs.toList with
    | [.string s, .int .i64 k, .int .i64 h] => some (.agg [.lit (.string s.data.toList), .lit (.int .i64 k), .lit (.int .i64 h)], [])
    | _ => none
  | _ => none
theorem ruR_mk (x : Ru) : ruR (.agg (ruA x)) = some (ruD x, []) := by
  unfold ruR ruD ruA
  simp
theorem ruR_inv (v : Value) (y : DataW Unit × List MemPlace) (h : ruR v = some y) : ∃ x : Ru, v = .agg (ruA x) ∧ y = (ruD x, []) := by
  unfold ruR at h
  split at h
  · rename_i cs
    split at h
    · rename_i s k hh e
      refine ⟨⟨s.data.toList, k, hh⟩, ?_, ?_⟩
      · unfold ruA
        have : cs = #[.string s, .int .i64 k, .int .i64 hh] := by rw [← e]
        rw [this]
      · cases h; rfl
    · cases h
  · cases h
theorem ruD_inj {x y : Ru} (h : ruD x = ruD y) : x = y := by
  unfold ruD at h
  cases x; cases y
  simpa using h
/-- A table of the first rules. -/
def tab (f : Nat → Ru) : Nat → DataW Unit
  | 0 => .map []
  | k + 1 => (tab f k).put (.string (f k).dm) (ruD (f k))
theorem key_str (t : List UInt8) : WideAt.IsKeyLit (.string t) := by constructor
theorem tab_tidy (f : Nat → Ru) : ∀ k, Tidy (tab f k)
  | 0 => tidy_empty
  | k + 1 => (tab_tidy f k).put (key_str _) _
theorem tab_has (f : Nat → Ru) (t : List UInt8) : ∀ k, Maps.has (tab f k) (.string t) = true ↔ ∃ i, i < k ∧ (f i).dm = t
  | 0 => by simp [tab, Maps.has]
  | k + 1 => by
    by_cases e : t = (f k).dm
    · subst e
      rw [tab, has_put_same (tab_tidy f k).isMap (key_str _)]
      simp only [true_iff]
      exact ⟨k, Nat.lt_succ_self k, rfl⟩
    · rw [tab, has_put_other (by simpa using e), tab_has f t k]
      constructor
      · rintro ⟨i, h1, h2⟩
        exact ⟨i, Nat.lt_succ_of_lt h1, h2⟩
      · rintro ⟨i, h1, h2⟩
        refine ⟨i, ?_, h2⟩
        rcases Nat.lt_succ_iff_lt_or_eq.1 h1 with h | h
        · exact h
        · subst h; exact absurd h2.symm e
theorem tab_at (f : Nat → Ru) (t : List UInt8) : ∀ k, (∃ i, i < k ∧ (f i).dm = t) → ∃ i, i < k ∧ (f i).dm = t ∧ ∀ z, (tab f k).atKey (.string t) z = ruD (f i)
  | 0 => by rintro ⟨i, h, _⟩; exact absurd h (Nat.not_lt_zero i)
  | k + 1 => by
    rintro ⟨i, h1, h2⟩
    by_cases e : t = (f k).dm
    · subst e
      exact ⟨k, Nat.lt_succ_self k, rfl, fun z => by rw [tab, atKey_put_same (tab_tidy f k).isMap (key_str _)]⟩
    · have hi : i < k := by
        rcases Nat.lt_succ_iff_lt_or_eq.1 h1 with h | h
        · exact h
        · subst h; exact absurd h2.symm e
      obtain ⟨j, g1, g2, g3⟩ := tab_at f t k ⟨i, hi, h2⟩
      exact ⟨j, Nat.lt_succ_of_lt g1, g2, fun z => by rw [tab, atKey_put_other (by simpa using e), g3 z]⟩
/-- No domain stands twice. -/
def Dst (f : Nat → Ru) (n : Nat) : Prop := ∀ i j, i < j → j < n → (f i).dm ≠ (f j).dm
theorem tab_size_le (f : Nat → Ru) : ∀ k, Maps.size (tab f k) ≤ k
  | 0 => Nat.le_refl _
  | k + 1 => by
    rw [tab, size_put (tab_tidy f k)]
    have := tab_size_le f k
    split <;> omega
theorem tab_size (f : Nat → Ru) : ∀ k, Maps.size (tab f k) = k ↔ Dst f k
  | 0 => by simp [tab, Maps.size, Dst]
  | k + 1 => by
    have ih := tab_size f k
    have hl := tab_size_le f k
    have hh := tab_has f (f k).dm k
    rw [tab, size_put (tab_tidy f k)]
    constructor
    · intro h
      split at h
      · omega
      · rename_i hn
        have hk : Maps.size (tab f k) = k := by omega
        have hd := ih.1 hk
        intro i j h1 h2
        rcases Nat.lt_succ_iff_lt_or_eq.1 h2 with h3 | h3
        · exact hd i j h1 h3
        · subst h3
          intro e
          exact hn (hh.2 ⟨i, h1, e⟩)
    · intro h
      have hd : Dst f k := fun i j h1 h2 => h i j h1 (Nat.lt_succ_of_lt h2)
      have hk := ih.2 hd
      have hn : ¬ Maps.has (tab f k) (.string (f k).dm) = true := by
        rw [hh]
        rintro ⟨i, h1, h2⟩
        exact h i k h1 (Nat.lt_succ_self k) h2
      rw [if_neg hn, hk]
theorem tab_fnd {f : Nat → Ru} {n i : Nat} {t : List UInt8} (hd : Dst f n) (hi : i < n) (h : (f i).dm = t) : fndI f t n = (i : Int) :=
  fnd_yes hi h (fun j hj e => hd j i hj hi (e.trans h.symm))
end Go.Proofs.YtocjjfjcepflnaaDoor
