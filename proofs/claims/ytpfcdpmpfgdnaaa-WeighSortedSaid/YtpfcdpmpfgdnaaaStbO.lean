/-
  PROVED HERE: plain facts on the places that stable sorting lays: each once, and in a row the weights rise, and where they tie the places do.
-/
import Derived.Test.YtpfcdpmpfgdnaaaLeast
import Derived.Maps.Own
namespace Go.Proofs.Ytpfcdpmpfgdnaaa
open Stb

theorem ins_stable {lt : Nat → Nat → Bool} (h : Swo lt) (z : Nat) (l : List Nat) (hl : ∀ x ∈ l, x < z) (hp : l.Pairwise fun x y => lt y x = false ∧ (lt x y = false → x < y)) :
    (ins lt z l).Pairwise fun x y => lt y x = false ∧ (lt x y = false → x < y) := by
  induction l with
  | nil => exact List.pairwise_singleton _ _
  | cons y ys ih =>
    rw [ins_cons]
    rw [List.pairwise_cons] at hp
    have asym : ∀ u v, lt u v = true → lt v u = false := by
      intro u v e
      cases d : lt v u with
      | false => rfl
      | true => have := h.tr _ _ _ e d; rw [h.irr] at this; cases this
    split
    · rename_i c
      have key : ∀ u ∈ y :: ys, lt z u = true := by
        intro u hu
        rcases List.mem_cons.1 hu with rfl | hu
        · exact c
        · exact h.lt_of_lt_of_not c (hp.1 u hu).1
      rw [List.pairwise_cons, List.pairwise_cons]
      refine ⟨fun u hu => ⟨asym _ _ (key u hu), fun e => ?_⟩, hp.1, hp.2⟩
      rw [key u hu] at e; cases e
    · rename_i c
      rw [List.pairwise_cons]
      refine ⟨fun u hu => ?_, ih (fun x hx => hl x (List.mem_cons_of_mem _ hx)) hp.2⟩
      rcases List.mem_cons.1 ((ins_perm z ys).mem_iff.1 hu) with rfl | hu
      · exact ⟨by simpa using c, fun _ => hl y (by simp)⟩
      · exact hp.1 u hu
theorem isort_range_stable {lt : Nat → Nat → Bool} (h : Swo lt) (n : Nat) : (isort lt (List.range n)).Pairwise fun x y => lt y x = false ∧ (lt x y = false → x < y) := by
  induction n with
  | zero => exact List.Pairwise.nil
  | succ n ih =>
    rw [List.range_succ, isort_snoc]
    exact ins_stable h n _ (fun x hx => List.mem_range.1 ((isort_perm _).mem_iff.1 hx)) ih
theorem ordL_at (L : Nat → Nat) (n k : Nat) (hk : k < n) : ∃ h : k < (ordL L n).length, (ordL L n).getD k 0 = (ordL L n)[k] := by
  have := length_ordL L n
  refine ⟨by omega, ?_⟩
  rw [List.getD_eq_getElem?_getD, List.getElem?_eq_getElem (by omega)]
  rfl
theorem ordL_pair (L : Nat → Nat) (n i k : Nat) (hik : i < k) (hk : k < n) :
    ltL L n ((ordL L n).getD k 0) ((ordL L n).getD i 0) = false ∧ (ltL L n ((ordL L n).getD i 0) ((ordL L n).getD k 0) = false → (ordL L n).getD i 0 < (ordL L n).getD k 0) := by
  obtain ⟨h1, e1⟩ := ordL_at L n k hk
  obtain ⟨h2, e2⟩ := ordL_at L n i (by omega)
  rw [e1, e2]
  exact List.pairwise_iff_getElem.1 (isort_range_stable (swo_ltL L n) n) i k h2 h1 hik
theorem ordL_bd (L : Nat → Nat) (n k : Nat) (hk : k < n) : (ordL L n).getD k 0 < n := by
  obtain ⟨h1, e1⟩ := ordL_at L n k hk
  rw [e1]
  exact ordL_lt L n _ (List.getElem_mem h1)
theorem ordL_nodup (L : Nat → Nat) (n : Nat) : (ordL L n).Nodup := (isort_perm _).nodup_iff.2 List.nodup_range
theorem ordL_ne (L : Nat → Nat) (n i k : Nat) (hik : i < k) (hk : k < n) : (ordL L n).getD i 0 ≠ (ordL L n).getD k 0 := by
  obtain ⟨h1, e1⟩ := ordL_at L n k hk
  obtain ⟨h2, e2⟩ := ordL_at L n i (by omega)
  rw [e1, e2]
  exact List.pairwise_iff_getElem.1 (ordL_nodup L n) i k h2 h1 hik
/-- Two in a row: the second does not weigh less; where they weigh alike, its place is further on. -/
theorem ordL_two (L : Nat → Nat) (n i k : Nat) (hik : i < k) (hk : k < n) :
    ¬ 0 < Wgh.cmpW (L ((ordL L n).getD i 0)) (L ((ordL L n).getD k 0)) ∧ (Wgh.cmpW (L ((ordL L n).getD i 0)) (L ((ordL L n).getD k 0)) = 0 → ¬ (ordL L n).getD k 0 ≤ (ordL L n).getD i 0) := by
  have h := ordL_pair L n i k hik hk
  have b1 := ordL_bd L n k hk
  have b2 := ordL_bd L n i (by omega)
  unfold ltL at h
  rw [Nat.mod_eq_of_lt b1, Nat.mod_eq_of_lt b2] at h
  simp only [decide_eq_false_iff_not, cmpW_neg] at h
  generalize L ((ordL L n).getD i 0) = X at *
  generalize L ((ordL L n).getD k 0) = Y at *
  unfold Wgh.cmpW
  refine ⟨?_, fun e => ?_⟩
  · split
    · omega
    · split
      · omega
      · omega
  · have := h.2 (by intro g; rw [if_pos g] at e; omega)
    omega

/-! ### the set of the places seen -/
open Go.Maps
def keysS (l : List Nat) (k : Nat) : List Lit := (l.take k).map fun x : Nat => Lit.int .i64 (x : Int)
def SeenD (l : List Nat) (k : Nat) : DataW Unit := setOf (.lit (.bool true)) (keysS l k)
theorem SeenD_zero (l : List Nat) : SeenD l 0 = .map [] := by simp [SeenD, keysS, setOf]
theorem SeenD_succ (l : List Nat) (k : Nat) (hk : k < l.length) : SeenD l (k + 1) = (SeenD l k).put (.int .i64 ((l.getD k 0 : Nat) : Int)) (.lit (.bool true)) := by
  unfold SeenD
  have : keysS l (k + 1) = keysS l k ++ [.int .i64 ((l.getD k 0 : Nat) : Int)] := by
    unfold keysS
    rw [List.take_add_one, List.map_append]
    simp [List.getD, List.getElem?_eq_getElem hk]
  rw [this, setOf_snoc]
theorem SeenD_not (l : List Nat) (k x : Nat) (h : ∀ i, i < k → i < l.length → l.getD i 0 ≠ x) (z : DataW Unit) : (SeenD l k).atKey (.int .i64 (x : Int)) z = z := by
  refine atKey_of_not_has ?_ z
  unfold SeenD
  rw [has_setOf]
  · rw [List.any_eq_false]
    intro y hy
    unfold keysS at hy
    obtain ⟨u, hu, rfl⟩ := List.mem_map.1 hy
    obtain ⟨i, hi, e⟩ := List.mem_iff_getElem.1 hu
    have hi2 : i < k ∧ i < l.length := by simp at hi; omega
    have e2 : l.getD i 0 = u := by
      rw [List.getElem_take] at e
      rw [List.getD_eq_getElem?_getD, List.getElem?_eq_getElem hi2.2, e]
      rfl
    have := h i hi2.1 hi2.2
    rw [e2] at this
    rw [sameKey_ne (fun e' => this (by injection e' with _ e3; omega))]
    simp
  · intro y hy
    unfold keysS at hy
    obtain ⟨u, _, rfl⟩ := List.mem_map.1 hy
    simp [WideAt.IsKeyLit]
end Go.Proofs.Ytpfcdpmpfgdnaaa
