/-
  PROVED HERE: what the closure of PlanNear computes, and that the longest end goes first.
-/
import Derived.Test.YtocjjfjcepflnaaDoorEnds
import Derived.Test.YtocjjfjcepflnaaDoorRSml
set_option linter.unusedVariables false
namespace Pln
/-- Is the first text an end of the other one, behind a dot? -/
def endB (D s : List UInt8) : Bool := decide (s.length < D.length) && (D.drop (D.length - s.length - 1) == 46 :: s)
/-- How well a domain fits. -/
def fits (D s : List UInt8) : Int := if s = [42] then 1 else if s = D ∨ endB D s = true then 1 + (s.length : Int) else 0
theorem aft_len : ∀ (t s : List UInt8), s ∈ aft t → s.length < t.length
  | [], s, h => by cases h
  | c :: r, s, h => by
    unfold aft at h
    split at h
    · rcases List.mem_cons.1 h with e | h2
      · subst e; simp
      · have := aft_len r s h2; simp; omega
    · have := aft_len r s h; simp; omega
theorem aft_end : ∀ (t s : List UInt8), endB t s = true ↔ s ∈ aft t
  | [], s => by simp [endB, aft]
  | c :: r, s => by
    have ih := aft_end r s
    unfold endB at ih ⊢
    unfold aft
    simp only [Bool.and_eq_true, decide_eq_true_eq, beq_iff_eq, List.length_cons] at ih ⊢
    by_cases hl : s.length = r.length
    · have e0 : r.length + 1 - s.length - 1 = 0 := by omega
      rw [e0, List.drop_zero]
      have no : s ∉ aft r := fun h => by have := aft_len r s h; omega
      constructor
      · rintro ⟨_, h⟩
        obtain ⟨rfl, rfl⟩ := List.cons.inj h
        rw [if_pos rfl]
        exact List.mem_cons_self
      · intro h
        split at h
        · rename_i hc
          rcases List.mem_cons.1 h with e | h2
          · subst e; subst hc; exact ⟨by omega, rfl⟩
          · exact absurd h2 no
        · exact absurd h no
    · by_cases hlt : s.length < r.length
      · have e1 : r.length + 1 - s.length - 1 = (r.length - s.length - 1) + 1 := by omega
        rw [e1, List.drop_succ_cons]
        constructor
        · rintro ⟨_, h⟩
          have := ih.1 ⟨hlt, h⟩
          split
          · exact List.mem_cons_of_mem _ this
          · exact this
        · intro h
          have h2 : s ∈ aft r := by
            split at h
            · rcases List.mem_cons.1 h with e | h2
              · subst e; exact absurd rfl hl
              · exact h2
            · exact h
          exact ⟨by omega, (ih.2 h2).2⟩
      · constructor
        · rintro ⟨h, _⟩; omega
        · intro h
          exfalso
          split at h
          · rcases List.mem_cons.1 h with e | h2
            · subst e; exact hl rfl
            · have := aft_len r s h2; omega
          · have := aft_len r s h; omega
theorem fits_pos (D s : List UInt8) (h : s ∈ D :: aft D) : 0 < fits D s := by
  unfold fits
  split
  · decide
  · rw [if_pos (by
      rcases List.mem_cons.1 h with e | h2
      · exact .inl e
      · exact .inr ((aft_end D s).2 h2))]
    omega
theorem fits_no (D s : List UInt8) (h : s ∉ D :: aft D) : fits D s ≤ 1 := by
  unfold fits
  split
  · decide
  · rw [if_neg (fun g => by
      rcases g with e | g
      · exact h (by subst e; exact List.mem_cons_self)
      · exact h (List.mem_cons_of_mem _ ((aft_end D s).1 g)))]
    decide
theorem fits_le (D s : List UInt8) : fits D s ≤ 1 + (s.length : Int) := by
  unfold fits
  split
  · omega
  · split <;> omega
/-- The ends stand longest first. -/
theorem ends_sorted : ∀ D : List UInt8, (D :: aft D).Pairwise (fun a b => b.length < a.length)
  | [] => by simp [aft]
  | c :: r => by
    have ih := ends_sorted r
    refine List.pairwise_cons.2 ⟨fun b hb => aft_len _ b hb, ?_⟩
    unfold aft
    split
    · exact ih
    · exact (List.pairwise_cons.1 ih).2
end Pln
namespace Go.Proofs.YtocjjfjcepflnaaDoor
open Go.RowKit
theorem look_first (f : Nat → Ru) (n : Nat) : ∀ (l : List (List UInt8)), l.Pairwise (fun a b => b.length < a.length) → (lookE f n l = -1 ∧ ∀ j, j < n → (f j).dm ∉ l) ∨ ∃ k : Nat, lookE f n l = k ∧ k < n ∧ (f k).dm ∈ l ∧ ∀ j, j < n → (f j).dm ∈ l → (f j).dm = (f k).dm ∨ (f j).dm.length < (f k).dm.length
  | [], _ => .inl ⟨rfl, fun j _ h => by cases h⟩
  | s :: l, hp => by
    obtain ⟨h1, h2⟩ := List.pairwise_cons.1 hp
    unfold lookE
    rcases fndI_cases f s n with ⟨q1, q2⟩ | ⟨k, q1, q2, q3⟩
    · rw [q1, if_neg (by decide)]
      rcases look_first f n l h2 with ⟨a, b⟩ | ⟨k, a, b, c, d⟩
      · refine .inl ⟨a, fun j hj hm => ?_⟩
        rcases List.mem_cons.1 hm with e | hm
        · exact q2 j hj e
        · exact b j hj hm
      · refine .inr ⟨k, a, b, List.mem_cons_of_mem _ c, fun j hj hm => ?_⟩
        rcases List.mem_cons.1 hm with e | hm
        · exact absurd e (q2 j hj)
        · exact d j hj hm
    · rw [q1, if_pos (by omega)]
      refine .inr ⟨k, rfl, q2, by rw [q3]; exact List.mem_cons_self, fun j hj hm => ?_⟩
      rcases List.mem_cons.1 hm with e | hm
      · exact .inl (e.trans q3.symm)
      · exact .inr (by rw [q3]; exact h1 _ hm)
/-- A domain's rule fits best. -/
theorem near_best {f : Nat → Ru} {n k : Nat} {D : List UInt8} (h : rtI f n D = (k : Int)) : k < n ∧ 0 < Pln.fits D (f k).dm ∧ ∀ j, j < n → Pln.fits D (f j).dm ≤ Pln.fits D (f k).dm := by
  unfold rtI at h
  rcases look_first f n (D :: Pln.aft D) (Pln.ends_sorted D) with ⟨a, b⟩ | ⟨i, a, b, c, d⟩
  · rw [a, if_neg (by decide)] at h
    rcases fndI_cases f [42] n with ⟨q1, q2⟩ | ⟨i, q1, q2, q3⟩
    · rw [q1] at h; omega
    · rw [q1] at h
      obtain rfl : i = k := by omega
      have e : Pln.fits D (f i).dm = 1 := by unfold Pln.fits; rw [if_pos q3]
      rw [e]
      exact ⟨q2, by decide, fun j hj => Pln.fits_no D _ (b j hj)⟩
  · rw [a, if_pos (by omega)] at h
    obtain rfl : i = k := by omega
    have hp := Pln.fits_pos D (f i).dm c
    refine ⟨b, hp, fun j hj => ?_⟩
    by_cases hj2 : (f j).dm ∈ D :: Pln.aft D
    · rcases d j hj hj2 with e | e
      · rw [e]; exact Int.le_refl _
      · have h1 := Pln.fits_le D (f j).dm
        by_cases h42 : (f i).dm = [42]
        · have e1 : Pln.fits D (f i).dm = 1 := by unfold Pln.fits; rw [if_pos h42]
          rw [h42] at e
          simp at e
          rw [e] at h1
          rw [e1, e]
          simpa using h1
        · have e1 : Pln.fits D (f i).dm = 1 + ((f i).dm.length : Int) := by
            unfold Pln.fits
            rw [if_neg h42, if_pos (by
              rcases List.mem_cons.1 c with e | h2
              · exact .inl e
              · exact .inr ((Pln.aft_end D _).2 h2))]
          omega
    · have := Pln.fits_no D _ hj2
      omega
theorem back_at {W : World} {B cap : Nat} {D : List UInt8} (h : BRow W B D) : (convert 52 9 (.slice (some ⟨B, 0, none⟩) D.length cap)).run Tryd.prog W = .ok (.string ⟨D.toArray⟩) W :=
  run_convert_bytes_back (P := Tryd.prog) W 52 9 5 ⟨B, 0, none⟩ cap D Tryd.underlying52 Tryd.underlying5 Tryd.underlying9 (fun j hj => by
    rw [add_off, Nat.zero_add]
    exact (h j hj).1)
theorem ext_drop (D : List UInt8) (q : Nat) : (⟨D.toArray⟩ : ByteArray).extract q D.length = ⟨(D.drop q).toArray⟩ := by
  have h := Lib.extract_to_end ⟨D.toArray⟩ q
  rw [size_mk] at h
  rw [← Lib.mk_data (ByteArray.extract _ _ _), h]

set_option maxRecDepth 100000 in
set_option maxHeartbeats 2000000 in
theorem fits_any (D s : List UInt8) (B C cap : Nat) (W : World) (hc : W.cell? ⟨C, 0, none⟩ = some (.slice (some ⟨B, 0, none⟩) D.length cap)) (hr : BRow W B D) (hD : D.length ≤ 100000) (hs : s.length ≤ 100000) :
    Calls Tryd.prog 26 #[.string ⟨s.toArray⟩, .pointer (some ⟨C, 0, none⟩)] W fun e w' => e = .returned (.int .i64 (Pln.fits D s)) ∧ W = w' := by
  have hb := back_at (cap := cap) hr
  have HX := Lib.hid (ext_drop D)
  have w1 : IntKind.i64.wrap (1 + (s.length : Int)) = 1 + (s.length : Int) := by rw [IntKind.wrap_i64]; omega
  have H0 : Hid (s = [42] → Pln.fits D s = 1) := fun h => by unfold Pln.fits; rw [if_pos h]
  have H1 : Hid (s ≠ [42] → (s = D ∨ Pln.endB D s = true) → Pln.fits D s = 1 + (s.length : Int)) := fun h g => by unfold Pln.fits; rw [if_neg h, if_pos g]
  have H2 : Hid (s ≠ [42] → ¬ (s = D ∨ Pln.endB D s = true) → Pln.fits D s = 0) := fun h g => by unfold Pln.fits; rw [if_neg h, if_neg g]
  have HE : Hid (Pln.endB D s = (decide (s.length < D.length) && (D.drop (D.length - s.length - 1) == 46 :: s))) := rfl
  clear hr
  generalize Pln.fits D s = v at *
  generalize Pln.endB D s = eb at *
  by_cases c1 : s = [42]
  · have s1 : (s == [42]) = true := by simp [c1]
    have HV := Lib.hid (H0.out c1)
    clear c1 H0 H1 H2 HE
    go_enter Tryd.func26, Tryd.ntmps26
    go_wp2_with fail
    go_ret
    exact ⟨by rw [HV.out]; rfl, rfl⟩
  have s1 : (s == [42]) = false := by simp [c1]
  by_cases c2 : s = D
  · have s2 : (s == D) = true := by simp [c2]
    have HV := Lib.hid (H1.out c1 (.inl c2))
    clear c1 c2 H0 H1 H2 HE
    go_enter Tryd.func26, Tryd.ntmps26
    go_wp2_with fail
    go_ret
    exact ⟨by rw [HV.out]; rfl, rfl⟩
  have s2 : (s == D) = false := by simp [c2]
  by_cases c3 : s.length < D.length
  · have c3z : (s.length : Int) < (D.length : Int) := by omega
    obtain ⟨p, hp⟩ : ∃ p, p = D.length - s.length := ⟨_, rfl⟩
    obtain ⟨q, hq⟩ : ∃ q, q = p - 1 := ⟨_, rfl⟩
    have w2 : IntKind.i64.wrap ((D.length : Int) - (s.length : Int)) = (p : Int) := by rw [IntKind.wrap_i64]; omega
    have w3 : IntKind.i64.wrap ((p : Int) - 1) = (q : Int) := by rw [IntKind.wrap_i64]; omega
    have z1 : (0 : Int) ≤ (q : Int) := by omega
    have z2 : (q : Int) ≤ (D.length : Int) := by omega
    have hx := HX.out q
    obtain ⟨P1, hP1⟩ : ∃ P1, P1 = 46 :: s := ⟨_, rfl⟩
    have y1 : (⟨#[46]⟩ : ByteArray) ++ (⟨s.toArray⟩ : ByteArray) = ⟨P1.toArray⟩ := by rw [hP1]; exact mk_append [46] s
    have x1 : ¬ 9223372036854775807 < 1 + s.length := by omega
    have he : eb = (D.drop q == P1) := by rw [HE.out, decide_eq_true c3, Bool.true_and, hP1, hq, hp]
    clear HE hP1
    generalize D.drop q = Dq at *
    cases s3 : (Dq == P1) with
    | true =>
      have HV := Lib.hid (H1.out c1 (.inr (he.trans s3)))
      clear c1 c2 c3 H0 H1 H2 he hp hq HX
      go_enter Tryd.func26, Tryd.ntmps26
      go_wp2_with fail
      go_ret
      exact ⟨by rw [HV.out]; rfl, rfl⟩
    | false =>
      have HV := Lib.hid (H2.out c1 (fun g => by rcases g with g | g; exact c2 g; rw [he, s3] at g; cases g))
      clear c1 c2 c3 H0 H1 H2 he hp hq HX
      go_enter Tryd.func26, Tryd.ntmps26
      go_wp2_with fail
      go_ret
      exact ⟨by rw [HV.out]; rfl, rfl⟩
  · have c3z : ¬ (s.length : Int) < (D.length : Int) := by omega
    have HV := Lib.hid (H2.out c1 (fun g => by rcases g with g | g; exact c2 g; rw [HE.out, decide_eq_false c3] at g; cases g))
    clear c1 c2 c3 H0 H1 H2 HE
    go_enter Tryd.func26, Tryd.ntmps26
    go_wp2_with fail
    go_ret
    exact ⟨by rw [HV.out]; rfl, rfl⟩
end Go.Proofs.YtocjjfjcepflnaaDoor
