/-
  PROVED HERE: plain facts on stable sorting by blocks that are sorted and then merged, pass by pass. No program in sight.
-/
import Derived.Test.YtocjjfjcepflnaaDoorStb
namespace Stb
variable {α : Type} {lt : α → α → Bool}

theorem ins_is_mrg (h : Swo lt) (x : α) (s : List α) : ins lt x s = mrg lt s [x] := by
  have := ins_mrg h x s []
  rw [mrg_nil_r] at this
  exact this

/-- One more in a sorted row. -/
theorem isort_more (h : Swo lt) (G0 G F : Nat → α) (a i : Nat) (hai : a ≤ i) (h1 : seg G a (i - a) = isort lt (seg G0 a (i - a))) (h2 : G i = G0 i) (m : MG lt G a i (i + 1) F) :
    seg F a (i + 1 - a) = isort lt (seg G0 a (i + 1 - a)) := by
  rw [m.2, h1, show i + 1 - i = 1 from by omega, seg_one, show i + 1 - a = (i - a) + 1 from by omega, seg_add, seg_one, isort_snoc, ins_is_mrg h, h2, show a + (i - a) = i from by omega]

theorem mult_same {A p m : Nat} (h1 : A % m = 0) (h2 : p % m = 0) (h3 : A ≤ p) (h4 : p < A + m) : p = A := by
  have d := Nat.dvd_sub (Nat.dvd_of_mod_eq_zero h2) (Nat.dvd_of_mod_eq_zero h1)
  rcases Nat.eq_zero_or_pos (p - A) with e | e
  · omega
  · have := Nat.le_of_dvd e d; omega
theorem mult_below {A p m : Nat} (h1 : A % m = 0) (h2 : p % m = 0) (h3 : p < A) : p + m ≤ A := by
  have d := Nat.dvd_sub (Nat.dvd_of_mod_eq_zero h1) (Nat.dvd_of_mod_eq_zero h2)
  have := Nat.le_of_dvd (by omega) d
  omega
theorem mod_half {A m : Nat} (h : A % (2 * m) = 0) : A % m = 0 := by
  obtain ⟨q, hq⟩ := Nat.dvd_of_mod_eq_zero h
  rw [hq, Nat.mul_comm 2 m, Nat.mul_assoc]
  exact Nat.mul_mod_right _ _
theorem mod_next {A m : Nat} (h : A % m = 0) : (A + m) % m = 0 := by rw [Nat.add_mod_right]; exact h

/-- Each block of so many is sorted. -/
def Blk (lt : α → α → Bool) (G0 G : Nat → α) (n bs : Nat) : Prop := ∀ p, p % bs = 0 → p < n → seg G p (min bs (n - p)) = isort lt (seg G0 p (min bs (n - p)))
/-- In a pass: double blocks are sorted up to A. -/
def Pass (lt : α → α → Bool) (G0 G : Nat → α) (n bs A : Nat) : Prop :=
  (∀ p, p % (2 * bs) = 0 → p < A → p < n → seg G p (min (2 * bs) (n - p)) = isort lt (seg G0 p (min (2 * bs) (n - p)))) ∧
  (∀ p, p % bs = 0 → A ≤ p → p < n → seg G p (min bs (n - p)) = isort lt (seg G0 p (min bs (n - p))))

theorem pass_start {G0 G : Nat → α} {n bs : Nat} (h : Blk lt G0 G n bs) : Pass lt G0 G n bs 0 := ⟨fun p _ h2 => absurd h2 (by omega), fun p h1 _ h3 => h p h1 h3⟩
theorem pass_end {G0 G : Nat → α} {n bs A : Nat} (h : Pass lt G0 G n bs A) (hA : n ≤ A) : Blk lt G0 G n (2 * bs) := fun p h1 h2 => h.1 p h1 (by omega) h2
theorem pass_skip {G0 G : Nat → α} {n bs A : Nat} (h : Pass lt G0 G n bs A) (hm : A % (2 * bs) = 0) (hA : n ≤ A + bs) : Blk lt G0 G n (2 * bs) := by
  intro p h1 h2
  rcases Nat.lt_or_ge p A with h3 | h3
  · exact h.1 p h1 h3 h2
  · have e := mult_same hm h1 h3 (by omega)
    have := h.2 p (mod_half h1) h3 h2
    rw [Nat.min_eq_right (by omega)] at this ⊢
    exact this
theorem pass_sorted {G0 G : Nat → α} {n bs A B : Nat} (hW : Swo lt) (h : Pass lt G0 G n bs A) (hm : A % (2 * bs) = 0) (hB : B = A + min (2 * bs) (n - A)) (hAB : A + bs < B) :
    SortedSeg lt G A (A + bs) ∧ SortedSeg lt G (A + bs) B := by
  have h1 := h.2 A (mod_half hm) (Nat.le_refl _) (by omega)
  have h2 := h.2 (A + bs) (mod_next (mod_half hm)) (by omega) (by omega)
  rw [Nat.min_eq_left (by omega)] at h1
  have e : min bs (n - (A + bs)) = B - (A + bs) := by omega
  rw [e] at h2
  constructor
  · exact sortedSeg_of (h1 ▸ sorted_isort hW _)
  · have := sortedSeg_of (h2 ▸ sorted_isort hW (seg G0 (A + bs) (B - (A + bs))))
    rwa [show A + bs + (B - (A + bs)) = B from by omega] at this
theorem pass_step {G0 G F : Nat → α} {n bs A B : Nat} (hW : Swo lt) (h : Pass lt G0 G n bs A) (hm : A % (2 * bs) = 0) (hB : B = A + min (2 * bs) (n - A)) (hAB : A + bs < B) (m : MG lt G A (A + bs) B F) :
    Pass lt G0 F n bs (A + 2 * bs) := by
  have h1 := h.2 A (mod_half hm) (Nat.le_refl _) (by omega)
  have h2 := h.2 (A + bs) (mod_next (mod_half hm)) (by omega) (by omega)
  rw [Nat.min_eq_left (by omega)] at h1
  have e : min bs (n - (A + bs)) = B - (A + bs) := by omega
  rw [e] at h2
  constructor
  · intro p p1 p2 p3
    rcases Nat.lt_or_ge p A with p4 | p4
    · have p5 := mult_below hm p1 p4
      have := h.1 p p1 p4 p3
      rw [← this]
      refine seg_congr fun i hi => m.1 _ (by omega)
    · have p5 := mult_same hm p1 p4 (by omega)
      subst p5
      have e2 : min (2 * bs) (n - p) = B - p := by omega
      have m2 := m.2
      rw [show p + bs - p = bs from by omega, h1, h2, ← isort_append hW, ← seg_add, show bs + (B - (p + bs)) = B - p from by omega] at m2
      rw [e2]
      exact m2
  · intro p p1 p2 p3
    rw [← h.2 p p1 (by omega) p3]
    refine seg_congr fun i hi => m.1 _ (by omega)

/-- The first pass: blocks up to A are sorted, the rest is as it was. -/
def Fst (lt : α → α → Bool) (G0 G : Nat → α) (bs A : Nat) : Prop := (∀ p, p % bs = 0 → p < A → seg G p bs = isort lt (seg G0 p bs)) ∧ ∀ k, A ≤ k → G k = G0 k
theorem fst_zero (G : Nat → α) (bs : Nat) : Fst lt G G bs 0 := ⟨fun p _ h => absurd h (by omega), fun _ _ => rfl⟩
theorem fst_step {G0 G F : Nat → α} {bs A : Nat} (h : Fst lt G0 G bs A) (hm : A % bs = 0) (h1 : ∀ k, k < A ∨ A + bs ≤ k → F k = G k) (h2 : seg F A bs = isort lt (seg G A bs)) : Fst lt G0 F bs (A + bs) := by
  constructor
  · intro p p1 p2
    rcases Nat.lt_or_ge p A with p4 | p4
    · have p5 := mult_below hm p1 p4
      rw [← h.1 p p1 p4]
      exact seg_congr fun i hi => h1 _ (by omega)
    · have p5 := mult_same hm p1 p4 p2
      subst p5
      rw [h2]
      congr 1
      exact seg_congr fun i hi => h.2 _ (by omega)
  · intro k hk
    rw [h1 k (by omega), h.2 k (by omega)]
theorem fst_end {G0 G F : Nat → α} {n bs A : Nat} (h : Fst lt G0 G bs A) (hm : A % bs = 0) (hA : A ≤ n) (hn : n < A + bs) (h1 : ∀ k, k < A ∨ n ≤ k → F k = G k) (h2 : seg F A (n - A) = isort lt (seg G A (n - A))) : Blk lt G0 F n bs := by
  intro p p1 p2
  rcases Nat.lt_or_ge p A with p4 | p4
  · have p5 := mult_below hm p1 p4
    rw [Nat.min_eq_left (by omega), ← h.1 p p1 p4]
    exact seg_congr fun i hi => h1 _ (by omega)
  · have p5 := mult_same hm p1 p4 (by omega)
    subst p5
    rw [Nat.min_eq_right (by omega), h2]
    congr 1
    exact seg_congr fun i hi => h.2 _ (by omega)
theorem blk_all {G0 G : Nat → α} {n bs : Nat} (h : Blk lt G0 G n bs) (hn : n ≤ bs) : seg G 0 n = isort lt (seg G0 0 n) := by
  rcases Nat.eq_zero_or_pos n with e | e
  · subst e; rfl
  · have := h 0 (Nat.zero_mod _) e
    rw [Nat.sub_zero, Nat.min_eq_right hn] at this
    exact this

end Stb
