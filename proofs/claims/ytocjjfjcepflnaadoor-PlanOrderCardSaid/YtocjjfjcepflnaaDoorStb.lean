/-
  PROVED HERE: plain facts on stable sorting: insertion, merging, and what swaps, shifts and rotations do to a row seen as a function of the place. No program in sight.
-/
namespace Stb
variable {α : Type}

/-- A strict weak order, as a Bool. -/
structure Swo (lt : α → α → Bool) : Prop where
  irr : ∀ x, lt x x = false
  tr : ∀ x y z, lt x y = true → lt y z = true → lt x z = true
  neg : ∀ x y z, lt x y = true → lt x z = true ∨ lt z y = true

theorem Swo.lt_of_lt_of_not {lt : α → α → Bool} (h : Swo lt) {x a b : α} (h1 : lt x a = true) (h2 : lt b a = false) : lt x b = true := by
  rcases h.neg x a b h1 with h3 | h3
  · exact h3
  · rw [h2] at h3; cases h3
theorem Swo.not_tr {lt : α → α → Bool} (h : Swo lt) {x y z : α} (h1 : lt y x = false) (h2 : lt z y = false) : lt z x = false := by
  cases h3 : lt z x with
  | false => rfl
  | true => rcases h.neg z x y h3 with h4 | h4 <;> simp_all

def ins (lt : α → α → Bool) (x : α) : List α → List α
  | [] => [x]
  | y :: ys => if lt x y then x :: y :: ys else y :: ins lt x ys
def isort (lt : α → α → Bool) (l : List α) : List α := l.foldl (fun acc x => ins lt x acc) []
def mrgA (lt : α → α → Bool) (a : α) (f : List α → List α) : List α → List α
  | [] => a :: f []
  | b :: t => if lt b a then b :: mrgA lt a f t else a :: f (b :: t)
def mrg (lt : α → α → Bool) : List α → List α → List α
  | [] => id
  | a :: s => mrgA lt a (mrg lt s)

section
variable {lt : α → α → Bool}
theorem mrg_nil (t : List α) : mrg lt [] t = t := rfl
theorem mrg_cons_nil (a : α) (s : List α) : mrg lt (a :: s) [] = a :: mrg lt s [] := rfl
theorem mrg_cons_cons (a b : α) (s t : List α) : mrg lt (a :: s) (b :: t) = if lt b a then b :: mrg lt (a :: s) t else a :: mrg lt s (b :: t) := rfl
theorem mrg_nil_r (s : List α) : mrg lt s [] = s := by
  induction s with
  | nil => rfl
  | cons a s ih => rw [mrg_cons_nil, ih]
theorem ins_cons (x y : α) (ys : List α) : ins lt x (y :: ys) = if lt x y then x :: y :: ys else y :: ins lt x ys := rfl

theorem ins_mrg (h : Swo lt) (x : α) (s t : List α) : ins lt x (mrg lt s t) = mrg lt s (ins lt x t) := by
  induction s generalizing t with
  | nil => rfl
  | cons a s ihs =>
    induction t with
    | nil =>
      rw [mrg_cons_nil, ins_cons]
      show _ = mrg lt (a :: s) [x]
      rw [mrg_cons_cons]
      by_cases c : lt x a = true
      · rw [if_pos c, if_pos c, mrg_cons_nil]
      · rw [if_neg c, if_neg c, ihs]; rfl
    | cons b t iht =>
      rw [mrg_cons_cons]
      by_cases c : lt b a = true
      · rw [if_pos c, ins_cons, ins_cons (lt := lt) x b t]
        by_cases d : lt x b = true
        · rw [if_pos d, if_pos d, mrg_cons_cons, if_pos (h.tr _ _ _ d c), mrg_cons_cons, if_pos c]
        · rw [if_neg d, if_neg d, mrg_cons_cons, if_pos c, iht]
      · rw [if_neg c, ins_cons]
        by_cases d : lt x a = true
        · have e := h.lt_of_lt_of_not d (Bool.not_eq_true _ ▸ c)
          rw [if_pos d, ins_cons, if_pos e, mrg_cons_cons, if_pos d, mrg_cons_cons, if_neg c]
        · rw [if_neg d, ihs, ins_cons]
          by_cases e : lt x b = true
          · rw [if_pos e, mrg_cons_cons, if_neg d]
          · rw [if_neg e, mrg_cons_cons, if_neg c]

theorem foldl_ins_mrg (h : Swo lt) (s : List α) (B acc : List α) : B.foldl (fun acc x => ins lt x acc) (mrg lt s acc) = mrg lt s (B.foldl (fun acc x => ins lt x acc) acc) := by
  induction B generalizing acc with
  | nil => rfl
  | cons b B ih => rw [List.foldl_cons, List.foldl_cons, ins_mrg h, ih]
theorem isort_append (h : Swo lt) (A B : List α) : isort lt (A ++ B) = mrg lt (isort lt A) (isort lt B) := by
  unfold isort
  rw [List.foldl_append]
  have := foldl_ins_mrg h (A.foldl (fun acc x => ins lt x acc) []) B []
  rw [mrg_nil_r] at this
  exact this
theorem isort_snoc (A : List α) (x : α) : isort lt (A ++ [x]) = ins lt x (isort lt A) := by
  unfold isort
  rw [List.foldl_append]
  rfl
theorem isort_one (x : α) : isort lt [x] = [x] := rfl
theorem isort_nil : isort lt ([] : List α) = [] := rfl

theorem length_ins (x : α) (l : List α) : (ins lt x l).length = l.length + 1 := by
  induction l with
  | nil => rfl
  | cons y ys ih =>
    rw [ins_cons]
    split
    · simp
    · simp [ih]
theorem length_isort (l : List α) : (isort lt l).length = l.length := by
  have : ∀ (l acc : List α), (l.foldl (fun acc x => ins lt x acc) acc).length = acc.length + l.length := by
    intro l
    induction l with
    | nil => intro acc; simp
    | cons y ys ih => intro acc; rw [List.foldl_cons, ih, length_ins, List.length_cons]; omega
  unfold isort
  simpa using this l []
theorem ins_perm (x : α) (l : List α) : List.Perm (ins lt x l) (x :: l) := by
  induction l with
  | nil => exact List.Perm.refl _
  | cons y ys ih =>
    rw [ins_cons]
    split
    · exact List.Perm.refl _
    · exact (List.Perm.cons y ih).trans (List.Perm.swap x y ys)
theorem isort_perm (l : List α) : List.Perm (isort lt l) l := by
  have : ∀ (l acc : List α), List.Perm (l.foldl (fun acc x => ins lt x acc) acc) (acc ++ l) := by
    intro l
    induction l with
    | nil => intro acc; simp
    | cons y ys ih =>
      intro acc
      rw [List.foldl_cons]
      refine (ih _).trans ?_
      refine (List.Perm.append_right ys (ins_perm y acc)).trans ?_
      exact List.perm_middle.symm
  unfold isort
  simpa using this l []

def Sorted (lt : α → α → Bool) (l : List α) : Prop := l.Pairwise fun x y => lt y x = false
theorem sorted_ins (h : Swo lt) (x : α) (l : List α) (hs : Sorted lt l) : Sorted lt (ins lt x l) := by
  induction l with
  | nil => exact List.pairwise_singleton _ _
  | cons y ys ih =>
    rw [ins_cons]
    unfold Sorted at hs ih ⊢
    rw [List.pairwise_cons] at hs
    split
    · rename_i c
      rw [List.pairwise_cons, List.pairwise_cons]
      refine ⟨fun z hz => ?_, hs.1, hs.2⟩
      have cy : lt y x = false := by
        cases d : lt y x with
        | false => rfl
        | true => have := h.tr _ _ _ c d; rw [h.irr] at this; cases this
      rcases List.mem_cons.1 hz with rfl | hz
      · exact cy
      · exact h.not_tr cy (hs.1 z hz)
    · rename_i c
      rw [List.pairwise_cons]
      refine ⟨fun z hz => ?_, ih hs.2⟩
      rcases List.mem_cons.1 ((ins_perm x ys).mem_iff.1 hz) with rfl | hz
      · simpa using c
      · exact hs.1 z hz
theorem sorted_isort (h : Swo lt) (l : List α) : Sorted lt (isort lt l) := by
  have : ∀ (l acc : List α), Sorted lt acc → Sorted lt (l.foldl (fun acc x => ins lt x acc) acc) := by
    intro l
    induction l with
    | nil => intro acc ha; exact ha
    | cons y ys ih => intro acc ha; rw [List.foldl_cons]; exact ih _ (sorted_ins h y acc ha)
  exact this l [] List.Pairwise.nil

/-- Inserted at the first place ahead of which nothing weighs more. -/
theorem ins_at (x : α) (l r : List α) (h1 : ∀ y ∈ l, lt x y = false) (h2 : ∀ y, r.head? = some y → lt x y = true) : ins lt x (l ++ r) = l ++ x :: r := by
  induction l with
  | nil =>
    cases r with
    | nil => rfl
    | cons y ys => show ins lt x (y :: ys) = _; rw [ins_cons, if_pos (h2 y rfl)]; rfl
  | cons y ys ih =>
    rw [List.cons_append, ins_cons, if_neg (by rw [h1 y (by simp)]; simp), ih (fun z hz => h1 z (by simp [hz]))]
    rfl

/-- Two merges side by side. -/
theorem mrg_split (X1 X2 Y1 Y2 : List α) (h1 : ∀ y ∈ Y1, ∀ x, X2.head? = some x → lt y x = true) (h2 : ∀ x ∈ X1, ∀ y, Y2.head? = some y → lt y x = false) :
    mrg lt (X1 ++ X2) (Y1 ++ Y2) = mrg lt X1 Y1 ++ mrg lt X2 Y2 := by
  induction X1 generalizing Y1 with
  | nil =>
    show mrg lt X2 (Y1 ++ Y2) = Y1 ++ mrg lt X2 Y2
    induction Y1 with
    | nil => rfl
    | cons y Y1 ih =>
      cases X2 with
      | nil => rfl
      | cons x X2 =>
        rw [List.cons_append, mrg_cons_cons, if_pos (h1 y (by simp) x rfl), ih (fun z hz => h1 z (by simp [hz]))]
        rfl
  | cons a s ih =>
    induction Y1 with
    | nil =>
      have e := ih [] (by intro y hy; cases hy) (fun x hx => h2 x (by simp [hx]))
      rw [List.nil_append, mrg_nil_r] at e
      rw [List.nil_append, mrg_nil_r]
      cases Y2 with
      | nil => rw [mrg_nil_r, mrg_nil_r]
      | cons b Y2 => rw [List.cons_append, mrg_cons_cons, if_neg (by rw [h2 a (by simp) b rfl]; simp), e]; rfl
    | cons b t iht =>
      rw [List.cons_append, List.cons_append, mrg_cons_cons, mrg_cons_cons]
      by_cases c : lt b a = true
      · rw [if_pos c, if_pos c]
        have := iht (fun y hy => h1 y (by simp [hy]))
        rw [List.cons_append] at this
        rw [this]; rfl
      · rw [if_neg c, if_neg c]
        have := ih (b :: t) h1 (fun x hx => h2 x (by simp [hx]))
        rw [List.cons_append] at this
        rw [this]; rfl
end

/-! A row as a function of the place. -/
def seg (G : Nat → α) (a n : Nat) : List α := (List.range n).map fun i => G (a + i)
theorem length_seg (G : Nat → α) (a n : Nat) : (seg G a n).length = n := by simp [seg]
theorem seg_zero (G : Nat → α) (a : Nat) : seg G a 0 = [] := rfl
theorem seg_add (G : Nat → α) (a n m : Nat) : seg G a (n + m) = seg G a n ++ seg G (a + n) m := by
  unfold seg
  rw [List.range_add, List.map_append, List.map_map]
  congr 1
  refine List.map_congr_left fun i _ => ?_
  show G (a + (n + i)) = G (a + n + i)
  rw [Nat.add_assoc]
theorem seg_congr {G F : Nat → α} {a b n : Nat} (h : ∀ i, i < n → G (a + i) = F (b + i)) : seg G a n = seg F b n := by
  unfold seg
  exact List.map_congr_left fun i hi => h i (List.mem_range.1 hi)
theorem seg_one (G : Nat → α) (a : Nat) : seg G a 1 = [G a] := rfl
theorem mem_seg {G : Nat → α} {a n : Nat} {x : α} (h : x ∈ seg G a n) : ∃ i, i < n ∧ x = G (a + i) := by
  unfold seg at h
  obtain ⟨i, hi, rfl⟩ := List.mem_map.1 h
  exact ⟨i, List.mem_range.1 hi, rfl⟩
theorem head_seg {G : Nat → α} {a n : Nat} {x : α} (h : (seg G a n).head? = some x) : 0 < n ∧ x = G a := by
  cases n with
  | zero => simp [seg] at h
  | succ n =>
    rw [Nat.add_comm, seg_add, seg_one] at h
    simp at h
    exact ⟨by omega, h.symm⟩
theorem seg_inj {G F : Nat → α} {a b n : Nat} (h : seg G a n = seg F b n) (i : Nat) (hi : i < n) : G (a + i) = F (b + i) := by
  have := congrArg (fun l => l[i]?) h
  unfold seg at this
  simp [List.getElem?_map, List.getElem?_range hi] at this
  exact this

def SortedSeg (lt : α → α → Bool) (G : Nat → α) (a b : Nat) : Prop := ∀ i k, a ≤ i → i < k → k < b → lt (G k) (G i) = false
theorem sortedSeg_of {lt : α → α → Bool} {G : Nat → α} {a n : Nat} (h : Sorted lt (seg G a n)) : SortedSeg lt G a (a + n) := by
  intro i k h1 h2 h3
  unfold Sorted seg at h
  rw [List.pairwise_map] at h
  have hr := List.pairwise_iff_getElem.1 h (i - a) (k - a) (by simp; omega) (by simp; omega) (by omega)
  simp only [List.getElem_range] at hr
  rwa [show a + (i - a) = i from by omega, show a + (k - a) = k from by omega] at hr

/-- Where a test that falls turns. -/
theorem cut_exists (f : Nat → Bool) (i j : Nat) (hij : i ≤ j) (h : ∀ k l, i ≤ k → k < l → l < j → f l = true → f k = true) :
    ∃ c, i ≤ c ∧ c ≤ j ∧ ∀ k, i ≤ k → k < j → f k = decide (k < c) := by
  induction j with
  | zero => exact ⟨i, Nat.le_refl _, hij, fun k _ _ => by omega⟩
  | succ j ih =>
    rcases Nat.lt_or_ge j i with g | g
    · exact ⟨i, Nat.le_refl _, hij, fun k _ _ => by omega⟩
    · obtain ⟨c, c1, c2, c3⟩ := ih g (fun k l a b d e => h k l a b (by omega) e)
      cases e : f j with
      | true =>
        refine ⟨j + 1, by omega, by omega, fun k k1 k2 => ?_⟩
        rw [decide_eq_true (by omega)]
        rcases Nat.lt_or_ge k j with k3 | k3
        · exact h k j k1 k3 (by omega) e
        · rw [show k = j from by omega]; exact e
      | false =>
        refine ⟨c, c1, by omega, fun k k1 k2 => ?_⟩
        rcases Nat.lt_or_ge k j with k3 | k3
        · exact c3 k k1 k3
        · rw [show k = j from by omega, e, decide_eq_false (by omega)]

def swF (G : Nat → α) (i j : Nat) : Nat → α := fun k => if k = i then G j else if k = j then G i else G k
/-- Two rows of places of one length exchanged. -/
def srF (G : Nat → α) (a b n : Nat) : Nat → α := fun k => if a ≤ k ∧ k < a + n then G (k - a + b) else if b ≤ k ∧ k < b + n then G (k - b + a) else G k
/-- Places from m to b brought ahead of those from a to m. -/
def rotF (G : Nat → α) (a m b : Nat) : Nat → α := fun k => if a ≤ k ∧ k < a + (b - m) then G (k - a + m) else if a + (b - m) ≤ k ∧ k < b then G (k - (b - m)) else G k
/-- The one at a brought to the place before c. -/
def upF (G : Nat → α) (a c : Nat) : Nat → α := fun k => if a ≤ k ∧ k + 1 < c then G (k + 1) else if a < c ∧ k + 1 = c then G a else G k
/-- The one at m brought to the place c. -/
def dnF (G : Nat → α) (m c : Nat) : Nat → α := fun k => if k = c then G m else if c < k ∧ k ≤ m then G (k - 1) else G k

/-- F is G, but that the two sorted rows from a to m, from m to b are merged. -/
def MG (lt : α → α → Bool) (G : Nat → α) (a m b : Nat) (F : Nat → α) : Prop :=
  (∀ k, k < a ∨ b ≤ k → F k = G k) ∧ seg F a (b - a) = mrg lt (seg G a (m - a)) (seg G m (b - m))

section
variable {lt : α → α → Bool}
theorem mrg_one_l (x : α) (R : List α) (h : ∀ y, R.head? = some y → lt y x = false) : mrg lt [x] R = x :: R := by
  cases R with
  | nil => rfl
  | cons b t => rw [mrg_cons_cons, if_neg (by rw [h b rfl]; simp)]; rfl
theorem mrg_one_r (y : α) (X : List α) (h : ∀ x, X.head? = some x → lt y x = true) : mrg lt X [y] = y :: X := by
  cases X with
  | nil => rfl
  | cons b t => rw [mrg_cons_cons, if_pos (h b rfl), mrg_nil_r]

theorem mg_up (G : Nat → α) (a b c : Nat) (h1 : a + 1 ≤ c) (h2 : c ≤ b) (h : ∀ k, a + 1 ≤ k → k < b → lt (G k) (G a) = decide (k < c)) : MG lt G a (a + 1) b (upF G a c) := by
  constructor
  · intro k hk
    unfold upF
    rw [if_neg (by omega), if_neg (by omega)]
  · rw [show a + 1 - a = 1 from by omega, seg_one]
    rw [show b - (a + 1) = (c - (a + 1)) + (b - c) from by omega, seg_add, show a + 1 + (c - (a + 1)) = c from by omega]
    have e := mrg_split (lt := lt) [] [G a] (seg G (a + 1) (c - (a + 1))) (seg G c (b - c)) (by
      intro y hy x hx
      obtain ⟨i, hi, rfl⟩ := mem_seg hy
      cases hx
      rw [h _ (by omega) (by omega), decide_eq_true (by omega)]) (by intro x hx; cases hx)
    rw [List.nil_append, mrg_nil] at e
    rw [e, mrg_one_l]
    · rw [show b - a = (c - (a + 1)) + (1 + (b - c)) from by omega, seg_add, seg_add, seg_one]
      congr 1
      · refine seg_congr fun i hi => ?_
        unfold upF
        rw [if_pos (by omega)]
        congr 1
        omega
      · rw [show a + (c - (a + 1)) = c - 1 from by omega, show c - 1 + 1 = c from by omega, List.singleton_append]
        congr 1
        · unfold upF
          rw [if_neg (by omega), if_pos (by omega)]
        · refine seg_congr fun i hi => ?_
          unfold upF
          rw [if_neg (by omega), if_neg (by omega)]
    · intro y hy
      obtain ⟨hp, rfl⟩ := head_seg hy
      rw [h _ (by omega) (by omega), decide_eq_false (by omega)]

theorem mg_dn (G : Nat → α) (a m c : Nat) (h1 : a ≤ c) (h2 : c ≤ m) (h : ∀ k, a ≤ k → k < m → (!lt (G m) (G k)) = decide (k < c)) : MG lt G a m (m + 1) (dnF G m c) := by
  constructor
  · intro k hk
    unfold dnF
    by_cases e : k = c
    · rw [if_pos e]; congr 1; omega
    · rw [if_neg e, if_neg (by omega)]
  · rw [show m + 1 - m = 1 from by omega, seg_one]
    rw [show m - a = (c - a) + (m - c) from by omega, seg_add, show a + (c - a) = c from by omega]
    have e := mrg_split (lt := lt) (seg G a (c - a)) (seg G c (m - c)) [] [G m] (by intro x hx; cases hx) (by
      intro x hx y hy
      obtain ⟨i, hi, rfl⟩ := mem_seg hx
      cases hy
      have := h (a + i) (by omega) (by omega)
      rw [decide_eq_true (by omega)] at this
      simpa using this)
    rw [List.nil_append, mrg_nil_r] at e
    rw [e, mrg_one_r]
    · rw [show m + 1 - a = (c - a) + (1 + (m - c)) from by omega, seg_add, seg_add, seg_one]
      congr 1
      · refine seg_congr fun i hi => ?_
        unfold dnF
        rw [if_neg (by omega), if_neg (by omega)]
      · rw [show a + (c - a) = c from by omega, List.singleton_append]
        congr 1
        · unfold dnF
          rw [if_pos rfl]
        · refine seg_congr fun i hi => ?_
          unfold dnF
          rw [if_neg (by omega), if_pos (by omega)]
          congr 1
          omega
    · intro y hy
      obtain ⟨hp, rfl⟩ := head_seg hy
      have := h c (by omega) (by omega)
      rw [decide_eq_false (by omega)] at this
      simpa using this

theorem rotF_same (G : Nat → α) (a m b : Nat) (h1 : a ≤ m) (h2 : m ≤ b) (h : a = m ∨ m = b) : rotF G a m b = G := by
  funext k
  unfold rotF
  rcases h with h | h
  · subst h
    split
    · congr 1; omega
    · split
      · omega
      · rfl
  · subst h
    rw [if_neg (by omega)]
    split
    · congr 1; omega
    · rfl

/-- THE STEP OF THE MERGE: behind the rotation, two merges of less. -/
theorem mg_step (G F1 F2 : Nat → α) (a m b st en : Nat) (h1 : a ≤ st) (h2 : st ≤ m) (h3 : m ≤ en) (h4 : en ≤ b)
    (hx : st < m → ∀ k, m ≤ k → k < en → lt (G k) (G st) = true) (hy : en < b → ∀ k, a ≤ k → k < st → lt (G en) (G k) = false)
    (m1 : MG lt (rotF G st m en) a st (st + (en - m)) F1) (m2 : MG lt F1 (st + (en - m)) en b F2) : MG lt G a m b F2 := by
  constructor
  · intro k hk
    rw [m2.1 k (by omega), m1.1 k (by omega)]
    unfold rotF
    rw [if_neg (by omega), if_neg (by omega)]
  · have e1 := m1.2
    have e2 := m2.2
    rw [show st + (en - m) - st = en - m from by omega] at e1
    have s1 : seg (rotF G st m en) a (st - a) = seg G a (st - a) := seg_congr fun i hi => by
      unfold rotF
      rw [if_neg (by omega), if_neg (by omega)]
    have s2 : seg (rotF G st m en) st (en - m) = seg G m (en - m) := seg_congr fun i hi => by
      unfold rotF
      rw [if_pos (by omega)]
      congr 1
      omega
    have s3 : seg F1 (st + (en - m)) (en - (st + (en - m))) = seg G st (m - st) := by
      rw [show en - (st + (en - m)) = m - st from by omega]
      refine seg_congr fun i hi => ?_
      rw [m1.1 _ (by omega)]
      unfold rotF
      rw [if_neg (by omega), if_pos (by omega)]
      congr 1
      omega
    have s4 : seg F1 en (b - en) = seg G en (b - en) := seg_congr fun i hi => by
      rw [m1.1 _ (by omega)]
      unfold rotF
      rw [if_neg (by omega), if_neg (by omega)]
    rw [s1, s2] at e1
    rw [s3, s4] at e2
    rw [show b - a = (st + (en - m) - a) + (b - (st + (en - m))) from by omega, seg_add]
    rw [show a + (st + (en - m) - a) = st + (en - m) from by omega, e2]
    have s5 : seg F2 a (st + (en - m) - a) = seg F1 a (st + (en - m) - a) := seg_congr fun i hi => m2.1 _ (by omega)
    rw [s5, e1]
    rw [show m - a = (st - a) + (m - st) from by omega, seg_add, show a + (st - a) = st from by omega]
    rw [show b - m = (en - m) + (b - en) from by omega, seg_add, show m + (en - m) = en from by omega]
    refine (mrg_split _ _ _ _ ?_ ?_).symm
    · intro y hy' x hx'
      obtain ⟨i, hi, rfl⟩ := mem_seg hy'
      obtain ⟨hp, rfl⟩ := head_seg hx'
      exact hx (by omega) _ (by omega) (by omega)
    · intro x hx' y hy'
      obtain ⟨i, hi, rfl⟩ := mem_seg hx'
      obtain ⟨hp, rfl⟩ := head_seg hy'
      exact hy (by omega) _ (by omega) (by omega)

/-- A merge with nothing on one side changes nothing. -/
theorem mg_same (G : Nat → α) (a m b : Nat) (h1 : a ≤ m) (h2 : m ≤ b) (h : a = m ∨ m = b) : MG lt G a m b G := by
  refine ⟨fun _ _ => rfl, ?_⟩
  rcases h with h | h
  · subst h
    rw [Nat.sub_self, seg_zero, mrg_nil]
  · subst h
    rw [Nat.sub_self, seg_zero, mrg_nil_r]

/-- The place that the merge's search finds: all that is asked of it. -/
theorem mg_cut (h : Swo lt) (G : Nat → α) (a m b : Nat) (h1 : a < m) (h2 : m < b) (s1 : SortedSeg lt G a m) (s2 : SortedSeg lt G m b) (s0 r0 : Nat)
    (hs : (m > (a + b) / 2 ∧ s0 = (a + b) / 2 + m - b ∧ r0 = (a + b) / 2) ∨ (¬ m > (a + b) / 2 ∧ s0 = a ∧ r0 = m)) :
    ∃ c, s0 ≤ c ∧ c ≤ r0 ∧ (∀ k, s0 ≤ k → k < r0 → (!lt (G ((a + b) / 2 + m - 1 - k)) (G k)) = decide (k < c)) ∧
      a ≤ c ∧ c ≤ m ∧ c ≤ (a + b) / 2 ∧ m ≤ (a + b) / 2 + m - c ∧ (a + b) / 2 + m - c ≤ b ∧
      (c < m → ∀ k, m ≤ k → k < (a + b) / 2 + m - c → lt (G k) (G c) = true) ∧ ((a + b) / 2 + m - c < b → ∀ k, a ≤ k → k < c → lt (G ((a + b) / 2 + m - c)) (G k) = false) := by
  have hb : s0 ≤ r0 ∧ a ≤ s0 ∧ r0 ≤ m ∧ r0 ≤ (a + b) / 2 ∧ (a + b) / 2 + m ≤ b + s0 := by omega
  obtain ⟨b1, b2, b3, b4, b5⟩ := hb
  generalize hmid : (a + b) / 2 = mid at *
  obtain ⟨c, c1, c2, c3⟩ := cut_exists (fun k => !lt (G (mid + m - 1 - k)) (G k)) s0 r0 b1 (by
    intro k l k1 k2 k3 e
    simp only [Bool.not_eq_true'] at e ⊢
    -- G k ≤ G l ≤ G (p - l) ≤ G (p - k)
    have e1 := s1 k l (by omega) k2 (by omega)
    have e2 := s2 (mid + m - 1 - l) (mid + m - 1 - k) (by omega) (by omega) (by omega)
    exact h.not_tr (h.not_tr e1 e) e2)
  refine ⟨c, c1, c2, c3, by omega, by omega, by omega, by omega, by omega, ?_, ?_⟩
  · intro hc k k1 k2
    have hcr : c < r0 := by omega
    have e := c3 c c1 hcr
    rw [decide_eq_false (by omega)] at e
    simp only [Bool.not_eq_false'] at e
    rcases Nat.lt_or_ge k (mid + m - 1 - c) with g | g
    · have e2 := s2 k (mid + m - 1 - c) k1 g (by omega)
      cases e3 : lt (G k) (G c) with
      | true => rfl
      | false =>
        have := h.not_tr e3 e2
        rw [e] at this
        cases this
    · rw [show k = mid + m - 1 - c from by omega]; exact e
  · intro hc k k1 k2
    have hcs : s0 < c := by omega
    have e := c3 (c - 1) (by omega) (by omega)
    rw [decide_eq_true (by omega)] at e
    simp only [Bool.not_eq_true'] at e
    rw [show mid + m - 1 - (c - 1) = mid + m - c from by omega] at e
    rcases Nat.lt_or_ge k (c - 1) with g | g
    · exact h.not_tr (s1 k (c - 1) k1 g (by omega)) e
    · rw [show k = c - 1 from by omega]; exact e
end

theorem sr_step (G : Nat → α) (a b i : Nat) (h : a + i < b) : swF (srF G a b i) (a + i) (b + i) = srF G a b (i + 1) := by
  funext k
  unfold swF srF
  (repeat' split) <;> first | rfl | omega | (congr 1; omega)
theorem sr_zero (G : Nat → α) (a b : Nat) : srF G a b 0 = G := by
  funext k
  unfold srF
  rw [if_neg (by omega), if_neg (by omega)]

theorem rot_gt (G : Nat → α) (a m b : Nat) (h1 : b - m < m - a) (h0 : m ≤ b) : rotF (srF G a m (b - m)) (a + (b - m)) m b = rotF G a m b := by
  funext k
  unfold rotF srF
  (repeat' split) <;> first | rfl | omega | (congr 1; omega)
theorem rot_lt (G : Nat → α) (a m b : Nat) (h1 : m - a < b - m) (h0 : a ≤ m) : rotF (srF G a (b - (m - a)) (m - a)) a m (b - (m - a)) = rotF G a m b := by
  funext k
  unfold rotF srF
  (repeat' split) <;> first | rfl | omega | (congr 1; omega)
theorem rot_eq (G : Nat → α) (a m b : Nat) (h1 : m - a = b - m) (h0 : a ≤ m) (h2 : m ≤ b) : srF G a m (m - a) = rotF G a m b := by
  funext k
  unfold rotF srF
  (repeat' split) <;> first | rfl | omega | (congr 1; omega)

theorem up_zero (G : Nat → α) (a : Nat) : upF G a (a + 1) = G := by
  funext k
  unfold upF
  (repeat' split) <;> first | rfl | omega | (congr 1; omega)
theorem up_step (G : Nat → α) (a k : Nat) (h : a ≤ k) : swF (upF G a (k + 1)) k (k + 1) = upF G a (k + 2) := by
  funext q
  unfold swF upF
  (repeat' split) <;> first | rfl | omega | (congr 1; omega)
theorem dn_zero (G : Nat → α) (m : Nat) : dnF G m m = G := by
  funext k
  unfold dnF
  (repeat' split) <;> first | rfl | omega | (congr 1; omega)
theorem dn_step (G : Nat → α) (m k : Nat) (h : k + 1 ≤ m) : swF (dnF G m (k + 1)) (k + 1) k = dnF G m k := by
  funext q
  unfold swF dnF
  (repeat' split) <;> first | rfl | omega | (congr 1; omega)

section
variable {lt : α → α → Bool}
theorem rot_sorted1 {G : Nat → α} {a m b c en : Nat} (s1 : SortedSeg lt G a m) (s2 : SortedSeg lt G m b) (h2 : c ≤ m) (h3 : m ≤ en) (h4 : en ≤ b) :
    SortedSeg lt (rotF G c m en) a c ∧ SortedSeg lt (rotF G c m en) c (c + (en - m)) := by
  constructor
  · intro i k k1 k2 k3
    unfold rotF
    rw [if_neg (by omega), if_neg (by omega), if_neg (by omega), if_neg (by omega)]
    exact s1 i k k1 k2 (by omega)
  · intro i k k1 k2 k3
    unfold rotF
    rw [if_pos (by omega), if_pos (by omega)]
    exact s2 _ _ (by omega) (by omega) (by omega)
theorem rot_sorted2 {G F : Nat → α} {a m b c en : Nat} (s1 : SortedSeg lt G a m) (s2 : SortedSeg lt G m b) (h1 : a ≤ c) (h2 : c ≤ m) (h3 : m ≤ en)
    (hF : ∀ k, k < a ∨ c + (en - m) ≤ k → F k = rotF G c m en k) : SortedSeg lt F (c + (en - m)) en ∧ SortedSeg lt F en b := by
  constructor
  · intro i k k1 k2 k3
    rw [hF _ (by omega), hF _ (by omega)]
    unfold rotF
    rw [if_neg (by omega), if_pos (by omega), if_neg (by omega), if_pos (by omega)]
    exact s1 _ _ (by omega) (by omega) (by omega)
  · intro i k k1 k2 k3
    rw [hF _ (by omega), hF _ (by omega)]
    unfold rotF
    rw [if_neg (by omega), if_neg (by omega), if_neg (by omega), if_neg (by omega)]
    exact s2 i k (by omega) k2 k3
end

end Stb
