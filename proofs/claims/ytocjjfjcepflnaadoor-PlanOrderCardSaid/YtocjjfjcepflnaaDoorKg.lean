/-
  PROVED HERE: the library's stableCmpFunc and SortStableFunc leave a row as a stable sort leaves it. Turned from worked proofs of the kit on the library's sort.
-/
import Derived.Test.YtocjjfjcepflnaaDoorKf
import Derived.Test.YtocjjfjcepflnaaDoorStb2
namespace Go.Proofs.YtocjjfjcepflnaaDoor
open Go.Shelf Go.RowKit Go.Lib Go.Sort
variable {α : Type} [Inhabited α] {P : Program} {kc : Nat}

/-! ### What the insertion sort computes -/
theorem insInner_cut (lt : α → α → Bool) (G : Nat → α) (a i c : Nat) (hac : a ≤ c) (hc : ∀ h, a ≤ h → h < i → (!lt (G i) (G h)) = decide (h < c)) :
    ∀ (j : Nat) (d : Array α), c ≤ j → j ≤ i → i < d.size → Gd d = Stb.dnF G i j → Gd (insInner lt a j d) = Stb.dnF G i c ∧ (insInner lt a j d).size = d.size := by
  intro j
  induction j with
  | zero =>
    intro d h1 h2 h3 h4
    have : c = 0 := by omega
    subst this
    rw [insInner_stop lt a 0 d (.inl (by omega))]
    exact ⟨h4, rfl⟩
  | succ j ih =>
    intro d h1 h2 h3 h4
    have v1 : d[j + 1]! = G i := by
      have := congrFun h4 (j + 1)
      unfold Gd Stb.dnF at this
      rw [if_pos rfl] at this
      exact this
    have v2 : d[j]! = G j := by
      have := congrFun h4 j
      unfold Gd Stb.dnF at this
      rw [if_neg (by omega), if_neg (by omega)] at this
      exact this
    by_cases e : c = j + 1
    · rw [insInner_stop lt a (j + 1) d ?_]
      · subst e; exact ⟨h4, rfl⟩
      · rcases Nat.lt_or_ge j a with g | g
        · exact .inl (by omega)
        · right
          have := hc j g (by omega)
          rw [decide_eq_true (by omega)] at this
          rw [v1, show j + 1 - 1 = j from rfl, v2]
          simpa using this
    · have hl := hc j (by omega) (by omega)
      rw [decide_eq_false (by omega)] at hl
      rw [insInner_go lt a (j + 1) d (by omega) (by rw [v1, show j + 1 - 1 = j from rfl, v2]; simpa using hl)]
      have := ih (swp d (j + 1) (j + 1 - 1)) (by omega) (by omega) (by rw [size_swp]; exact h3) (by
        rw [show j + 1 - 1 = j from rfl, Gd_swp _ _ _ (by omega) (by omega), h4, Stb.dn_step _ _ _ (by omega)])
      rw [size_swp] at this
      exact this

theorem insOuter_sorts {lt : α → α → Bool} (hW : Stb.Swo lt) (G0 : Nat → α) (a b : Nat) :
    ∀ (k i : Nat) (d : Array α), k = b - i → a < i → i ≤ b → b ≤ d.size → Stb.seg (Gd d) a (i - a) = Stb.isort lt (Stb.seg G0 a (i - a)) → (∀ q, q < a ∨ i ≤ q → Gd d q = G0 q) →
      Stb.seg (Gd (insOuter lt a b i d)) a (b - a) = Stb.isort lt (Stb.seg G0 a (b - a)) ∧ (∀ q, q < a ∨ b ≤ q → Gd (insOuter lt a b i d) q = G0 q) ∧ (insOuter lt a b i d).size = d.size := by
  intro k
  induction k with
  | zero =>
    intro i d hk h1 h2 h3 h4 h5
    have : i = b := by omega
    subst this
    rw [insOuter_stop _ _ _ _ _ (by omega)]
    exact ⟨h4, h5, rfl⟩
  | succ k ih =>
    intro i d hk h1 h2 h3 h4 h5
    rw [insOuter_go _ _ _ _ _ (by omega)]
    have hs : Stb.SortedSeg lt (Gd d) a i := by
      have := Stb.sortedSeg_of (h4 ▸ Stb.sorted_isort hW (Stb.seg G0 a (i - a)))
      rwa [show a + (i - a) = i from by omega] at this
    obtain ⟨c, c1, c2, c3⟩ := Stb.cut_exists (fun h => !lt (Gd d i) (Gd d h)) a i (by omega) (by
      intro p q k1 k2 k3 e
      simp only [Bool.not_eq_true'] at e ⊢
      exact hW.not_tr (hs p q k1 k2 k3) e)
    obtain ⟨g1, g2⟩ := insInner_cut lt (Gd d) a i c c1 c3 i d c2 (Nat.le_refl _) (by omega) (Stb.dn_zero _ _).symm
    have m := Stb.mg_dn (Gd d) a i c c1 c2 c3
    rw [← g1] at m
    have := ih (i + 1) (insInner lt a i d) (by omega) (by omega) (by omega) (by omega) (Stb.isort_more hW G0 (Gd d) _ a i (by omega) h4 (h5 i (by omega)) m) (by
      intro q hq
      rw [m.1 q (by omega), h5 q (by omega)])
    rw [g2] at this
    exact this

theorem insertion_sorts {lt : α → α → Bool} (hW : Stb.Swo lt) (a b : Nat) (d : Array α) (hab : a ≤ b) (hb : b ≤ d.size) :
    Stb.seg (Gd (Sort.insertionSort lt d a b)) a (b - a) = Stb.isort lt (Stb.seg (Gd d) a (b - a)) ∧ (∀ q, q < a ∨ b ≤ q → Gd (Sort.insertionSort lt d a b) q = Gd d q) ∧ (Sort.insertionSort lt d a b).size = d.size := by
  unfold Sort.insertionSort
  rcases Nat.lt_or_ge a b with h | h
  · exact insOuter_sorts hW (Gd d) a b _ (a + 1) d rfl (by omega) (by omega) hb (by rw [show a + 1 - a = 1 from by omega]; rfl) (fun _ _ => rfl)
  · rw [insOuter_stop _ _ _ _ _ (by omega), show b - a = 0 from by omega]
    exact ⟨rfl, fun _ _ => rfl, rfl⟩

theorem insertion_l (E : Env P kc) (enc : α → List Value) (cf : α → α → Int) (g : Nat) (cb : Array Value) (blk off cap a b len : Nat) (ia ib : Int) (d0 d : Array α) (w0 w : World)
    (eg : ∀ args w, (callFunc g args).run P w = .ok (.enter g args) w) (hcmp : CmpLays P g cb enc kc cf blk off len w0) (R : RowK enc kc w0 blk off d0) (hs : d0.size = len) (hl : d.size = len) (S : SWK enc kc w0 blk off d w)
    (h1 : ia = a) (h2 : ib = b) (hab : a ≤ b) (hb : b ≤ len) (hsz : len < 4611686018427387904) (hW : Stb.Swo (ltOf cf)) :
    Calls P 60 #[.slice (some ⟨blk, off, none⟩) len cap, .int .i64 ia, .int .i64 ib, .func (.func g) #[] cb] w fun e w' => e = .returned (.tuple #[]) ∧ ∃ d' : Array α, d'.size = len ∧
      Stb.seg (Gd d') a (b - a) = Stb.isort (ltOf cf) (Stb.seg (Gd d) a (b - a)) ∧ (∀ q, q < a ∨ b ≤ q → Gd d' q = Gd d q) ∧ SWK enc kc w0 blk off d' w' := by
  subst h1 h2 hl
  refine (insertion_s E enc cf g cb blk off cap a b d0 d w0 w eg (hs ▸ hcmp) R hs S hab hb hsz).mono ?_
  rintro e w' ⟨he, hS⟩
  obtain ⟨q1, q2, q3⟩ := insertion_sorts hW a b d hab hb
  exact ⟨he, _, q3, q1, q2, hS⟩

theorem symMerge_s (E : Env P kc) (enc : α → List Value) (cf : α → α → Int) (g : Nat) (cb : Array Value) (blk off cap len : Nat) (d0 : Array α) (w0 : World)
    (eg : ∀ args w, (callFunc g args).run P w = .ok (.enter g args) w) (hcmp : CmpLays P g cb enc kc cf blk off len w0) (R : RowK enc kc w0 blk off d0) (hs : d0.size = len) (hsz : len < 4611686018427387904) (hW : Stb.Swo (ltOf cf)) :
    ∀ k, SymOk P kc enc cf g cb blk off cap len w0 k := by
  intro k
  induction k with
  | zero =>
    intro a m b ia im ib d w hk hl S h1 h2 h3 h4 h5 h6 s1 s2
    omega
  | succ k ih =>
    intro a m b ia im ib d w hk hl S h1 h2 h3 h4 h5 h6 s1 s2
    by_cases c1 : m = a + 1
    · exact symMerge_up E enc cf g cb blk off cap a m b len ia im ib d0 d w0 w eg hcmp R hs hl S h1 h2 h3 c1 h5 h6 hsz s2 hW
    by_cases c2 : b = m + 1
    · exact symMerge_dn E enc cf g cb blk off cap a m b len ia im ib d0 d w0 w eg hcmp R hs hl S h1 h2 h3 (by omega) c2 h6 hsz s1 hW
    · exact symMerge_ways E enc cf g cb blk off cap a m b len k ia im ib d0 d w0 w eg hcmp R hs hl S h1 h2 h3 (by omega) (by omega) h6 hsz s1 s2 hW ih hk

end Go.Proofs.YtocjjfjcepflnaaDoor
