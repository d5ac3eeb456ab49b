/-
  PROVED HERE: what the document's answer Order computes: the places of a row of words in stable order.
-/
import Derived.Test.YtpfcdpmpfgdnaaaLeast
import Derived.Maps.AppendAt
import Derived.Laws.AppendOwnNone
import Derived.Deep.DeepMust
namespace Go.Proofs.Ytpfcdpmpfgdnaaa
open Go.RowKit Go.Sort

/-- The places of the first i words, in order. -/
def ordT (L : Nat → Nat) (n i : Nat) : List Nat := Stb.isort (ltL L n) (List.range i)
theorem ordT_succ (L : Nat → Nat) (n i : Nat) : ordT L n (i + 1) = Stb.ins (ltL L n) i (ordT L n i) := by unfold ordT; rw [List.range_succ, Stb.isort_snoc]
theorem ordT_lt (L : Nat → Nat) (n i x : Nat) (h : x ∈ ordT L n i) : x < i := List.mem_range.1 ((Stb.isort_perm _).mem_iff.1 h)
theorem length_ordT (L : Nat → Nat) (n i : Nat) : (ordT L n i).length = i := by unfold ordT; rw [Stb.length_isort, List.length_range]
def rowV (l : List Nat) : List Value := l.map fun j : Nat => Value.int .i64 (j : Int)
theorem length_rowV (l : List Nat) : (rowV l).length = l.length := by simp [rowV]

theorem rowV_get (L : Nat → Nat) (n i j : Nat) (hj : j < i) : (rowV (ordT L n i))[j]? = some (.int .i64 (((ordT L n i).getD j 0 : Nat) : Int)) := by
  have hl := length_ordT L n i
  generalize ordT L n i = l at *
  unfold rowV
  rw [List.getElem?_map, List.getD_eq_getElem?_getD, List.getElem?_eq_getElem (by omega)]
  rfl

/-- One more, set in at a place ahead of which nothing weighs more, behind which all do. -/
theorem ordT_step (L : Nat → Nat) (n i k : Nat) (hk : k ≤ i) (h1 : k = 0 ∨ ltL L n i ((ordT L n i).getD (k - 1) 0) = false) (h2 : k < i → ltL L n i ((ordT L n i).getD k 0) = true) :
    ordT L n (i + 1) = (ordT L n i).take k ++ i :: (ordT L n i).drop k := by
  have hl := length_ordT L n i
  have hs := Stb.sorted_isort (swo_ltL L n) (List.range i)
  rw [ordT_succ]
  have e := Stb.ins_at (lt := ltL L n) i ((ordT L n i).take k) ((ordT L n i).drop k) ?_ ?_
  · rw [List.take_append_drop] at e; exact e
  · intro y hy
    obtain ⟨j, hj, rfl⟩ := List.getElem_of_mem hy
    rw [List.length_take] at hj
    rw [List.getElem_take]
    rcases h1 with h1 | h1
    · omega
    · rw [List.getD_eq_getElem?_getD, List.getElem?_eq_getElem (by omega)] at h1
      simp only [Option.getD_some] at h1
      rcases Nat.lt_or_ge j (k - 1) with g | g
      · have hp := List.pairwise_iff_getElem.1 hs j (k - 1) (by rw [Stb.length_isort]; simp; omega) (by rw [Stb.length_isort]; simp; omega) g
        exact (swo_ltL L n).not_tr hp h1
      · have : j = k - 1 := by omega
        subst this
        exact h1
  · intro y hy
    have hki : k < i := by
      rcases Nat.lt_or_ge k i with g | g
      · exact g
      · rw [List.drop_eq_nil_of_le (by omega)] at hy; cases hy
    have := h2 hki
    rw [List.head?_drop, List.getElem?_eq_getElem (by omega)] at hy
    rw [List.getD_eq_getElem?_getD, List.getElem?_eq_getElem (by omega)] at this
    cases hy
    exact this

/-- What the answer's Order leaves: a row of places, in new memory. -/
def ROrderPost (L : Nat → Nat) (n : Nat) (w : World) (e : Ending) (w' : World) : Prop :=
  ∃ g cap, e = .returned (.slice (some ⟨g, 0, none⟩) n cap) ∧ w.heap.size ≤ g ∧ (∀ k, k < n → w'.cell? ⟨g, k, none⟩ = some (.int .i64 (((ordL L n).getD k 0 : Nat) : Int))) ∧ Below w.heap.size w w'

theorem below_drewN {B : Nat} {a w : World} (h : Below B a w) (n : Nat) : Below B a (w.drewN n) := ⟨h.os, h.tape, h.output, h.size, h.block⟩

theorem add_off (g k j : Nat) : (⟨g, k, none⟩ : Addr).add j = ⟨g, k + j, none⟩ := by
  unfold Addr.add
  by_cases h : j = 0
  · subst h; simp
  · simp [h]
theorem rowV_one (l : List Nat) : ∀ u ∈ rowV l, u.oneCell' = true := by
  intro u hu
  unfold rowV at hu
  obtain ⟨j, _, rfl⟩ := List.mem_map.1 hu
  rfl
theorem row_drop {base e g n cap k j : Nat} {W x : World} {l : List Nat} {u : Value} (h : W.ownsRow base e 1 (.slice (some ⟨g, 0, none⟩) n cap) n (rowV l)) (hg : g < W.heap.size) (hu : (rowV (l.drop k))[j]? = some u) (hx : Below W.heap.size W x) :
    x.cell? ⟨g, k + j, none⟩ = some u := by
  rw [hx.cell (p := ⟨g, k + j, none⟩) hg]
  have e : (rowV l)[k + j]? = some u := by
    rw [← hu]; unfold rowV; rw [List.getElem?_map, List.getElem?_map, List.getElem?_drop]
  have hl : k + j < n := by
    have := h.1
    rcases Nat.lt_or_ge (k + j) (rowV l).length with g' | g'
    · omega
    · rw [List.getElem?_eq_none g'] at e; cases e
  rw [h.cellAt (k + j) (by omega), e]
theorem row_take {base e g n cap k j : Nat} {W x : World} {l : List Nat} {u : Value} (h : W.ownsRow base e 1 (.slice (some ⟨g, 0, none⟩) n cap) n (rowV l)) (hg : g < W.heap.size) (hu : (rowV (l.take k))[j]? = some u) (hx : Below W.heap.size W x) :
    x.cell? ⟨g, j, none⟩ = some u := by
  rw [hx.cell (p := ⟨g, j, none⟩) hg]
  have e : (rowV l)[j]? = some u := by
    have hj : j < (rowV (l.take k)).length := by
      rcases Nat.lt_or_ge j (rowV (l.take k)).length with g' | g'
      · exact g'
      · rw [List.getElem?_eq_none g'] at hu; cases hu
    rw [length_rowV, List.length_take] at hj
    rw [← hu]; unfold rowV; rw [List.getElem?_map, List.getElem?_map, List.getElem?_take_of_lt (by omega)]
  have hl : j < n := by
    have := h.1
    rcases Nat.lt_or_ge j (rowV l).length with g' | g'
    · omega
    · rw [List.getElem?_eq_none g'] at e; cases e
  rw [h.cellAt j (by omega), e]

theorem own_form {w : World} {base e n : Nat} {v : Value} {xs : List Value} (h : w.ownsRow base e 1 v n xs) (hn : 0 < n) : ∃ g cap, v = .slice (some ⟨g, 0, none⟩) n cap ∧ base ≤ g ∧ g < w.heap.size := by
  have hlt := h.lt
  rcases h.2 with ⟨_, h0⟩ | ⟨g, cap, cur, h1, h2, _⟩
  · omega
  · exact ⟨g, cap, h1, h2, (hlt g (by rw [h1]; rfl)).2⟩

/-- How the answer's Order stands behind i rounds. -/
def RO (L : Nat → Nat) (n : Nat) (w0 : World) (i : Nat) (v : Value) (w : World) : Prop :=
  ∃ g cap, v = .slice (some ⟨g, 0, none⟩) i cap ∧ i ≤ cap ∧ w.ownsRow w0.heap.size 3 1 v i (rowV (ordT L n i)) ∧ Below w0.heap.size w0 w

set_option maxRecDepth 100000 in
set_option maxHeartbeats 1000000 in
theorem rorder_some (L : Nat → Nat) (hL : ∀ k, L k < 18446744073709551616) (b off n cap : Nat) (w : World) (hn : 0 < n) (hn2 : n < 4294967296) (hb : b < w.heap.size) (hw : Words w b off n L) :
    Calls Try.prog 26 #[.slice (some ⟨b, off, none⟩) n cap] w (ROrderPost L n w) := by
  obtain ⟨i0, hi, hz0, hz1, hz2⟩ := info_parts info3
  have mixed : Try.prog.follows .mixedOrders = true := by kernel_rfl
  have HW := Lib.hid hw
  have HLL := Lib.hid hL
  clear hw hL
  go_enter Try.func26, Try.ntmps26
  go_wp2
  go_loopw [3, 4] (fun v u wr => ∃ i : Nat, i ≤ n ∧ u = .int .i64 i ∧ RO L n w i v wr) (fun _ u _ => n - (intOf u).toNat)
  case atStart =>
    refine ⟨0, by omega, rfl, w.heap.size, 0, rfl, by omega, ?_, (Below.refl _ _).alloc (Nat.le_refl _) _⟩
    exact World.ownsRow_lit w #[] 0 (Nat.le_refl _) (by unfold maxLen; omega) rfl
  case round =>
    obtain ⟨i, hin, rfl, hro⟩ := hrel
    by_cases hlt : i < n
    · have hltz : (i : Int) < (n : Int) := by omega
      obtain ⟨g, c, rfl, hic, hown, hbel⟩ := hro
      go_wp2
      have HO := Lib.hid hown
      have HB := Lib.hid hbel
      clear hown hbel
      go_loopw [5] (fun u wr2 => ∃ (k : Nat), u = .int .i64 k ∧ k ≤ i ∧ Aside (wr2.ownsRow w.heap.size 3 1 (.slice (some ⟨g, 0, none⟩) i c) i (rowV (ordT L n i))) ∧ Aside (Below w.heap.size w wr2) ∧ Hid (k < i → ltL L n i ((ordT L n i).getD k 0) = true)) (fun u _ => (intOf u).toNat)
      case atStart => exact ⟨i, rfl, Nat.le_refl _, HO.out, HB.out, fun h => absurd h (by omega)⟩
      case round =>
        clear HO HB
        obtain ⟨k, rfl, hk, HO, HB, HK⟩ := hrel
        by_cases h0 : k = 0
        · have hd : decide (0 < k) = false := decide_eq_false (by omega)
          have hkz : ¬ (0 : Int) < (k : Int) := by omega
          have H1 : Hid (k = 0 ∨ ltL L n i ((ordT L n i).getD (k - 1) 0) = false) := .inl h0
          clear h0
          go_wp2_with fail
          go_quiet (fail)
          have hO2 : (wr.drewN nq).ownsRow w.heap.size 3 1 (.slice (some ⟨g, 0, none⟩) i c) i (rowV (ordT L n i)) := HO.out
          have hB2 : Below w.heap.size w (wr.drewN nq) := below_drewN HB.out _
          generalize wr.drewN nq = W at hO2 hB2 ⊢
          have hnew := ordT_step L n i k hk H1.out HK.out
          have HN := Lib.hid hnew
          clear hnew H1 HK
          have hWs : w.heap.size ≤ W.heap.size := hB2.size
          have hgW := (hO2.lt g rfl).2
          have hgb := (hO2.lt g rfl).1
          have HO2 := Lib.hid hO2
          have HB2 := Lib.hid hB2
          clear hO2 hB2 HO HB
          have hsrc1 : ∀ (j : Nat) (u : Value) (x : World), (rowV ((ordT L n i).drop k))[j]? = some u → Below W.heap.size W x → x.cell? ⟨g, k + j, none⟩ = some u := fun j u x hu hx => row_drop HO2.out hgW hu hx
          have hsrc2 : ∀ (j : Nat) (u : Value) (x : World), (rowV ((ordT L n i).take k))[j]? = some u → Below W.heap.size W x → x.cell? ⟨g, j, none⟩ = some u := fun j u x hu hx => row_take HO2.out hgW hu hx
          have HS1 := Lib.hid hsrc1
          have HS2 := Lib.hid hsrc2
          clear hsrc1 hsrc2
          have hlen := length_ordT L n i
          have HLen := Lib.hid hlen
          clear hlen
          have hkc2 : k ≤ c := by omega
          by_cases hck : c = k
          · go_wp2_with (at_builtin; go_must (refine wpList_append_own_at _ rfl (.tmp 37) (.tmp 40) 36 rfl w.heap.size 3 i0 (.int .i64 0) 1 8 Try.underlying36 hi hz0 hz1 hz2 rfl (by decide) (.slice (some ⟨W.heap.size, 0, none⟩) 1 1) 1 [.int .i64 (i : Int)] rfl ?a1 ⟨g, 0, none⟩ (i - k) (0) (rowV ((ordT L n i).drop k)) rfl ?a2 ?a3 ?a4 ?a5 ?a6 ?a7 ?_))
            case a1 => exact World.ownsRow_lit W #[.int .i64 (i : Int)] 1 hWs (by unfold maxLen; omega) rfl
            case a2 => rw [length_rowV, List.length_drop, HLen.out]; omega
            case a3 => intro j u hu; rw [List.drop_eq_nil_of_le (by rw [HLen.out]; omega)] at hu; cases hu
            case a4 => exact rowV_one _
            case a5 => unfold maxLen; omega
            case a6 => omega
            case a7 => simp only [World.size_alloc]; omega
            intro v1 w1 hown1 hg1 _ hat1
            have hb1 : Below W.heap.size W w1 := ((Below.refl _ _).alloc (Nat.le_refl _) _).grown hg1 (by simp) (by simp [Value.ownBlock])
            obtain ⟨g1, c1', rfl, hg1b, hg1w⟩ := own_form hown1 (by omega)
            have HO1 := Lib.hid hown1
            have HB1 := Lib.hid hb1
            have hs1 := hb1.size
            clear hown1 hg1 hat1 hb1
            go_wp2_with (at_builtin; go_must (refine wpList_append_own_at _ rfl (.tmp 42) (.tmp 45) 36 rfl w.heap.size 3 i0 (.int .i64 0) 1 8 Try.underlying36 hi hz0 hz1 hz2 rfl (by decide) (.slice (some ⟨w1.heap.size, 0, none⟩) 0 0) 0 [] rfl ?b1 ⟨g, 0, none⟩ k k (rowV ((ordT L n i).take k)) rfl ?b2 ?b3 ?b4 ?b5 ?b6 ?b7 ?_))
            case b1 => exact World.ownsRow_lit w1 #[] 0 (by omega) (by unfold maxLen; omega) rfl
            case b2 => rw [length_rowV, List.length_take, HLen.out]; omega
            case b3 => intro j u hu; rw [add_off, Nat.zero_add]; exact HS2.out j u _ hu (HB1.out.alloc hs1 _)
            case b4 => exact rowV_one _
            case b5 => unfold maxLen; omega
            case b6 => omega
            case b7 => simp only [World.size_alloc]; omega
            intro v2 w2 hown2 hg2 _ hat2
            have hb2 : Below w1.heap.size w1 w2 := ((Below.refl _ _).alloc (Nat.le_refl _) _).grown hg2 (by simp) (by simp [Value.ownBlock])
            have hv2 : ∀ q, v2.ownBlock = some q → w1.heap.size ≤ q := by
              intro q hq
              rcases hat2 with e | e
              · rw [e] at hq; simp [Value.ownBlock] at hq; omega
              · rw [e] at hq; simp at hq; omega
            have HO2' := Lib.hid hown2
            have HB2' := Lib.hid hb2
            have HV2 := Lib.hid hv2
            have hs2 := hb2.size
            clear hown2 hg2 hat2 hb2 hv2
            go_wp2_with (at_builtin; go_must (refine wpList_append_own_at _ rfl (.tmp 46) (.tmp 47) 36 rfl w.heap.size 3 i0 (.int .i64 0) 1 8 Try.underlying36 hi hz0 hz1 hz2 rfl (by decide) v2 k (rowV ((ordT L n i).take k)) ?d0 HO2'.out ⟨g1, 0, none⟩ (1 + (i - k)) c1' ([.int .i64 (i : Int)] ++ rowV ((ordT L n i).drop k)) ?d1 ?d2 ?d3 ?d4 ?d5 ?d6 ?d7 ?_))
            case d0 => rfl
            case d1 => rfl
            case d2 => simp only [List.length_append, length_rowV, List.length_drop, HLen.out, List.length_singleton]; omega
            case d3 =>
              intro j u hu
              rw [HB2'.out.cell (p := (⟨g1, 0, none⟩ : Addr).add j) (by rw [add_off]; exact hg1w)]
              exact HO1.out.cells (g := g1) rfl j u hu
            case d4 =>
              intro u hu
              rcases List.mem_append.1 hu with hu | hu
              · simp only [List.mem_singleton] at hu; subst hu; rfl
              · exact rowV_one _ u hu
            case d5 => unfold maxLen; omega
            case d6 => omega
            case d7 => omega
            intro v3 w3 hown3 hg3 _ _
            have hb3 : Below w1.heap.size w2 w3 := (Below.refl _ _).grown hg3 (by omega) HV2.out
            have hro : RO L n w (i + 1) v3 w3 := by
              have e : rowV (ordT L n (i + 1)) = rowV ((ordT L n i).take k) ++ Value.int .i64 (i : Int) :: rowV ((ordT L n i).drop k) := by
                rw [HN.out]; unfold rowV; simp
              have e2 : k + (1 + (i - k)) = i + 1 := by omega
              rw [← e, e2] at hown3
              obtain ⟨g3, c3, rfl, h3, h4⟩ := own_form hown3 (by omega)
              refine ⟨g3, c3, rfl, ?_, hown3, ?_⟩
              · rcases hown3.2 with ⟨h, _⟩ | ⟨_, cc, _, h, _, _, hc, _⟩
                · cases h
                · injection h with _ _ h5; omega
              · exact (HB2.out.trans (HB1.out.mono hWs)).trans ((HB2'.out.mono (by omega)).trans (hb3.mono (by omega)))
            have HRO := Lib.hid hro
            clear hown3 hg3 hb3 hro
            go_wp2
            go_roundw
            case rel => exact ⟨i + 1, by omega, by go_num, HRO.out⟩
            case measure => simp [intOf]; omega
          · go_wp2_with (at_builtin; go_must (refine wpList_append_own_at _ rfl (.tmp 37) (.tmp 40) 36 rfl w.heap.size 3 i0 (.int .i64 0) 1 8 Try.underlying36 hi hz0 hz1 hz2 rfl (by decide) (.slice (some ⟨W.heap.size, 0, none⟩) 1 1) 1 [.int .i64 (i : Int)] rfl ?a1 ⟨g, k, none⟩ (i - k) (c - k) (rowV ((ordT L n i).drop k)) rfl ?a2 ?a3 ?a4 ?a5 ?a6 ?a7 ?_))
            case a1 => exact World.ownsRow_lit W #[.int .i64 (i : Int)] 1 hWs (by unfold maxLen; omega) rfl
            case a2 => rw [length_rowV, List.length_drop, HLen.out]; omega
            case a3 => intro j u hu; rw [add_off]; exact HS1.out j u _ hu ((Below.refl _ _).alloc (Nat.le_refl _) _)
            case a4 => exact rowV_one _
            case a5 => unfold maxLen; omega
            case a6 => omega
            case a7 => simp only [World.size_alloc]; omega
            intro v1 w1 hown1 hg1 _ hat1
            have hb1 : Below W.heap.size W w1 := ((Below.refl _ _).alloc (Nat.le_refl _) _).grown hg1 (by simp) (by simp [Value.ownBlock])
            obtain ⟨g1, c1', rfl, hg1b, hg1w⟩ := own_form hown1 (by omega)
            have HO1 := Lib.hid hown1
            have HB1 := Lib.hid hb1
            have hs1 := hb1.size
            clear hown1 hg1 hat1 hb1
            go_wp2_with (at_builtin; go_must (refine wpList_append_own_at _ rfl (.tmp 42) (.tmp 45) 36 rfl w.heap.size 3 i0 (.int .i64 0) 1 8 Try.underlying36 hi hz0 hz1 hz2 rfl (by decide) (.slice (some ⟨w1.heap.size, 0, none⟩) 0 0) 0 [] rfl ?b1 ⟨g, 0, none⟩ k c (rowV ((ordT L n i).take k)) rfl ?b2 ?b3 ?b4 ?b5 ?b6 ?b7 ?_))
            case b1 => exact World.ownsRow_lit w1 #[] 0 (by omega) (by unfold maxLen; omega) rfl
            case b2 => rw [length_rowV, List.length_take, HLen.out]; omega
            case b3 => intro j u hu; rw [add_off, Nat.zero_add]; exact HS2.out j u _ hu (HB1.out.alloc hs1 _)
            case b4 => exact rowV_one _
            case b5 => unfold maxLen; omega
            case b6 => omega
            case b7 => simp only [World.size_alloc]; omega
            intro v2 w2 hown2 hg2 _ hat2
            have hb2 : Below w1.heap.size w1 w2 := ((Below.refl _ _).alloc (Nat.le_refl _) _).grown hg2 (by simp) (by simp [Value.ownBlock])
            have hv2 : ∀ q, v2.ownBlock = some q → w1.heap.size ≤ q := by
              intro q hq
              rcases hat2 with e | e
              · rw [e] at hq; simp [Value.ownBlock] at hq; omega
              · rw [e] at hq; simp at hq; omega
            have HO2' := Lib.hid hown2
            have HB2' := Lib.hid hb2
            have HV2 := Lib.hid hv2
            have hs2 := hb2.size
            clear hown2 hg2 hat2 hb2 hv2
            go_wp2_with (at_builtin; go_must (refine wpList_append_own_at _ rfl (.tmp 46) (.tmp 47) 36 rfl w.heap.size 3 i0 (.int .i64 0) 1 8 Try.underlying36 hi hz0 hz1 hz2 rfl (by decide) v2 k (rowV ((ordT L n i).take k)) ?d0 HO2'.out ⟨g1, 0, none⟩ (1 + (i - k)) c1' ([.int .i64 (i : Int)] ++ rowV ((ordT L n i).drop k)) ?d1 ?d2 ?d3 ?d4 ?d5 ?d6 ?d7 ?_))
            case d0 => rfl
            case d1 => rfl
            case d2 => simp only [List.length_append, length_rowV, List.length_drop, HLen.out, List.length_singleton]; omega
            case d3 =>
              intro j u hu
              rw [HB2'.out.cell (p := (⟨g1, 0, none⟩ : Addr).add j) (by rw [add_off]; exact hg1w)]
              exact HO1.out.cells (g := g1) rfl j u hu
            case d4 =>
              intro u hu
              rcases List.mem_append.1 hu with hu | hu
              · simp only [List.mem_singleton] at hu; subst hu; rfl
              · exact rowV_one _ u hu
            case d5 => unfold maxLen; omega
            case d6 => omega
            case d7 => omega
            intro v3 w3 hown3 hg3 _ _
            have hb3 : Below w1.heap.size w2 w3 := (Below.refl _ _).grown hg3 (by omega) HV2.out
            have hro : RO L n w (i + 1) v3 w3 := by
              have e : rowV (ordT L n (i + 1)) = rowV ((ordT L n i).take k) ++ Value.int .i64 (i : Int) :: rowV ((ordT L n i).drop k) := by
                rw [HN.out]; unfold rowV; simp
              have e2 : k + (1 + (i - k)) = i + 1 := by omega
              rw [← e, e2] at hown3
              obtain ⟨g3, c3, rfl, h3, h4⟩ := own_form hown3 (by omega)
              refine ⟨g3, c3, rfl, ?_, hown3, ?_⟩
              · rcases hown3.2 with ⟨h, _⟩ | ⟨_, cc, _, h, _, _, hc, _⟩
                · cases h
                · injection h with _ _ h5; omega
              · exact (HB2.out.trans (HB1.out.mono hWs)).trans ((HB2'.out.mono (by omega)).trans (hb3.mono (by omega)))
            have HRO := Lib.hid hro
            clear hown3 hg3 hb3 hro
            go_wp2
            go_roundw
            case rel => exact ⟨i + 1, by omega, by go_num, HRO.out⟩
            case measure => simp [intOf]; omega
        · obtain ⟨q, hq⟩ : ∃ q, q = (ordT L n i).getD (k - 1) 0 := ⟨_, rfl⟩
          have hqi : q < i := by rw [hq]; exact ordT_lt L n i _ (by rw [List.getD_eq_getElem?_getD, List.getElem?_eq_getElem (by rw [length_ordT]; omega)]; exact List.getElem_mem _)
          have hd : decide (0 < k) = true := decide_eq_true (by omega)
          have c0 : wr.cell? ⟨g, k - 1, none⟩ = some (.int .i64 (q : Int)) := by
            rw [HO.out.cellAt (k - 1) (by omega), hq]
            exact rowV_get L n i (k - 1) (by omega)
          have hcw : ∀ j, j < n → wr.cell? ⟨b, off + j, none⟩ = some (.int .u64 (L j : Int)) := fun j hj => by rw [HB.out.cell (p := ⟨b, off + j, none⟩) hb]; exact HW.out j hj
          have c1 := hcw q (by omega)
          have c2 := hcw i hlt
          clear hcw
          obtain ⟨kp, hkp⟩ : ∃ kp, kp = k - 1 := ⟨_, rfl⟩
          rw [← hkp] at c0
          have hkz : (0 : Int) ≤ (kp : Int) := by omega
          have hkc : (kp : Int) < (i : Int) := by omega
          have hke : (k : Int) - 1 = (kp : Int) := by omega
          have hkw : IntKind.i64.wrap (kp : Int) = (kp : Int) := by rw [IntKind.wrap_i64]; omega
          have HKP := Lib.hid hkp
          clear hkp
          have hqn : (q : Int) < (n : Int) := by omega
          have hlv : ltL L n i ((ordT L n i).getD (k - 1) 0) = decide (Wgh.cmpW (L i) (L q) < 0) := by
            unfold ltL
            rw [← hq, Nat.mod_eq_of_lt hlt, Nat.mod_eq_of_lt (by omega)]
          have hc3 : ∀ W : World, Calls Try.prog 14 #[.int .u64 (L q : Int), .int .u64 (L i : Int)] W fun e w' => e = .returned (.int .i64 (Wgh.cmpW (L q) (L i))) ∧ W = w' := fun W =>
            rcompare_any (L q) (L i) W (by omega) (by have := HLL.out q; omega) (by omega) (by have := HLL.out i; omega)
          have HC := Lib.hid hc3
          have HLV := Lib.hid hlv
          clear hc3 hlv hq
          have hrev : (0 < Wgh.cmpW (L q) (L i)) ↔ (Wgh.cmpW (L i) (L q) < 0) := by unfold Wgh.cmpW; (repeat' split) <;> omega
          have HR := Lib.hid hrev
          clear hrev
          by_cases hcc : Wgh.cmpW (L i) (L q) < 0
          · have hdd : decide (0 < Wgh.cmpW (L q) (L i)) = true := decide_eq_true (HR.out.2 hcc)
            have HNK : Hid (kp < i → ltL L n i ((ordT L n i).getD kp 0) = true) := fun _ => by rw [HKP.out, HLV.out]; exact decide_eq_true hcc
            clear hcc HLV HR
            go_wp2_with fail
            go_quiet ((go_at_call 14; exact Calls.quiet_of_same ((Calls.mono (HC.out _)) fun _ _ h => ⟨h.1, h.2.symm⟩)))
            have HO3 : Aside ((wr.drewN nq).ownsRow w.heap.size 3 1 (.slice (some ⟨g, 0, none⟩) i c) i (rowV (ordT L n i))) := HO.out
            have HB3 : Aside (Below w.heap.size w (wr.drewN nq)) := below_drewN HB.out _
            clear HO HB c0 c1 c2 HC HK
            generalize wr.drewN nq = W at HO3 HB3 ⊢
            go_wp2
            go_roundw
            case rel => exact ⟨kp, rfl, by omega, HO3, HB3, HNK⟩
            case measure => simp [intOf]; omega
          · have hdd : decide (0 < Wgh.cmpW (L q) (L i)) = false := decide_eq_false (fun h => hcc (HR.out.1 h))
            have H1 : Hid (k = 0 ∨ ltL L n i ((ordT L n i).getD (k - 1) 0) = false) := .inr (by rw [HLV.out]; exact decide_eq_false hcc)
            clear hcc HLV HR
            go_wp2_with fail
            go_quiet ((go_at_call 14; exact Calls.quiet_of_same ((Calls.mono (HC.out _)) fun _ _ h => ⟨h.1, h.2.symm⟩)))
            clear HC c0 c1 c2 hdd
            have hO2 : (wr.drewN nq).ownsRow w.heap.size 3 1 (.slice (some ⟨g, 0, none⟩) i c) i (rowV (ordT L n i)) := HO.out
            have hB2 : Below w.heap.size w (wr.drewN nq) := below_drewN HB.out _
            generalize wr.drewN nq = W at hO2 hB2 ⊢
            have hnew := ordT_step L n i k hk H1.out HK.out
            have HN := Lib.hid hnew
            clear hnew H1 HK
            have hWs : w.heap.size ≤ W.heap.size := hB2.size
            have hgW := (hO2.lt g rfl).2
            have hgb := (hO2.lt g rfl).1
            have HO2 := Lib.hid hO2
            have HB2 := Lib.hid hB2
            clear hO2 hB2 HO HB
            have hsrc1 : ∀ (j : Nat) (u : Value) (x : World), (rowV ((ordT L n i).drop k))[j]? = some u → Below W.heap.size W x → x.cell? ⟨g, k + j, none⟩ = some u := fun j u x hu hx => row_drop HO2.out hgW hu hx
            have hsrc2 : ∀ (j : Nat) (u : Value) (x : World), (rowV ((ordT L n i).take k))[j]? = some u → Below W.heap.size W x → x.cell? ⟨g, j, none⟩ = some u := fun j u x hu hx => row_take HO2.out hgW hu hx
            have HS1 := Lib.hid hsrc1
            have HS2 := Lib.hid hsrc2
            clear hsrc1 hsrc2
            have hlen := length_ordT L n i
            have HLen := Lib.hid hlen
            clear hlen
            have hkc2 : k ≤ c := by omega
            by_cases hck : c = k
            · go_wp2_with (at_builtin; go_must (refine wpList_append_own_at _ rfl (.tmp 37) (.tmp 40) 36 rfl w.heap.size 3 i0 (.int .i64 0) 1 8 Try.underlying36 hi hz0 hz1 hz2 rfl (by decide) (.slice (some ⟨W.heap.size, 0, none⟩) 1 1) 1 [.int .i64 (i : Int)] rfl ?a1 ⟨g, 0, none⟩ (i - k) (0) (rowV ((ordT L n i).drop k)) rfl ?a2 ?a3 ?a4 ?a5 ?a6 ?a7 ?_))
              case a1 => exact World.ownsRow_lit W #[.int .i64 (i : Int)] 1 hWs (by unfold maxLen; omega) rfl
              case a2 => rw [length_rowV, List.length_drop, HLen.out]; omega
              case a3 => intro j u hu; rw [List.drop_eq_nil_of_le (by rw [HLen.out]; omega)] at hu; cases hu
              case a4 => exact rowV_one _
              case a5 => unfold maxLen; omega
              case a6 => omega
              case a7 => simp only [World.size_alloc]; omega
              intro v1 w1 hown1 hg1 _ hat1
              have hb1 : Below W.heap.size W w1 := ((Below.refl _ _).alloc (Nat.le_refl _) _).grown hg1 (by simp) (by simp [Value.ownBlock])
              obtain ⟨g1, c1', rfl, hg1b, hg1w⟩ := own_form hown1 (by omega)
              have HO1 := Lib.hid hown1
              have HB1 := Lib.hid hb1
              have hs1 := hb1.size
              clear hown1 hg1 hat1 hb1
              go_wp2_with (at_builtin; go_must (refine wpList_append_own_at _ rfl (.tmp 42) (.tmp 45) 36 rfl w.heap.size 3 i0 (.int .i64 0) 1 8 Try.underlying36 hi hz0 hz1 hz2 rfl (by decide) (.slice (some ⟨w1.heap.size, 0, none⟩) 0 0) 0 [] rfl ?b1 ⟨g, 0, none⟩ k k (rowV ((ordT L n i).take k)) rfl ?b2 ?b3 ?b4 ?b5 ?b6 ?b7 ?_))
              case b1 => exact World.ownsRow_lit w1 #[] 0 (by omega) (by unfold maxLen; omega) rfl
              case b2 => rw [length_rowV, List.length_take, HLen.out]; omega
              case b3 => intro j u hu; rw [add_off, Nat.zero_add]; exact HS2.out j u _ hu (HB1.out.alloc hs1 _)
              case b4 => exact rowV_one _
              case b5 => unfold maxLen; omega
              case b6 => omega
              case b7 => simp only [World.size_alloc]; omega
              intro v2 w2 hown2 hg2 _ hat2
              have hb2 : Below w1.heap.size w1 w2 := ((Below.refl _ _).alloc (Nat.le_refl _) _).grown hg2 (by simp) (by simp [Value.ownBlock])
              have hv2 : ∀ q, v2.ownBlock = some q → w1.heap.size ≤ q := by
                intro q hq
                rcases hat2 with e | e
                · rw [e] at hq; simp [Value.ownBlock] at hq; omega
                · rw [e] at hq; simp at hq; omega
              have HO2' := Lib.hid hown2
              have HB2' := Lib.hid hb2
              have HV2 := Lib.hid hv2
              have hs2 := hb2.size
              clear hown2 hg2 hat2 hb2 hv2
              go_wp2_with (at_builtin; go_must (refine wpList_append_own_at _ rfl (.tmp 46) (.tmp 47) 36 rfl w.heap.size 3 i0 (.int .i64 0) 1 8 Try.underlying36 hi hz0 hz1 hz2 rfl (by decide) v2 k (rowV ((ordT L n i).take k)) ?d0 HO2'.out ⟨g1, 0, none⟩ (1 + (i - k)) c1' ([.int .i64 (i : Int)] ++ rowV ((ordT L n i).drop k)) ?d1 ?d2 ?d3 ?d4 ?d5 ?d6 ?d7 ?_))
              case d0 => rfl
              case d1 => rfl
              case d2 => simp only [List.length_append, length_rowV, List.length_drop, HLen.out, List.length_singleton]; omega
              case d3 =>
                intro j u hu
                rw [HB2'.out.cell (p := (⟨g1, 0, none⟩ : Addr).add j) (by rw [add_off]; exact hg1w)]
                exact HO1.out.cells (g := g1) rfl j u hu
              case d4 =>
                intro u hu
                rcases List.mem_append.1 hu with hu | hu
                · simp only [List.mem_singleton] at hu; subst hu; rfl
                · exact rowV_one _ u hu
              case d5 => unfold maxLen; omega
              case d6 => omega
              case d7 => omega
              intro v3 w3 hown3 hg3 _ _
              have hb3 : Below w1.heap.size w2 w3 := (Below.refl _ _).grown hg3 (by omega) HV2.out
              have hro : RO L n w (i + 1) v3 w3 := by
                have e : rowV (ordT L n (i + 1)) = rowV ((ordT L n i).take k) ++ Value.int .i64 (i : Int) :: rowV ((ordT L n i).drop k) := by
                  rw [HN.out]; unfold rowV; simp
                have e2 : k + (1 + (i - k)) = i + 1 := by omega
                rw [← e, e2] at hown3
                obtain ⟨g3, c3, rfl, h3, h4⟩ := own_form hown3 (by omega)
                refine ⟨g3, c3, rfl, ?_, hown3, ?_⟩
                · rcases hown3.2 with ⟨h, _⟩ | ⟨_, cc, _, h, _, _, hc, _⟩
                  · cases h
                  · injection h with _ _ h5; omega
                · exact (HB2.out.trans (HB1.out.mono hWs)).trans ((HB2'.out.mono (by omega)).trans (hb3.mono (by omega)))
              have HRO := Lib.hid hro
              clear hown3 hg3 hb3 hro
              go_wp2
              go_roundw
              case rel => exact ⟨i + 1, by omega, by go_num, HRO.out⟩
              case measure => simp [intOf]; omega
            · go_wp2_with (at_builtin; go_must (refine wpList_append_own_at _ rfl (.tmp 37) (.tmp 40) 36 rfl w.heap.size 3 i0 (.int .i64 0) 1 8 Try.underlying36 hi hz0 hz1 hz2 rfl (by decide) (.slice (some ⟨W.heap.size, 0, none⟩) 1 1) 1 [.int .i64 (i : Int)] rfl ?a1 ⟨g, k, none⟩ (i - k) (c - k) (rowV ((ordT L n i).drop k)) rfl ?a2 ?a3 ?a4 ?a5 ?a6 ?a7 ?_))
              case a1 => exact World.ownsRow_lit W #[.int .i64 (i : Int)] 1 hWs (by unfold maxLen; omega) rfl
              case a2 => rw [length_rowV, List.length_drop, HLen.out]; omega
              case a3 => intro j u hu; rw [add_off]; exact HS1.out j u _ hu ((Below.refl _ _).alloc (Nat.le_refl _) _)
              case a4 => exact rowV_one _
              case a5 => unfold maxLen; omega
              case a6 => omega
              case a7 => simp only [World.size_alloc]; omega
              intro v1 w1 hown1 hg1 _ hat1
              have hb1 : Below W.heap.size W w1 := ((Below.refl _ _).alloc (Nat.le_refl _) _).grown hg1 (by simp) (by simp [Value.ownBlock])
              obtain ⟨g1, c1', rfl, hg1b, hg1w⟩ := own_form hown1 (by omega)
              have HO1 := Lib.hid hown1
              have HB1 := Lib.hid hb1
              have hs1 := hb1.size
              clear hown1 hg1 hat1 hb1
              go_wp2_with (at_builtin; go_must (refine wpList_append_own_at _ rfl (.tmp 42) (.tmp 45) 36 rfl w.heap.size 3 i0 (.int .i64 0) 1 8 Try.underlying36 hi hz0 hz1 hz2 rfl (by decide) (.slice (some ⟨w1.heap.size, 0, none⟩) 0 0) 0 [] rfl ?b1 ⟨g, 0, none⟩ k c (rowV ((ordT L n i).take k)) rfl ?b2 ?b3 ?b4 ?b5 ?b6 ?b7 ?_))
              case b1 => exact World.ownsRow_lit w1 #[] 0 (by omega) (by unfold maxLen; omega) rfl
              case b2 => rw [length_rowV, List.length_take, HLen.out]; omega
              case b3 => intro j u hu; rw [add_off, Nat.zero_add]; exact HS2.out j u _ hu (HB1.out.alloc hs1 _)
              case b4 => exact rowV_one _
              case b5 => unfold maxLen; omega
              case b6 => omega
              case b7 => simp only [World.size_alloc]; omega
              intro v2 w2 hown2 hg2 _ hat2
              have hb2 : Below w1.heap.size w1 w2 := ((Below.refl _ _).alloc (Nat.le_refl _) _).grown hg2 (by simp) (by simp [Value.ownBlock])
              have hv2 : ∀ q, v2.ownBlock = some q → w1.heap.size ≤ q := by
                intro q hq
                rcases hat2 with e | e
                · rw [e] at hq; simp [Value.ownBlock] at hq; omega
                · rw [e] at hq; simp at hq; omega
              have HO2' := Lib.hid hown2
              have HB2' := Lib.hid hb2
              have HV2 := Lib.hid hv2
              have hs2 := hb2.size
              clear hown2 hg2 hat2 hb2 hv2
              go_wp2_with (at_builtin; go_must (refine wpList_append_own_at _ rfl (.tmp 46) (.tmp 47) 36 rfl w.heap.size 3 i0 (.int .i64 0) 1 8 Try.underlying36 hi hz0 hz1 hz2 rfl (by decide) v2 k (rowV ((ordT L n i).take k)) ?d0 HO2'.out ⟨g1, 0, none⟩ (1 + (i - k)) c1' ([.int .i64 (i : Int)] ++ rowV ((ordT L n i).drop k)) ?d1 ?d2 ?d3 ?d4 ?d5 ?d6 ?d7 ?_))
              case d0 => rfl
              case d1 => rfl
              case d2 => simp only [List.length_append, length_rowV, List.length_drop, HLen.out, List.length_singleton]; omega
              case d3 =>
                intro j u hu
                rw [HB2'.out.cell (p := (⟨g1, 0, none⟩ : Addr).add j) (by rw [add_off]; exact hg1w)]
                exact HO1.out.cells (g := g1) rfl j u hu
              case d4 =>
                intro u hu
                rcases List.mem_append.1 hu with hu | hu
                · simp only [List.mem_singleton] at hu; subst hu; rfl
                · exact rowV_one _ u hu
              case d5 => unfold maxLen; omega
              case d6 => omega
              case d7 => omega
              intro v3 w3 hown3 hg3 _ _
              have hb3 : Below w1.heap.size w2 w3 := (Below.refl _ _).grown hg3 (by omega) HV2.out
              have hro : RO L n w (i + 1) v3 w3 := by
                have e : rowV (ordT L n (i + 1)) = rowV ((ordT L n i).take k) ++ Value.int .i64 (i : Int) :: rowV ((ordT L n i).drop k) := by
                  rw [HN.out]; unfold rowV; simp
                have e2 : k + (1 + (i - k)) = i + 1 := by omega
                rw [← e, e2] at hown3
                obtain ⟨g3, c3, rfl, h3, h4⟩ := own_form hown3 (by omega)
                refine ⟨g3, c3, rfl, ?_, hown3, ?_⟩
                · rcases hown3.2 with ⟨h, _⟩ | ⟨_, cc, _, h, _, _, hc, _⟩
                  · cases h
                  · injection h with _ _ h5; omega
                · exact (HB2.out.trans (HB1.out.mono hWs)).trans ((HB2'.out.mono (by omega)).trans (hb3.mono (by omega)))
              have HRO := Lib.hid hro
              clear hown3 hg3 hb3 hro
              go_wp2
              go_roundw
              case rel => exact ⟨i + 1, by omega, by go_num, HRO.out⟩
              case measure => simp [intOf]; omega
    · have hltz : ¬ (i : Int) < (n : Int) := by omega
      obtain rfl : i = n := by omega
      have HRO := Lib.hid hro
      clear hro
      obtain ⟨g, c, rfl, hgc⟩ : ∃ g c, u3 = .slice (some ⟨g, 0, none⟩) i c ∧ Hid (wr.ownsRow w.heap.size 3 1 (.slice (some ⟨g, 0, none⟩) i c) i (rowV (ordT L i i)) ∧ Below w.heap.size w wr) := by
        obtain ⟨g, c, h1, _, h2, h3⟩ := HRO.out
        exact ⟨g, c, h1, by rw [h1] at h2; exact ⟨h2, h3⟩⟩
      clear HRO
      go_wp2
      go_ret
      refine ⟨g, c, rfl, (hgc.out.1.lt g rfl).1, fun k hk => ?_, hgc.out.2⟩
      rw [hgc.out.1.cellAt k (by omega)]
      exact rowV_get L i i k hk

end Go.Proofs.Ytpfcdpmpfgdnaaa
