/-
  PROVED HERE: PlanDue of the statements answers true. what the closure 'weight' and the function 'to' of PlanOrder compute. plain facts on the order of what is due, for PlanOrder. plain facts on PlanOrder's table of what is wanted: from the ids of what is due to their places; and on taking them out. what PlanOrder's loops know of memory. what PlanOrder knows of memory when an entry was laid. what PlanOrder knows of memory when an entry's place in the table was settled, and when the entry was appended. what PlanOrder's last loop knows: of the order, and of the table from which places are taken out. plain facts on domains in great letters; rows of bools in memory, and such a row that came in; rules that came in, once more.
-/
import Derived.Test.YtocjjfjcepflnaaDoorAwk
import Derived.Test.YtocjjfjcepflnaaDoorRDue
import Derived.Deep.QuietTactic
import Derived.Test.YtocjjfjcepflnaaDoorPdu
import Derived.Maps.RangeWalk
import Derived.Maps.OwnSet
import Derived.WalkArith
import Derived.Test.YtocjjfjcepflnaaDoorLiftB
import Derived.Deep.Grids
set_option linter.unusedVariables false
namespace Go.Proofs.YtocjjfjcepflnaaDoor
open Go.RowKit
theorem own_form {W : World} {base e size : Nat} {v : Value} {n : Nat} {xs : List Value} (h : W.ownsRow base e size v n xs) : ∃ a c, v = .slice a n c ∧ (0 < n → ∃ g, a = some ⟨g, 0, none⟩ ∧ g < W.heap.size ∧ ∀ j u, xs[j]? = some u → W.cell? ⟨g, j, none⟩ = some u) := by
  have h0 := h
  rcases h.2 with ⟨e, e2⟩ | ⟨g, cc, _, e, _, _, hc, _⟩
  · subst e
    obtain rfl : n = 0 := by omega
    exact ⟨none, 0, rfl, fun q => absurd q (Nat.lt_irrefl _)⟩
  · subst e
    refine ⟨_, _, rfl, fun _ => ⟨g, rfl, (h0.lt g rfl).2, fun j u hu => ?_⟩⟩
    have q := h0.cells rfl j u hu
    rw [add_off, Nat.zero_add] at q
    exact q

set_option maxRecDepth 100000 in
set_option maxHeartbeats 8000000 in
theorem due_law (A : Option Addr) (n c : Nat) (F : Nat → En) (G : Nat → Nat → To3) (A2 : Option Addr) (nw c2 : Nat) (h : Nat → UInt64) (now : Int) (m : Int) (w : World) (hE : Ens w A n F) (hT : ∀ k, k < n → Tos w (F k).A (F k).n (G k)) (hW : Wds w A2 nw h) (hn : n ≤ 4611686018427387904) (hnw : nw ≤ 4611686018427387904) (hm : w.cell? ⟨0, 0, none⟩ = some (.int .i64 m)) :
    Calls Tryd.prog 5 #[.slice A n c, .slice A2 nw c2, .int .u64 now] w fun e w' => e = .returned (.bool true) ∧ Below w.heap.size w w' := by
  have HA := Lib.hid (awake_any m w hm)
  have HR := Lib.hid @rdue_any
  have HE := Lib.hid hE
  have HT := Lib.hid hT
  have HW := Lib.hid hW
  clear hE hT hW hm
  go_enter Tryd.func5, Tryd.ntmps5
  go_wp2_with fail
  refine HA.out.mono ?_
  rintro e w1 ⟨rfl, h1⟩
  have H1 := Lib.hid h1
  have HE1 := Lib.hid (ens_below HE.out h1)
  have HW1 := Lib.hid (wds_below HW.out h1)
  have HT1 := Lib.hid (fun k hk => tos_below (HT.out k hk) h1)
  clear h1
  by_cases h60 : 60 < n
  · have h60z : (60 : Int) < (n : Int) := by omega
    go_wp2_with fail
    go_ret
    exact ⟨rfl, H1.out⟩
  have h60z : ¬ (60 : Int) < (n : Int) := by omega
  by_cases h100 : 100 < nw
  · have h100z : (100 : Int) < (nw : Int) := by omega
    go_wp2_with fail
    go_ret
    exact ⟨rfl, H1.out⟩
  have h100z : ¬ (100 : Int) < (nw : Int) := by omega
  go_wp2_with fail
  go_loop [23] (fun u => ∃ k : Nat, u = .int .i64 k ∧ k ≤ n ∧ Hid (∀ j, j < k → (F j).n ≤ 20)) (fun u => n - (intOf u).toNat)
  case atStart => exact ⟨0, rfl, by omega, fun j hj => absurd hj (Nat.not_lt_zero _)⟩
  case round =>
    obtain ⟨k, rfl, hk, HK⟩ := hrel
    by_cases hlt : k < n
    · have hltz : (k : Int) < (n : Int) := by omega
      obtain ⟨b1, o1, rfl, t0, t1, t2, t3, t4, t5, t6, t7, t8, t9⟩ := HE1.out k hlt
      have HKK : Hid ((F k).n ≤ 20 → ∀ j, j < k + 1 → (F j).n ≤ 20) := fun q j hj => by
        by_cases e : j = k
        · rw [e]; exact q
        · exact HK.out j (by omega)
      by_cases h20 : 20 < (F k).n
      · have h20z : (20 : Int) < ((F k).n : Int) := by omega
        clear HKK
        generalize F k = x at *
        go_wp2_with fail
        go_ret
        exact ⟨rfl, H1.out⟩
      · have h20z : ¬ (20 : Int) < ((F k).n : Int) := by omega
        have HK2 := Lib.hid (HKK.out (by omega))
        clear HKK
        generalize hfk : F k = x at *
        clear hfk
        go_wp2_with fail
        go_round
        case rel => exact ⟨k + 1, by go_num, by omega, HK2⟩
        case measure => simp [intOf]; omega
    · have hltz : ¬ (k : Int) < (n : Int) := by omega
      obtain rfl : k = n := by omega
      have HN : Hid (∀ j, j < k → (F j).n ≤ 4611686018427387904) := fun j hj => by have := HK.out j hj; omega
      have CD := Lib.hid (due_any A k c F G A2 nw c2 h now w1 HE1.out HT1.out HN.out HW1.out (by omega) (by omega))
      have CR : Hid (∀ W, Below w1.heap.size w1 W → Calls Tryd.prog 25 #[.slice A k c, .slice A2 nw c2, .int .u64 now] W fun e w' => (∃ v, e = .returned v ∧ w'.ownsRow W.heap.size 36 1 v (lstI F G nw h now k).length ((lstI F G nw h now k).map fun i => .int .u64 (F i).id)) ∧ Below W.heap.size W w') := fun W b =>
        HR.out A k c F G A2 nw c2 h now W (ens_below HE1.out b) (fun j hj => tos_below (HT1.out j hj) b) HN.out (wds_below HW1.out b) (by omega) (by omega)
      rw [dueR_ids, ← lstI_len] at CD
      have hLk : (lstI F G nw h now k).length ≤ k := by
        have q := dueT_len F G nw h now k
        rw [← lstI_len] at q
        exact q
      obtain ⟨M, hM⟩ : ∃ M : List Int, M = (lstI F G nw h now k).map (fun i => (F i).id) := ⟨_, rfl⟩
      have hM1 : (lstI F G nw h now k).length = M.length := by rw [hM, List.length_map]
      have hM2 : (lstI F G nw h now k).map (fun i => Value.int .u64 (F i).id) = M.map fun z => Value.int .u64 z := by rw [hM, List.map_map]; rfl
      rw [hM1, hM2] at CD CR
      rw [hM1] at hLk
      clear hM hM1 hM2 HE HT HW HE1 HT1 HW1 HR HA HK HN
      go_wp2_with fail
      refine CD.out.mono ?_
      rintro e w2 ⟨⟨v2, rfl, o2⟩, b2⟩
      have HO2 := Lib.hid o2
      have HB2 := Lib.hid b2
      clear o2 b2
      have CR2 := Lib.hid (CR.out w2 HB2.out)
      clear CR CD
      go_wp2_with fail
      refine CR2.out.mono ?_
      rintro e w3 ⟨⟨v3, rfl, o3⟩, b3⟩
      have HB3 : Hid (Below w.heap.size w w3) := (H1.out.trans (HB2.out.mono H1.out.size)).trans (b3.mono (by have := H1.out.size; have := HB2.out.size; omega))
      obtain ⟨a2, c2', rfl, F2⟩ := own_form (own_below HO2.out b3)
      obtain ⟨a3, c3', rfl, F3⟩ := own_form o3
      have HF2 := Lib.hid F2
      have HF3 := Lib.hid F3
      clear F2 F3 o3 b3 HO2 HB2 CR2
      go_wp2_with fail
      go_loopw [49] (fun u wr => ∃ j : Nat, u = .int .i64 j ∧ j ≤ M.length ∧ Hid (Below w3.heap.size w3 wr)) (fun u _ => M.length - (intOf u).toNat)
      case atStart => exact ⟨0, rfl, by omega, Below.refl _ _⟩
      case round =>
        obtain ⟨j, rfl, hj, HQ⟩ := hrel
        by_cases hjl : j < M.length
        · have hjz : (j : Int) < (M.length : Int) := by omega
          obtain ⟨g2, rfl, gl2, f2⟩ := HF2.out (by omega)
          obtain ⟨g3, rfl, gl3, f3⟩ := HF3.out (by omega)
          have e : (M.map fun z => Value.int .u64 z)[j]? = some (.int .u64 M[j]) := by rw [List.getElem?_map, List.getElem?_eq_getElem hjl]; rfl
          have d2 : wr.cell? ⟨g2, j, none⟩ = some (.int .u64 M[j]) := by rw [HQ.out.cell (p := ⟨g2, j, none⟩) gl2]; exact f2 _ _ e
          have d3 : wr.cell? ⟨g3, j, none⟩ = some (.int .u64 M[j]) := by rw [HQ.out.cell (p := ⟨g3, j, none⟩) gl3]; exact f3 _ _ e
          have HNX := Lib.hid (fun q => HQ.out.trans ((below_drewN (Below.refl wr.heap.size wr) q).mono HQ.out.size))
          clear e f2 f3
          generalize M[j] = z at *
          go_wp2_with fail
          go_quiet (fail)
          go_wp2
          go_roundw
          case rel => exact ⟨j + 1, by go_num, by omega, HNX.out _⟩
          case measure => simp [intOf]; omega
        · have hjz : ¬ (j : Int) < (M.length : Int) := by omega
          go_wp2_with fail
          go_ret
          exact ⟨rfl, HB3.out.trans (HQ.out.mono HB3.out.size)⟩
theorem planDue_any (m : Int) (A : Option Addr) (n c : Nat) (F : Nat → En) (G : Nat → Nat → To3) (A2 : Option Addr) (nw c2 : Nat) (h : Nat → UInt64) (now : Int) (w : World) (hm : w.cell? ⟨0, 0, none⟩ = some (.int .i64 m)) (hE : Ens w A n F) (hT : ∀ k, k < n → Tos w (F k).A (F k).n (G k)) (hn : n ≤ reachBytes) (hW : Wds w A2 nw h) (hnw : nw ≤ reachBytes) (_ : (Lit.int .u64 now).wf) :
    Calls Tryd.prog 5 #[.slice A n c, .slice A2 nw c2, .int .u64 now] w fun e w' => e = .returned (.bool true) ∧ Below w.heap.size w w' := due_law A n c F G A2 nw c2 h now m w hE hT hW (Nat.le_trans hn (by decide +kernel)) (Nat.le_trans hnw (by decide +kernel)) hm
end Go.Proofs.YtocjjfjcepflnaaDoor
set_option linter.unusedVariables false
namespace Go.Proofs.YtocjjfjcepflnaaDoor
open Go.RowKit
set_option maxRecDepth 100000 in
theorem weight_any (A2 : Option Addr) (nw c2 : Nat) (h : Nat → UInt64) (B i : Nat) (w : World) (hB : w.cell? ⟨B, 0, none⟩ = some (.slice A2 nw c2)) (hW : Wds w A2 nw h) :
    Calls Tryd.prog 28 #[.int .i64 i, .pointer (some ⟨B, 0, none⟩)] w fun e w' => e = .returned (.int .u64 ((Qw nw h i).toNat : Int)) ∧ w = w' := by
  have HW := Lib.hid hW
  clear hW
  go_enter Tryd.func28, Tryd.ntmps28
  by_cases hi : i < nw
  · have hiz : (i : Int) < (nw : Int) := by omega
    obtain ⟨b, o, rfl, u0⟩ := HW.out i hi
    have HQ : Hid (Qw nw h i = h i) := if_pos hi
    generalize Qw nw h i = q at *
    generalize h i = z at *
    go_wp2_with fail
    go_ret
    exact ⟨by rw [HQ.out]; rfl, rfl⟩
  · have hiz : ¬ (i : Int) < (nw : Int) := by omega
    have HQ : Hid (Qw nw h i = 0) := if_neg hi
    generalize Qw nw h i = q at *
    go_wp2_with fail
    go_ret
    exact ⟨by rw [HQ.out]; rfl, rfl⟩
set_option maxRecDepth 100000 in
theorem to_at (w : World) : Calls Tryd.prog 27 #[] w fun e w' => e = .returned (.slice (some ⟨w.heap.size, 0, none⟩) 1 1) ∧ w.alloc (.cells #[.string ⟨#[120]⟩, .string ⟨#[99]⟩, .int .i64 0] 59) = w' := by
  go_enter Tryd.func27, Tryd.ntmps27
  go_wp2_with fail
  go_ret
  exact ⟨rfl, rfl⟩
end Go.Proofs.YtocjjfjcepflnaaDoor
set_option linter.unusedVariables false
namespace Go.Proofs.YtocjjfjcepflnaaDoor
open Go.RowKit Go.Sort
section
variable (F : Nat → En) (G : Nat → Nat → To3) (nw : Nat) (h : Nat → UInt64) (now : Int)
theorem lstI_mem (k i : Nat) : i ∈ lstI F G nw h now k ↔ i < k ∧ pdB F G now i = true := by
  unfold lstI
  rw [(Stb.isort_perm (lt := ltI F nw h) _).mem_iff, List.mem_filter, List.mem_range]
theorem lstI_nodup (k : Nat) : (lstI F G nw h now k).Nodup := by
  unfold lstI
  rw [(Stb.isort_perm (lt := ltI F nw h) _).nodup_iff]
  exact List.Nodup.sublist List.filter_sublist List.nodup_range
theorem lstI_count (k : Nat) : (lstI F G nw h now k).length = ((List.range k).filter (pdB F G now)).length := by
  unfold lstI
  rw [Stb.length_isort]
/-- What PlanOrder asks of two that stand side by side. -/
theorem lstI_ord (k : Nat) (hid : ∀ i, i < k → (F i).id = (i : Int) + 1) (q : Nat) (hq : q + 1 < (lstI F G nw h now k).length) :
    let a := (lstI F G nw h now k)[q]'(by omega)
    let b := (lstI F G nw h now k)[q + 1]
    Wgh.cmpW (Qw nw h a).toNat (Qw nw h b).toNat ≤ 0 ∧ (Wgh.cmpW (Qw nw h a).toNat (Qw nw h b).toNat = 0 → (F a).next ≤ (F b).next ∧ ((F a).next = (F b).next → a < b)) := by
  intro a b
  have hs := Stb.sorted_isort (ltI_swo F nw h) ((List.range k).filter (pdB F G now))
  have hp : ltI F nw h b a = false := List.pairwise_iff_getElem.1 hs q (q + 1) (by show q < (lstI F G nw h now k).length; omega) hq (by omega)
  have hn : a ≠ b := fun e => by
    have := List.pairwise_iff_getElem.1 (lstI_nodup F G nw h now k) q (q + 1) (by omega) hq (by omega)
    exact this e
  have ha := hid a (lstI_lt F G nw h now k a (List.getElem_mem _))
  have hb := hid b (lstI_lt F G nw h now k b (List.getElem_mem _))
  have hd := dw_less (dwOf (F b) (Qw nw h b)) (dwOf (F a) (Qw nw h a))
  unfold ltI at hp
  rw [hp] at hd
  have hd2 : ¬ (Wgh.wt (Qw nw h b).toNat < Wgh.wt (Qw nw h a).toNat ∨ (Wgh.wt (Qw nw h b).toNat = Wgh.wt (Qw nw h a).toNat ∧ ((F b).next < (F a).next ∨ ((F b).next = (F a).next ∧ (F b).id < (F a).id)))) := fun e => Bool.false_ne_true (hd.2 e)
  generalize a = a at *
  generalize b = b at *
  unfold Wgh.cmpW
  split
  · constructor
    · omega
    · intro q; omega
  · split
    · exact absurd (Or.inl (by assumption)) hd2
    · refine ⟨Int.le_refl _, fun _ => ⟨?_, fun e => ?_⟩⟩
      · omega
      · omega
end
end Go.Proofs.YtocjjfjcepflnaaDoor
set_option linter.unusedVariables false
namespace Go.Proofs.YtocjjfjcepflnaaDoor
open Go.RowKit Go.Maps Go.ChangeMaps
abbrev idK (i : Nat) : Lit := .int .u64 ((i : Int) + 1)
theorem idK_ne {i j : Nat} (h : i ≠ j) : idK i ≠ idK j := fun e => by
  unfold idK at e
  injection e with _ e2
  omega
theorem key_id (i : Nat) : WideAt.IsKeyLit (idK i) := by constructor
/-- What is wanted of the first k. -/
def wnt (p : Nat → Bool) : Nat → DataW Unit
  | 0 => .map []
  | k + 1 => if p k = true then (wnt p k).put (idK k) (.lit (.int .i64 k)) else wnt p k
theorem wnt_tidy (p : Nat → Bool) : ∀ k, Tidy (wnt p k)
  | 0 => tidy_empty
  | k + 1 => by
    rw [wnt]
    split
    · exact (wnt_tidy p k).put (key_id _) _
    · exact wnt_tidy p k
theorem wnt_past (p : Nat → Bool) (i : Nat) : ∀ k, k ≤ i → Maps.has (wnt p k) (idK i) = false
  | 0, _ => rfl
  | k + 1, h => by
    rw [wnt]
    split
    · rw [has_put_other (idK_ne (by omega)), wnt_past p i k (by omega)]
    · exact wnt_past p i k (by omega)
theorem wnt_has (p : Nat → Bool) (i : Nat) : ∀ k, i < k → Maps.has (wnt p k) (idK i) = p i
  | k + 1, h => by
    by_cases e : i = k
    · subst e
      rw [wnt]
      cases hp : p i with
      | true => rw [if_pos rfl, has_put_same (wnt_tidy p i).isMap (key_id _)]
      | false => rw [if_neg Bool.false_ne_true, wnt_past p i i (Nat.le_refl _)]
    · rw [wnt]
      split
      · rw [has_put_other (idK_ne e), wnt_has p i k (by omega)]
      · exact wnt_has p i k (by omega)
theorem wnt_at (p : Nat → Bool) (i : Nat) (z : DataW Unit) (hp : p i = true) : ∀ k, i < k → (wnt p k).atKey (idK i) z = .lit (.int .i64 i)
  | k + 1, h => by
    by_cases e : i = k
    · subst e
      rw [wnt, if_pos hp, atKey_put_same (wnt_tidy p i).isMap (key_id _)]
    · rw [wnt]
      split
      · rw [atKey_put_other (idK_ne e), wnt_at p i z hp k (by omega)]
      · exact wnt_at p i z hp k (by omega)
theorem wnt_size (p : Nat → Bool) : ∀ k, Maps.size (wnt p k) = ((List.range k).filter p).length
  | 0 => rfl
  | k + 1 => by
    rw [wnt, List.range_succ, List.filter_append, List.length_append, ← wnt_size p k]
    cases hp : p k with
    | true =>
      rw [if_pos rfl, size_put (wnt_tidy p k), wnt_past p k k (Nat.le_refl _), List.filter_cons_of_pos hp]
      rfl
    | false =>
      rw [if_neg Bool.false_ne_true, List.filter_cons_of_neg (by rw [hp]; exact Bool.false_ne_true)]
      rfl
/-- What is left when some were taken out. -/
def lft (D : DataW Unit) : List Nat → DataW Unit
  | [] => D
  | i :: l => (lft D l).del (idK i)
theorem lft_has (D : DataW Unit) (i : Nat) : ∀ l : List Nat, i ∉ l → Maps.has (lft D l) (idK i) = Maps.has D (idK i)
  | [], _ => rfl
  | j :: l, h => by
    rw [lft, has_del_other (idK_ne (fun e => h (by rw [e]; exact List.mem_cons_self ..))), lft_has D i l (fun e => h (List.mem_cons_of_mem _ e))]
theorem lft_at (D : DataW Unit) (i : Nat) (z : DataW Unit) : ∀ l : List Nat, i ∉ l → (lft D l).atKey (idK i) z = D.atKey (idK i) z
  | [], _ => rfl
  | j :: l, h => by
    rw [lft, atKey_del_other (idK_ne (fun e => h (by rw [e]; exact List.mem_cons_self ..))), lft_at D i z l (fun e => h (List.mem_cons_of_mem _ e))]
/-- The table behind the first q of the list were taken out. -/
def lftT (p : Nat → Bool) (n : Nat) (L : List Nat) (q : Nat) : DataW Unit := lft (wnt p n) (L.take q).reverse
theorem lftT_zero (p : Nat → Bool) (n : Nat) (L : List Nat) : lftT p n L 0 = wnt p n := rfl
theorem lftT_succ (p : Nat → Bool) (n : Nat) (L : List Nat) (q : Nat) (hq : q < L.length) : lftT p n L (q + 1) = (lftT p n L q).del (idK L[q]) := by
  unfold lftT
  rw [List.take_succ_eq_append_getElem hq, List.reverse_append]
  rfl
theorem not_before {L : List Nat} (hd : L.Nodup) (q : Nat) (hq : q < L.length) : L[q] ∉ (L.take q).reverse := fun h => by
  rw [List.mem_reverse] at h
  obtain ⟨j, hj, e⟩ := List.getElem_of_mem h
  rw [List.length_take] at hj
  rw [List.getElem_take] at e
  exact absurd e (List.pairwise_iff_getElem.1 hd j q (by omega) hq (by omega))
theorem lftT_here (p : Nat → Bool) (n : Nat) (L : List Nat) (hd : L.Nodup) (hL : ∀ i ∈ L, i < n ∧ p i = true) (q : Nat) (hq : q < L.length) (z : DataW Unit) :
    Maps.has (lftT p n L q) (idK L[q]) = true ∧ (lftT p n L q).atKey (idK L[q]) z = .lit (.int .i64 (L[q] : Nat)) := by
  obtain ⟨h1, h2⟩ := hL _ (List.getElem_mem hq)
  have h3 := not_before hd q hq
  unfold lftT
  rw [lft_has _ _ _ h3, lft_at _ _ _ _ h3, wnt_has p _ n h1, wnt_at p _ z h2 n h1]
  exact ⟨h2, rfl⟩
end Go.Proofs.YtocjjfjcepflnaaDoor
set_option linter.unusedVariables false
namespace Go.Proofs.YtocjjfjcepflnaaDoor
open Go.RowKit Go.Maps Go.ChangeMaps
/-- The entry number i that PlanOrder lays. -/
abbrev foE (T : Nat → Nat) (nx : Nat → UInt64) (i : Nat) : En := ⟨(i : Int) + 1, [], 0, 0, [], [], some ⟨T i, 0, none⟩, 1, 1, 0, ((nx i).toNat : Int), 0⟩
abbrev toX (st : Int) : Array Value := #[.string ⟨#[120]⟩, .string ⟨#[99]⟩, .int .i64 st]
abbrev foG (st : Nat → Int) (i : Nat) : Nat → To3 := fun _ => ⟨[120], [99], st i⟩
def foL (T : Nat → Nat) (nx : Nat → UInt64) (k : Nat) : List Value := (List.range k).flatMap fun i => (enA (foE T nx i)).toList
theorem foL_succ (T : Nat → Nat) (nx : Nat → UInt64) (k : Nat) : foL T nx (k + 1) = foL T nx k ++ (enA (foE T nx k)).toList := by
  unfold foL
  rw [List.range_succ, List.flatMap_append, List.flatMap_cons, List.flatMap_nil, List.append_nil]
theorem foL_same {T T1 : Nat → Nat} (nx : Nat → UInt64) {k : Nat} (h : ∀ i, i < k → T i = T1 i) : foL T nx k = foL T1 nx k := by
  induction k with
  | zero => rfl
  | succ k ih =>
    rw [foL_succ, foL_succ, ih (fun i hi => h i (by omega))]
    unfold foE
    rw [h k (by omega)]
/-- What the loop that lays the entries knows. -/
structure Po (w : World) (BX MB : Nat) (A2 : Option Addr) (nw c2 : Nat) (st : Nat → Int) (T : Nat → Nat) (p : Nat → Bool) (nx : Nat → UInt64) (k : Nat) (v : Value) (W : World) : Prop where
  row : W.ownsRow w.heap.size 41 10 v k (foL T nx k)
  tos : ∀ i, i < k → w.heap.size ≤ T i ∧ W.heap[T i]? = some (.cells (toX (st i)) 59 (0, 0))
  map : W.ownsMap Tryd.prog 36 (plainElem Tryd.prog 3) MB k (wnt p k)
  box : W.heap[BX]? = some (.cells #[.slice A2 nw c2] 49 (0, 0))
  bel : Below w.heap.size w W
theorem map_below {W W1 : World} {k : TypeId} {R : Value → Option (DataW Unit × List MemPlace)} {b n : Nat} {D : DataW Unit} (h : W.ownsMap Tryd.prog k R b n D) (g : Below W.heap.size W W1) : W1.ownsMap Tryd.prog k R b n D := by
  obtain ⟨es, cl, h1, h2⟩ := h
  exact ⟨es, cl, (g.block _ (Array.getElem?_eq_some_iff.1 h1).1).trans h1, h2⟩
theorem po_next {w W W1 : World} {BX MB : Nat} {A2 : Option Addr} {nw c2 : Nat} {st : Nat → Int} {T : Nat → Nat} {p : Nat → Bool} {nx : Nat → UInt64} {k : Nat} {v : Value} (h : Po w BX MB A2 nw c2 st T p nx k v W) (g : Below W.heap.size W W1) : Po w BX MB A2 nw c2 st T p nx k v W1 :=
  ⟨own_below h.row g, fun i hi => ⟨(h.tos i hi).1, (g.block _ (Array.getElem?_eq_some_iff.1 (h.tos i hi).2).1).trans (h.tos i hi).2⟩, map_below h.map g, (g.block _ (Array.getElem?_eq_some_iff.1 h.box).1).trans h.box, h.bel.trans (g.mono h.bel.size)⟩
theorem po_form {w W : World} {BX MB : Nat} {A2 : Option Addr} {nw c2 : Nat} {st : Nat → Int} {T : Nat → Nat} {p : Nat → Bool} {nx : Nat → UInt64} {k : Nat} {v : Value} (h : Po w BX MB A2 nw c2 st T p nx k v W) : ∃ a c, v = .slice a k c ∧ Ens W a k (foE T nx) := by
  obtain ⟨a, c, e, F⟩ := own_form h.row
  refine ⟨a, c, e, fun i hi => ?_⟩
  obtain ⟨g, rfl, gl, f⟩ := F (by omega)
  have key : ∀ j u, j < 10 → (enA (foE T nx i)).toList[j]? = some u → W.cell? ⟨g, i * 10 + j, none⟩ = some u := fun j u hj hu => by
    refine f _ _ ?_
    unfold foL
    rw [flat_at (fun i => (enA (foE T nx i)).toList) 10 (fun _ => rfl) (List.range k) i (by rw [List.length_range]; exact hi) j hj, List.getElem_range]
    exact hu
  refine ⟨g, 0, rfl, ?_⟩
  rw [Nat.zero_add]
  exact ⟨key 0 _ (by decide) rfl, key 1 _ (by decide) rfl, key 2 _ (by decide) rfl, key 3 _ (by decide) rfl, key 4 _ (by decide) rfl, key 5 _ (by decide) rfl, key 6 _ (by decide) rfl, key 7 _ (by decide) rfl, key 8 _ (by decide) rfl, key 9 _ (by decide) rfl⟩
theorem po_tos {w W : World} {BX MB : Nat} {A2 : Option Addr} {nw c2 : Nat} {st : Nat → Int} {T : Nat → Nat} {p : Nat → Bool} {nx : Nat → UInt64} {k : Nat} {v : Value} (h : Po w BX MB A2 nw c2 st T p nx k v W) (i : Nat) (hi : i < k) : Tos W (foE T nx i).A (foE T nx i).n (foG st i) := fun j hj => by
  have q := (h.tos i hi).2
  obtain rfl : j = 0 := by have : j < 1 := hj; omega
  refine ⟨T i, 0, rfl, ⟨?_, ?_⟩, ?_⟩
  · show W.cell? ⟨T i, 0, none⟩ = _
    rw [Lib.cell_of_heap q]; rfl
  · show W.cell? ⟨T i, 1, none⟩ = _
    rw [Lib.cell_of_heap q]; rfl
  · show W.cell? ⟨T i, 2, none⟩ = _
    rw [Lib.cell_of_heap q]; rfl
/-- What is due of them. -/
theorem po_due (T : Nat → Nat) (nx : Nat → UInt64) (st : Nat → Int) (now : Int) (i : Nat) : pdB (foE T nx) (foG st) now i = (!decide (now < ((nx i).toNat : Int)) && (st i == 0)) := by
  unfold pdB wtB
  show (!decide (now < ((nx i).toNat : Int)) && (List.range 1).any _) = _
  simp
end Go.Proofs.YtocjjfjcepflnaaDoor
set_option linter.unusedVariables false
namespace Go.Proofs.YtocjjfjcepflnaaDoor
open Go.RowKit Go.Maps Go.ChangeMaps
theorem law36 : Keyed Tryd.prog 36 := int_keyed Tryd.underlying36
theorem info41 : (Tryd.prog.info? 41).map (fun i => (i.zero, i.size, i.bytes)) = some (some (.agg #[.int .u64 0, .string ⟨#[]⟩, .int .u64 0, .int .u64 0, .string ⟨#[]⟩, .string ⟨#[]⟩, .slice none 0 0, .int .u64 0, .int .u64 0, .int .i64 0]), 10, 120) := by kernel_rfl
/-- An entry is laid at block XB, its recipients at block TB. -/
structure Pq (w : World) (BX MB : Nat) (A2 : Option Addr) (nw c2 : Nat) (st : Nat → Int) (T : Nat → Nat) (p : Nat → Bool) (nx : Nat → UInt64) (k : Nat) (v : Value) (XB TB : Nat) (z : Int) (W : World) : Prop where
  po : Po w BX MB A2 nw c2 st T p nx k v W
  eb : W.heap[XB]? = some (.cells (enA (foE (fun _ => TB) nx k)) 41 (0, 0))
  tb : W.heap[TB]? = some (.cells (toX z) 59 (0, 0))
  xw : w.heap.size ≤ XB
  tw : w.heap.size ≤ TB
  fr : ∀ i, i < k → T i < TB
section
variable {w W wr : World} {BX MB : Nat} {A2 : Option Addr} {nw c2 : Nat} {st : Nat → Int} {T : Nat → Nat} {p : Nat → Bool} {nx : Nat → UInt64} {k : Nat} {v : Value}
theorem pq_behind (h : Po w BX MB A2 nw c2 st T p nx k v wr) : Pq w BX MB A2 nw c2 st T p nx k v (wr.heap.size + 1) wr.heap.size 0 (((wr.alloc (.cells (toX 0) 59)).alloc (.cells (enA (foE (fun _ => wr.heap.size) nx k)) 41)).drew) := by
  have hs := h.bel.size
  refine ⟨po_next h (((Below.refl _ _).alloc (Nat.le_refl _) _).alloc (by simp only [World.size_alloc]; omega) _).drew, ?_, ?_, by omega, hs, fun i hi => (Array.getElem?_eq_some_iff.1 (h.tos i hi).2).1⟩
  · show ((wr.heap.push _).push _)[wr.heap.size + 1]? = _
    have e : wr.heap.size + 1 = (wr.heap.push (Obj.cells (toX 0) 59)).size := by rw [Array.size_push]
    rw [e, Array.getElem?_push_size]
  · show ((wr.heap.push _).push _)[wr.heap.size]? = _
    rw [Array.getElem?_push_lt (by rw [Array.size_push]; omega), ← Array.getElem?_eq_getElem, Array.getElem?_push_size]
theorem pq_ahead (h : Po w BX MB A2 nw c2 st T p nx k v wr) : Pq w BX MB A2 nw c2 st T p nx k v wr.heap.size (wr.heap.size + 1) 0 (((wr.alloc (.cells (enA (foE (fun _ => wr.heap.size + 1) nx k)) 41)).alloc (.cells (toX 0) 59)).drew) := by
  have hs := h.bel.size
  refine ⟨po_next h (((Below.refl _ _).alloc (Nat.le_refl _) _).alloc (by simp only [World.size_alloc]; omega) _).drew, ?_, ?_, hs, by omega, fun i hi => Nat.lt_succ_of_lt (Array.getElem?_eq_some_iff.1 (h.tos i hi).2).1⟩
  · show ((wr.heap.push _).push _)[wr.heap.size]? = _
    rw [Array.getElem?_push_lt (by rw [Array.size_push]; omega), ← Array.getElem?_eq_getElem, Array.getElem?_push_size]
  · show ((wr.heap.push _).push _)[wr.heap.size + 1]? = _
    generalize Obj.cells (enA (foE (fun _ => wr.heap.size + 1) nx k)) 41 (0, 0) = ob
    have e : wr.heap.size + 1 = (wr.heap.push ob).size := by rw [Array.size_push]
    rw [e, Array.getElem?_push_size]
end
end Go.Proofs.YtocjjfjcepflnaaDoor
set_option linter.unusedVariables false
namespace Go.Proofs.YtocjjfjcepflnaaDoor
open Go.RowKit Go.Maps Go.ChangeMaps
theorem grow_set (w : World) (b i : Nat) (v : Value) : w.grownBy (w.setCell ⟨b, i, none⟩ v) (some b) :=
  ⟨rfl, rfl, rfl, by simp [World.setCell], fun k _ hk => Below.heap_setCell _ _ _ _ (fun e => hk (by simp [e]))⟩
structure Pr (w : World) (BX MB : Nat) (A2 : Option Addr) (nw c2 : Nat) (st : Nat → Int) (T : Nat → Nat) (p : Nat → Bool) (nx : Nat → UInt64) (k : Nat) (v : Value) (XB TB : Nat) (W : World) : Prop where
  row : W.ownsRow w.heap.size 41 10 v k (foL T nx k)
  tos : ∀ i, i < k → w.heap.size ≤ T i ∧ W.heap[T i]? = some (.cells (toX (st i)) 59 (0, 0))
  tk : w.heap.size ≤ TB ∧ W.heap[TB]? = some (.cells (toX (st k)) 59 (0, 0))
  map : W.ownsMap Tryd.prog 36 (plainElem Tryd.prog 3) MB (k + 1) (wnt p (k + 1))
  box : W.heap[BX]? = some (.cells #[.slice A2 nw c2] 49 (0, 0))
  bel : Below w.heap.size w W
  eb : W.heap[XB]? = some (.cells (enA (foE (fun _ => TB) nx k)) 41 (0, 0))
theorem row_block {W : World} {b e s : Nat} {v : Value} {n : Nat} {xs : List Value} (h : W.ownsRow b e s v n xs) : ∀ g, v.ownBlock = some g → ∃ cur, W.heap[g]? = some (.cells cur e (0, 0)) := by
  intro g hg
  rcases h.2 with ⟨rfl, _⟩ | ⟨g1, cap, cur, rfl, _, hc, _⟩
  · cases hg
  · cases hg
    exact ⟨cur, hc⟩
theorem map_block {W : World} {k : TypeId} {R : Value → Option (DataW Unit × List MemPlace)} {b n : Nat} {D : DataW Unit} (h : W.ownsMap Tryd.prog k R b n D) : ∃ es cl, W.heap[b]? = some (.map es cl) := by
  obtain ⟨es, cl, h1, _⟩ := h
  exact ⟨es, cl, h1⟩
section
variable {w W W1 wr : World} {BX MB XB TB : Nat} {A2 : Option Addr} {nw c2 : Nat} {st : Nat → Int} {T : Nat → Nat} {p : Nat → Bool} {nx : Nat → UInt64} {k : Nat} {v : Value}
/-- Nothing was stored. -/
theorem pr_none (h : Pq w BX MB A2 nw c2 st T p nx k v XB TB 0 W) (hs : st k = 0) (hp : p k = false) : Pr w BX MB A2 nw c2 st T p nx k v XB TB W :=
  ⟨h.po.row, h.po.tos, ⟨h.tw, by rw [hs]; exact h.tb⟩, by rw [wnt, hp, if_neg Bool.false_ne_true]; exact h.po.map.mono (Nat.le_succ _), h.po.box, h.po.bel, h.eb⟩
/-- The place was put into the table. -/
theorem pr_put (h : Pq w BX MB A2 nw c2 st T p nx k v XB TB 0 W) (hs : st k = 0) (hp : p k = true) (hmb : w.heap.size ≤ MB) (hm : W1.ownsMap Tryd.prog 36 (plainElem Tryd.prog 3) MB (k + 1) ((wnt p k).put (idK k) (.lit (.int .i64 k)))) (hg : W.grownBy W1 (some MB)) : Pr w BX MB A2 nw c2 st T p nx k v XB TB W1 := by
  obtain ⟨es, cl, hmap⟩ := map_block h.po.map
  have keep : ∀ b o, W.heap[b]? = some o → (∀ es cl, o ≠ Obj.map es cl) → W1.heap[b]? = some o := fun b o hb ho => (hg.block b (Array.getElem?_eq_some_iff.1 hb).1 (fun e => by cases e; rw [hb] at hmap; cases hmap; exact ho _ _ rfl)).trans hb
  refine ⟨h.po.row.kept hg ?_, fun i hi => ⟨(h.po.tos i hi).1, keep _ _ (h.po.tos i hi).2 (by simp)⟩, ⟨h.tw, by rw [hs]; exact keep _ _ h.tb (by simp)⟩, ?_, keep _ _ h.po.box (by simp), h.po.bel.grown hg h.po.bel.size (fun q e => by cases e; exact hmb), keep _ _ h.eb (by simp)⟩
  · by_cases e : v.ownBlock = some MB
    · obtain ⟨cur, hc⟩ := row_block h.po.row _ e
      rw [hc] at hmap
      cases hmap
    · exact Or.inr e
  · rw [wnt, hp, if_pos rfl]
    exact hm
/-- The recipient was done. -/
theorem pr_done (h : Pq w BX MB A2 nw c2 st T p nx k v XB TB 0 W) (hs : st k = 1) (hp : p k = false) : Pr w BX MB A2 nw c2 st T p nx k v XB TB (W.setCell ⟨TB, 2, none⟩ (.int .i64 1)) := by
  have hne : ∀ b a t, W.heap[b]? = some (.cells a t (0, 0)) → t ≠ 59 → some b ≠ some TB := fun b a t hb ht e => by
    cases e
    rw [h.tb] at hb
    cases hb
    exact ht rfl
  have hg : W.grownBy (W.setCell ⟨TB, 2, none⟩ (.int .i64 1)) (some TB) := grow_set _ _ _ _
  have keep : ∀ b o, W.heap[b]? = some o → some b ≠ some TB → (W.setCell ⟨TB, 2, none⟩ (.int .i64 1)).heap[b]? = some o := fun b o hb ho => (hg.block b (Array.getElem?_eq_some_iff.1 hb).1 ho).trans hb
  refine ⟨h.po.row.kept hg ?_, fun i hi => ⟨(h.po.tos i hi).1, keep _ _ (h.po.tos i hi).2 (fun e => by cases e; exact Nat.lt_irrefl _ (h.fr i hi))⟩, ⟨h.tw, ?_⟩, ?_, keep _ _ h.po.box (hne _ _ _ h.po.box (by decide)), h.po.bel.grown hg h.po.bel.size (fun q e => by cases e; exact h.tw), keep _ _ h.eb (hne _ _ _ h.eb (by decide))⟩
  · by_cases e : v.ownBlock = some TB
    · obtain ⟨cur, hc⟩ := row_block h.po.row _ e
      exact absurd rfl (hne _ _ _ hc (by decide))
    · exact Or.inr e
  · rw [hs]
    exact Joins.block_setCell (i := 2) h.tb _
  · rw [wnt, hp, if_neg Bool.false_ne_true]
    refine (h.po.map.mono (Nat.le_succ _)).kept hg (fun e => ?_)
    obtain ⟨es, cl, hmap⟩ := map_block h.po.map
    cases e
    rw [h.tb] at hmap
    cases hmap
theorem pr_alloc (h : Pr w BX MB A2 nw c2 st T p nx k v XB TB W) (o : Obj) : Pr w BX MB A2 nw c2 st T p nx k v XB TB (W.alloc o) := by
  have g : Below W.heap.size W (W.alloc o) := (Below.refl _ _).alloc (Nat.le_refl _) _
  have keep : ∀ b o, W.heap[b]? = some o → (W.alloc _).heap[b]? = some o := fun b o hb => (g.block b (Array.getElem?_eq_some_iff.1 hb).1).trans hb
  exact ⟨own_below h.row g, fun i hi => ⟨(h.tos i hi).1, keep _ _ (h.tos i hi).2⟩, ⟨h.tk.1, keep _ _ h.tk.2⟩, map_below h.map g, keep _ _ h.box, h.bel.trans (g.mono h.bel.size), keep _ _ h.eb⟩
/-- The entry was appended. -/
theorem pr_app {v' : Value} (h : Pr w BX MB A2 nw c2 st T p nx k v XB TB W) (hown : W1.ownsRow w.heap.size 41 10 v' (k + 1) (foL T nx k ++ (enA (foE (fun _ => TB) nx k)).toList)) (hg : W.grownBy W1 v.ownBlock) : Po w BX MB A2 nw c2 st (fun i => if i = k then TB else T i) p nx (k + 1) v' W1 := by
  have keep : ∀ b o, W.heap[b]? = some o → (∀ cur, o ≠ Obj.cells cur 41 (0, 0)) → W1.heap[b]? = some o := fun b o hb ho => (hg.block b (Array.getElem?_eq_some_iff.1 hb).1 (fun e => by
    obtain ⟨cur, hc⟩ := row_block h.row b e.symm
    rw [hc] at hb
    cases hb
    exact ho _ rfl)).trans hb
  refine ⟨?_, fun i hi => ?_, h.map.kept hg (fun e => ?_), keep _ _ h.box (by simp), h.bel.grown hg h.bel.size (fun q hq => (h.row.lt q hq).1)⟩
  · rw [foL_succ, foL_same (T1 := T) nx (fun i hi => if_neg (by omega))]
    have e : foE (fun i => if i = k then TB else T i) nx k = foE (fun _ => TB) nx k := by
      unfold foE
      simp only [if_true]
    rw [e]
    exact hown
  · by_cases e : i = k
    · subst e
      rw [if_pos rfl]
      exact ⟨h.tk.1, keep _ _ h.tk.2 (by simp)⟩
    · rw [if_neg e]
      exact ⟨(h.tos i (by omega)).1, keep _ _ (h.tos i (by omega)).2 (by simp)⟩
  · obtain ⟨cur, hc⟩ := row_block h.row MB e.symm
    obtain ⟨es, cl, hmap⟩ := map_block h.map
    rw [hc] at hmap
    cases hmap
end
theorem cell_new_row (w : World) (xs : Array Value) (t : TypeId) : ∀ j u, xs.toList[j]? = some u → (w.alloc (.cells xs t)).cell? ((⟨w.heap.size, 0, none⟩ : Addr).add j) = some u := by
  intro j u h
  rw [add_off, Nat.zero_add, World.cell?_alloc_new]
  simpa using h
theorem cell_new_at (w : World) (xs : Array Value) (t : TypeId) (g : Nat) (hg : g = w.heap.size) : ∀ j u, xs.toList[j]? = some u → (w.alloc (.cells xs t)).cell? ((⟨g, 0, none⟩ : Addr).add j) = some u := by
  subst hg
  exact cell_new_row w xs t
end Go.Proofs.YtocjjfjcepflnaaDoor
set_option linter.unusedVariables false
namespace Go.Proofs.YtocjjfjcepflnaaDoor
open Go.RowKit Go.Maps Go.ChangeMaps
/-- What PlanOrder asks of two places that stand side by side. -/
def Side (nx : Nat → UInt64) (nw : Nat) (h : Nat → UInt64) (a b : Nat) : Prop :=
  Wgh.cmpW (Qw nw h a).toNat (Qw nw h b).toNat ≤ 0 ∧ (Wgh.cmpW (Qw nw h a).toNat (Qw nw h b).toNat = 0 → ((nx a).toNat : Int) ≤ ((nx b).toNat : Int) ∧ (((nx a).toNat : Int) = ((nx b).toNat : Int) → a < b))
theorem lst_facts (T : Nat → Nat) (nx : Nat → UInt64) (st : Nat → Int) (nw : Nat) (h : Nat → UInt64) (now : Int) (p : Nat → Bool) (hp : p = fun i => !decide (now < ((nx i).toNat : Int)) && (st i == 0)) (n : Nat) (L : List Nat) (hL : L = lstI (foE T nx) (foG st) nw h now n) :
    Maps.size (wnt p n) = L.length ∧ (∀ i ∈ L, i < n ∧ p i = true) ∧ L.Nodup ∧ L.length ≤ n ∧ ∀ q (hq : q + 1 < L.length), Side nx nw h (L[q]'(by omega)) L[q + 1] := by
  have e : pdB (foE T nx) (foG st) now = p := by
    rw [hp]
    funext i
    exact po_due T nx st now i
  subst hL
  refine ⟨?_, fun i hi => ?_, lstI_nodup _ _ _ _ _ _, ?_, fun q hq => ?_⟩
  · rw [wnt_size, lstI_count, e]
  · have q := (lstI_mem _ _ _ _ _ _ _).1 hi
    rw [e] at q
    exact q
  · rw [lstI_count]
    exact Nat.le_trans (List.length_filter_le _ _) (by rw [List.length_range]; exact Nat.le_refl _)
  · exact lstI_ord (foE T nx) (foG st) nw h now n (fun i hi => rfl) q hq
theorem zero3 (w : World) : (zeroValue 3).run Tryd.prog w = .ok (.int .i64 0) w := by kernel_rfl
section
variable {W : World} {MB n q : Nat} {p : Nat → Bool} {L : List Nat}
theorem look_here (h : W.ownsMap Tryd.prog 36 (plainElem Tryd.prog 3) MB n (lftT p n L q)) (hd : L.Nodup) (hL : ∀ i ∈ L, i < n ∧ p i = true) (hn : n ≤ 60) (hq : q < L.length) :
    (Instr.lookup 56 (.map (some MB)) (.int .u64 ((L[q] : Nat) + 1 : Int)) true).run Tryd.prog W = .ok (.tuple #[.int .i64 (L[q] : Nat), .bool true]) W := by
  have hlt := (hL _ (List.getElem_mem hq)).1
  obtain ⟨v, ps, hrun, hv⟩ := h.look_ok law36 Tryd.underlying56 (zero3 W) (zd := .lit (.int .i64 0)) (zp := []) (plainElem_int Tryd.underlying3 (Go.WalkArith.wf_i64 ⟨by omega, by omega⟩)) (key := .int .u64 ((L[q] : Nat) + 1 : Int)) (kl := idK L[q]) (keyOf_int_mk Tryd.underlying36 (Go.WalkArith.wf_u64 ⟨by omega, by omega⟩))
  obtain ⟨h1, h2⟩ := lftT_here p n L hd hL q hq (.lit (.int .i64 0))
  rw [h1] at hrun
  rw [h2] at hv
  obtain ⟨c, rfl, hc, _⟩ := plainElem_int_inv Tryd.underlying3 hv
  simp only [Prod.mk.injEq, DataW.lit.injEq, Lit.int.injEq, true_and] at hc
  rw [hrun, hc.1]
theorem del_here (h : W.ownsMap Tryd.prog 36 (plainElem Tryd.prog 3) MB n (lftT p n L q)) (hL : ∀ i ∈ L, i < n ∧ p i = true) (hn : n ≤ 60) (hq : q < L.length) (ty : TypeId) :
    ∃ W', (Builtin.delete_ #[56, 36] ty #[.map (some MB), .int .u64 ((L[q] : Nat) + 1 : Int)]).run Tryd.prog W = .ok (.tuple #[]) W' ∧ W'.ownsMap Tryd.prog 36 (plainElem Tryd.prog 3) MB n (lftT p n L (q + 1)) ∧ W.grownBy W' (some MB) := by
  have hlt := (hL _ (List.getElem_mem hq)).1
  obtain ⟨W', hrun, hm, ht⟩ := h.drop law36 Tryd.underlying56 (key := .int .u64 ((L[q] : Nat) + 1 : Int)) (kl := idK L[q]) (keyOf_int_mk Tryd.underlying36 (Go.WalkArith.wf_u64 ⟨by omega, by omega⟩)) ty
  exact ⟨W', hrun, by rw [lftT_succ p n L q hq]; exact hm, ht.grown⟩
theorem grown_trans {W1 W2 : World} {o : Option Nat} (h : W.grownBy W1 o) (g : W1.grownBy W2 o) : W.grownBy W2 o :=
  ⟨g.os.trans h.os, g.tape.trans h.tape, g.output.trans h.output, Nat.le_trans h.size g.size, fun i hi hn => (g.block i (Nat.lt_of_lt_of_le hi h.size) hn).trans (h.block i hi hn)⟩
theorem grown_drew {W1 : World} {o : Option Nat} (h : W.grownBy W1 o) : W.grownBy W1.drew o := ⟨h.os, h.tape, h.output, h.size, h.block⟩
theorem grown_drewN {W1 : World} {o : Option Nat} (h : W.grownBy W1 o) (m : Nat) : W.grownBy (W1.drewN m) o := ⟨h.os, h.tape, h.output, h.size, h.block⟩
/-- A cell outside the table's block stays. -/
theorem cell_grown {W1 : World} (h : W.grownBy W1 (some MB)) {g j : Nat} {u : Value} (hc : W.cell? ⟨g, j, none⟩ = some u) (hg : g ≠ MB) : W1.cell? ⟨g, j, none⟩ = some u := by
  rw [← hc]
  exact World.cell?_of_block (h.block g (World.block_lt_of_cell? _ _ hc) (fun e => hg (Option.some.inj e)))
end
end Go.Proofs.YtocjjfjcepflnaaDoor
set_option linter.unusedVariables false
namespace Adr
theorem low_byte : ∀ n, n < 256 → (labB (low n.toUInt8) = labB n.toUInt8 ∧ (low n.toUInt8 == 46) = (n.toUInt8 == 46) ∧ (low n.toUInt8 == 45) = (n.toUInt8 == 45) ∧ low (low n.toUInt8) = low n.toUInt8) := by decide +kernel
theorem low_zero_byte : ∀ n, n < 256 → ((low n.toUInt8 == 48) = (n.toUInt8 == 48)) := by decide +kernel
theorem low_zero (c : UInt8) : (low c == 48) = (c == 48) := by
  have h := low_zero_byte c.toNat (UInt8.toNat_lt c)
  rwa [show c.toNat.toUInt8 = c from UInt8.ofNat_toNat] at h
theorem low_facts (c : UInt8) : labB (low c) = labB c ∧ (low c == 46) = (c == 46) ∧ (low c == 45) = (c == 45) ∧ low (low c) = low c := by
  have h := low_byte c.toNat (UInt8.toNat_lt c)
  rwa [show c.toNat.toUInt8 = c from UInt8.ofNat_toNat] at h
theorem dots_sml : ∀ t : List UInt8, dots (sml t) = (dots t).map sml
  | [] => rfl
  | c :: t => by
    show dots (low c :: sml t) = _
    rw [dots, dots]
    have h := (low_facts c).2.1
    by_cases hc : c = 46
    · subst hc
      rw [if_pos (by decide +kernel), if_pos rfl, dots_sml t]
      rfl
    · have h2 : ¬ low c = 46 := by
        intro e
        rw [e] at h
        have : (c == 46) = true := h ▸ rfl
        exact hc (eq_of_beq this)
      rw [if_neg h2, if_neg hc, dots_sml t]
      cases hd : dots t with
      | nil => exact absurd hd (dots_ne t)
      | cons x xs => rfl
theorem allB_sml (t : List UInt8) : allB labB (sml t) = allB labB t := by
  unfold allB sml
  rw [List.all_map, List.isEmpty_map]
  congr 2
  funext c
  exact (low_facts c).1
theorem label_sml (t : List UInt8) : label (sml t) = label t := by
  unfold label
  rw [allB_sml]
  have h1 : (sml t).length = t.length := by unfold sml; rw [List.length_map]
  have h2 : ((sml t).headD 0 != 45) = (t.headD 0 != 45) := by
    cases t with
    | nil => rfl
    | cons c t => show (low c != 45) = (c != 45); unfold bne; rw [(low_facts c).2.2.1]
  have h3 : ((sml t).getLastD 0 != 45) = (t.getLastD 0 != 45) := by
    unfold sml
    rw [List.getLastD_eq_getLast?, List.getLastD_eq_getLast?, List.getLast?_map]
    cases t.getLast? with
    | none => rfl
    | some c => show (low c != 45) = (c != 45); unfold bne; rw [(low_facts c).2.2.1]
  rw [h1, h2, h3]
theorem domB_sml (t : List UInt8) : domB (sml t) = domB t := by
  unfold domB
  rw [dots_sml, List.all_map, show (sml t).length = t.length by unfold sml; rw [List.length_map]]
  congr 2
  funext x
  exact label_sml x
/-- A byte in a great letter, where it is asked for and may be. -/
def up (b : Bool) (c : UInt8) : UInt8 := if b = true ∧ 97 ≤ c.toNat ∧ c.toNat ≤ 122 then (c.toNat - 32).toUInt8 else c
theorem up_no (c : UInt8) : up false c = c := by unfold up; simp
theorem up_out {b : Bool} {c : UInt8} (h : ¬ (97 ≤ c.toNat ∧ c.toNat ≤ 122)) : up b c = c := if_neg fun g => h g.2
theorem up_yes {c : UInt8} (h : 97 ≤ c.toNat ∧ c.toNat ≤ 122) : ((up true c).toNat : Int) = (c.toNat : Int) - 32 := by
  unfold up
  rw [if_pos ⟨rfl, h⟩]
  have : (c.toNat - 32).toUInt8.toNat = (c.toNat - 32) % 256 := UInt8.toNat_ofNat'
  rw [this]
  have := c.toNat_lt
  omega
theorem low_up_byte : ∀ n, n < 256 → low (up true n.toUInt8) = low n.toUInt8 := by decide +kernel
theorem low_up (b : Bool) (c : UInt8) : low (up b c) = low c := by
  cases b with
  | false => rw [up_no]
  | true =>
    have h := low_up_byte c.toNat (UInt8.toNat_lt c)
    rwa [show c.toNat.toUInt8 = c from UInt8.ofNat_toNat] at h
/-- Great letters up to a place. -/
def grTo (d : List UInt8) (f : Nat → Bool) (k : Nat) : List UInt8 := (List.range d.length).map fun j => if j < k then up (f j) (d.getD j 0) else d.getD j 0
theorem grTo_len (d : List UInt8) (f : Nat → Bool) (k : Nat) : (grTo d f k).length = d.length := by unfold grTo; simp
theorem grTo_get (d : List UInt8) (f : Nat → Bool) (k j : Nat) (h : j < (grTo d f k).length) (g : j < d.length) : (grTo d f k)[j] = if j < k then up (f j) d[j] else d[j] := by
  simp only [grTo, List.getElem_map, List.getElem_range]
  rw [List.getD_eq_getElem?_getD, List.getElem?_eq_getElem g]
  rfl
theorem grTo_zero (d : List UInt8) (f : Nat → Bool) : grTo d f 0 = d := by
  refine List.ext_getElem (grTo_len d f 0) fun j h g => ?_
  rw [grTo_get d f 0 j h g, if_neg (Nat.not_lt_zero j)]
theorem grTo_at (d : List UInt8) (f : Nat → Bool) (k : Nat) (h : k < (grTo d f k).length) (g : k < d.length) : (grTo d f k)[k] = d[k] := by
  rw [grTo_get d f k k h g, if_neg (Nat.lt_irrefl k)]
theorem grTo_succ (d : List UInt8) (f : Nat → Bool) (k : Nat) (g : k < d.length) : grTo d f (k + 1) = (grTo d f k).set k (up (f k) d[k]) := by
  refine List.ext_getElem (by rw [List.length_set, grTo_len, grTo_len]) fun j h h2 => ?_
  have hj : j < d.length := by rw [grTo_len] at h; exact h
  rw [grTo_get d f (k + 1) j h hj, List.getElem_set]
  by_cases e : k = j
  · subst e
    rw [if_pos (Nat.lt_succ_self k), if_pos rfl]
  · rw [if_neg e, grTo_get d f k j (by rw [grTo_len]; exact hj) hj]
    by_cases q : j < k
    · rw [if_pos q, if_pos (by omega)]
    · rw [if_neg q, if_neg (by omega)]
theorem grTo_same (d : List UInt8) (f : Nat → Bool) (k : Nat) (g : k < d.length) (h : up (f k) d[k] = d[k]) : grTo d f (k + 1) = grTo d f k := by
  rw [grTo_succ d f k g, h, ← grTo_at d f k (by rw [grTo_len]; exact g) g]
  exact List.set_getElem_self _
theorem sml_gr (d : List UInt8) (f : Nat → Bool) (k : Nat) : sml (grTo d f k) = sml d := by
  unfold sml
  refine List.ext_getElem (by rw [List.length_map, List.length_map, grTo_len]) fun j h g => ?_
  rw [List.length_map] at h g
  rw [List.getElem_map, List.getElem_map, grTo_get d f k j h g]
  split
  · exact low_up _ _
  · rfl
theorem domB_gr (d : List UInt8) (f : Nat → Bool) (k : Nat) : domB (grTo d f k) = domB d := by rw [← domB_sml, sml_gr, domB_sml]
end Adr
namespace Go.Proofs.YtocjjfjcepflnaaDoor
open Go.ChangeShapes Go.WideShapes Go.ChangeAt Go.RowKit
variable {w W W1 : World}
/-- A row of bools in memory, none behind it. -/
def Bos (W : World) (A : Option Addr) (n : Nat) (f : Nat → Bool) : Prop := (∀ k, k < n → ∃ b off, A = some ⟨b, off, none⟩ ∧ W.cell? ⟨b, off + k, none⟩ = some (.bool (f k))) ∧ ∀ k, n ≤ k → f k = false
theorem bos_below {A : Option Addr} {n : Nat} {f : Nat → Bool} (h : Bos W A n f) (hb : Below W.heap.size W W1) : Bos W1 A n f := ⟨fun k hk => by
  obtain ⟨b, off, e, g⟩ := h.1 k hk
  exact ⟨b, off, e, by rw [hb.cell (World.block_lt_of_cell? _ _ g)]; exact g⟩, h.2⟩
theorem bools_in {H : Type} {enc : TypeId × Value → H} {W : World} {a : Option Addr} {len cap : Nat} {d : DataW H} {p : List MemPlace}
    (h0 : ∃ fuel, DataW.trod enc Tryd.prog W 0 (fun _ => true) true fuel 55 (Value.slice a len cap).cells.toList = some (d, p)) : ∃ f, Bos W a len f ∧ len ≤ maxLen := by
  obtain ⟨fuel, hf⟩ := h0
  rcases Go.Deep.open_bools Tryd.underlying55 Tryd.underlying4 (by kernel_rfl) hf with ⟨hcs, _⟩ | ⟨x, l, c, B, hcs, _, hl, hm, _, hcell⟩
  · simp [Value.cells] at hcs
    obtain ⟨rfl, rfl, rfl⟩ := hcs
    exact ⟨fun _ => false, ⟨fun k hk => absurd hk (Nat.not_lt_zero _), fun _ _ => rfl⟩, Nat.zero_le _⟩
  · simp [Value.cells] at hcs
    obtain ⟨rfl, rfl, rfl⟩ := hcs
    refine ⟨fun k => decide (k < len) && B k, ⟨fun k hk => ?_, fun k hk => ?_⟩, by omega⟩
    · obtain ⟨b, off, hx, hb⟩ := plain_addr (hcell 0 (by omega))
      have hx2 : x = ⟨b, off, none⟩ := by
        have e : x.add 0 = x := by unfold Addr.add; simp
        rw [← e, hx]
      subst hx2
      have h1 := hcell k (by omega)
      rw [add_off] at h1
      refine ⟨b, off, rfl, ?_⟩
      rw [h1]
      simp [hk]
    · simp only [Bool.and_eq_false_iff, decide_eq_false_iff_not]
      exact .inl (by omega)
theorem rules_in2 {H : Type} {enc : TypeId × Value → H} {W : World} {a : Option Addr} {len cap : Nat} {d : DataW H} {p : List MemPlace} {ts : List TypeId} {ds : List (DataW H)} {j : Nat} (hsz : (DataW.weightsEach Tryd.prog ts ds).all (· ≤ reachBytes) = true) (ht : ts[j]? = some 22) (hd : ds[j]? = some d)
    (h0 : ∃ fuel, DataW.trod enc Tryd.prog W 0 (fun _ => true) true fuel 22 (Value.slice a len cap).cells.toList = some (d, p)) :
    ∃ f : Nat → Ru, Rus W a len f ∧ len ≤ reachBytes ∧ (a = none → len = 0 ∧ cap = 0) := by
  obtain ⟨f, h1, h2⟩ := rules_in hsz ht hd h0
  refine ⟨f, h1, h2, fun e => ?_⟩
  obtain ⟨fuel, hf⟩ := h0
  rcases Go.Deep.open_slice Tryd.underlying22 hf with ⟨hcs, _⟩ | ⟨x, l, c, mm, n, D, Pl, hcs, _⟩
  · simp [Value.cells] at hcs
    exact ⟨hcs.2.1, hcs.2.2⟩
  · simp [Value.cells] at hcs
    rw [e] at hcs
    exact absurd hcs.1 (by simp)
end Go.Proofs.YtocjjfjcepflnaaDoor
