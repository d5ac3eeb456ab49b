/-
  PROVED HERE: BounceTells of the statements answers true.
-/
import Derived.Test.YtkchebbolldmbaaDoorBk
import Derived.Test.YtkchebbolldmbaaDoorBz
import Derived.Test.YtkchebbolldmbaaDoorBa
set_option linter.unusedVariables false
namespace Bnc
theorem rep_len (h fl fd : List UInt8) (l : List Bp) (hy : Adr.mayB fl fd = true) (hl : ∀ p ∈ l, Adr.mayB p.1 p.2 = true) (hn : l.length ≤ 1000) : (rep h fl fd l).length < 4294967200 := by
  have h1 := joi_le (repL h fl fd l) 500 (repL_mem h fl fd l hy hl)
  rw [repL_len] at h1
  unfold rep
  omega
end Bnc
namespace Go.Proofs.YtkchebbolldmbaaDoor
open Go.RowKit
theorem repV_cases (h fl fd : List UInt8) (l : List Bxp) (hn : l.length ≤ 1000) :
    (repV h fl fd l = .tuple #[.string ⟨#[]⟩, .int .i64 10] ∧ ((fl = [] ∧ fd = []) ∨ l = [])) ∨ ((repV h fl fd l = .tuple #[.string ⟨#[]⟩, .int .i64 2] ∧ ¬ (fl = [] ∧ fd = []) ∧ l ≠ []) ∨
      ∃ R : List UInt8, repV h fl fd l = .tuple #[.string ⟨R.toArray⟩, .int .i64 0] ∧ (¬ (fl = [] ∧ fd = []) ∧ l ≠ []) ∧ (R.length < 4294967200 ∧ Bnc.fds R = l) ∧ Bnc.hops R = 0) := by
  unfold repV
  by_cases h1 : (fl = [] ∧ fd = []) ∨ l = []
  · exact Or.inl ⟨if_pos h1, h1⟩
  · have hq : ¬ (fl = [] ∧ fd = []) ∧ l ≠ [] := ⟨fun q => h1 (Or.inl q), fun q => h1 (Or.inr q)⟩
    rw [if_neg h1]
    by_cases h2 : Adr.mayB fl fd = true ∧ l.any bad = false
    · rw [if_pos h2]
      have hm := any_may h2.2
      exact Or.inr (Or.inr ⟨_, rfl, hq, ⟨Bnc.rep_len h fl fd l h2.1 hm hn, Bnc.rep_fds h fl fd l h2.1 hm⟩, Bnc.rep_hops h fl fd l h2.1 hm⟩)
    · rw [if_neg h2]
      exact Or.inr (Or.inl ⟨rfl, hq⟩)

set_option maxRecDepth 100000 in
set_option maxHeartbeats 8000000 in
theorem tells_law (T : ByteArray) (x : En) (g : Nat → To3) (m : Int) (w : World) (hm : w.cell? ⟨1, 0, none⟩ = some (.int .i64 m)) (htab : Tabs w) (hT : Tos w x.A x.n g) :
    Calls Tryd.prog 3 #[.string T, .agg (enA x)] w fun e w' => e = .returned (.bool true) ∧ Below w.heap.size w w' := by
  obtain ⟨i0, hi0, hz0, hz1, hz2⟩ := info_parts info24
  have HM := Lib.hid (fun (W : World) (h : Below w.heap.size w W) => (show W.cell? ⟨1, 0, none⟩ = some (.int .i64 m) from by rw [h.cell (World.block_lt_of_cell? _ _ hm)]; exact hm))
  have HTS := Lib.hid (fun (W : World) (h : Below w.heap.size w W) => tos_below hT h)
  have H0 := Lib.hid (ex_new (Below.refl w.heap.size w) x)
  have HA := Lib.hid (awake_any m _ (HM.out _ H0.out.bel) (tabs_below htab H0.out.bel))
  have HL := Lib.hid (fun (W : World) (h : Below w.heap.size w W) => large_any x g W (HTS.out W h))
  have HREP : Hid (T.size ≤ 4096 → x.n ≤ 30 → x.fl.length ≤ 500 → x.fd.length ≤ 500 → (∀ k, k < x.n → (g k).lo.length ≤ 500 ∧ (g k).dm.length ≤ 500) → ∀ (W : World), Below w.heap.size w W → Calls Tryd.prog 9 #[.string T, .agg (enA x)] W fun e w' => e = .returned (repV T.data.toList x.fl x.fd (fls g x.n)) ∧ Below W.heap.size W w') := fun q1 q2 q3 q4 q5 W hb =>
    report_any T x g m W (HTS.out W hb) (by omega) (by omega) (by omega) (fun k hk => ⟨by have := (q5 k hk).1; omega, by have := (q5 k hk).2; omega⟩) (by omega) (HM.out W hb)
  have HRC := Lib.hid (fun (q : x.n ≤ 30) => repV_cases T.data.toList x.fl x.fd (fls g x.n) (by have := fls_len g x.n; omega))
  clear hm htab hT
  unfold enA at *
  obtain ⟨id, dom, ep, ct, fl, fd, A, n, c, born, next, tries⟩ := x
  simp only [] at *
  go_enter Tryd.func3, Tryd.ntmps3
  go_wp2_with fail
  refine HA.out.mono ?_
  rintro e w1 ⟨rfl, hb1⟩
  have E1 := Lib.hid (ex_next H0.out hb1)
  clear hb1 HA H0
  obtain ⟨c0, c1, c2, c3, c4, c5, c6, c7, c8, c9⟩ := ex_cells E1.out
  go_wp2_with fail
  refine (HL.out w1 E1.out.bel).mono ?_
  rintro e w2 ⟨hr, hb2⟩
  have E2 := Lib.hid (ex_next E1.out hb2)
  clear hb2 HL c0 c1 c2 c3 c4 c5 c6 c7 c8 c9 E1
  rcases hr with rfl | ⟨rfl, hbd⟩
  · go_wp2_with fail
    go_ret
    exact ⟨rfl, E2.out.bel⟩
  obtain ⟨hn, h5, h6, h7⟩ := hbd.out
  clear hbd
  by_cases hTs : 4096 < T.size
  · have hTz : (4096 : Int) < (T.size : Int) := by omega
    clear HREP HRC h7
    go_wp2_with fail
    go_ret
    exact ⟨rfl, E2.out.bel⟩
  have hTz : ¬ (4096 : Int) < (T.size : Int) := by omega
  have HRP := Lib.hid (HREP.out (by omega) hn h5 h6 h7 w2 E2.out.bel)
  have HRC2 := Lib.hid (HRC.out hn)
  clear HREP HRC h5 h6 h7
  obtain ⟨c0, c1, c2, c3, c4, c5, c6, c7, c8, c9⟩ := ex_cells E2.out
  go_wp2_with fail
  refine HRP.out.mono ?_
  rintro e w3 ⟨rfl, hb3⟩
  have E3 := Lib.hid (ex_next E2.out hb3)
  clear hb3 HRP c0 c1 c2 c3 c4 c5 c6 c7 c8 c9 E2
  obtain ⟨V, hV⟩ : ∃ V, V = repV T.data.toList fl fd (fls g n) := ⟨_, rfl⟩
  have HR3 := HRC2.out
  rw [← hV] at HR3 ⊢
  clear HRC2 hV
  rcases HR3 with ⟨rfl, _⟩ | ⟨rfl, _⟩ | ⟨R, rfl, ⟨_, hne⟩, ⟨hRl, hfd⟩, _⟩
  · go_wp2_with fail
    go_ret
    exact ⟨rfl, E3.out.bel⟩
  · go_wp2_with fail
    go_ret
    exact ⟨rfl, E3.out.bel⟩
  have HNE := Lib.hid hne
  have HFD := Lib.hid hfd
  clear hne hfd
  have c6' : w3.cell? ⟨w.heap.size, 6, none⟩ = some (.slice A n c) := (ex_cells E3.out).2.2.2.2.2.2.1
  have HC6 := Lib.hid (fun (W : World) (h : Below w3.heap.size w3 W) => (show W.cell? ⟨w.heap.size, 6, none⟩ = some (.slice A n c) from by rw [h.cell (World.block_lt_of_cell? _ _ c6')]; exact c6'))
  clear c6'
  have HT3 := Lib.hid (HTS.out w3 E3.out.bel)
  have HB0 : Hid (Below w3.heap.size w3 (w3.alloc (.cells #[] 24))) := (Below.refl _ _).alloc (Nat.le_refl _) _
  have c6 := HC6.out _ HB0.out
  have HO0 : Hid (Aow (w3.alloc (.cells #[] 24)) w3.heap.size (.slice (some ⟨w3.heap.size, 0, none⟩) 0 0) (fls g 0)) := World.ownsRow_lit w3 #[] 0 (Nat.le_refl _) (by unfold maxLen; omega) rfl
  clear HTS
  go_wp2_with fail
  generalize w3.alloc _ = w4 at *
  clear c6
  go_loopw [32, 7] (fun u v wr => ∃ k : Nat, u = .int .i64 k ∧ k ≤ n ∧ Hid (Aow wr w3.heap.size v (fls g k)) ∧ Hid (Below w3.heap.size w3 wr)) (fun u _ _ => n - (intOf u).toNat)
  case atStart => exact ⟨0, rfl, by omega, HO0, HB0⟩
  case round =>
    clear HO0 HB0
    obtain ⟨k, rfl, hk, HO, HB⟩ := hrel
    have hsz := HB.out.size
    have c6 := HC6.out _ HB.out
    by_cases hlt : k < n
    · have hltz : (k : Int) < (n : Int) := by omega
      have HT4 := Lib.hid (tos_below HT3.out HB.out)
      obtain ⟨b, off, rfl, ⟨t0, t1⟩, t2⟩ := HT4.out k hlt
      have HF := Lib.hid (fls_succ g k)
      have hfl := fls_len g k
      generalize g k = y at *
      obtain ⟨lo, dm, st⟩ := y
      simp only [] at *
      by_cases hst : st = 2
      · subst hst
        rw [if_pos rfl] at HF
        go_wp2_with (at_builtin; go_must (refine wpList_append_own _ rfl (.tmp 42) (.tmp 49) 33 rfl w3.heap.size 24 i0 (.agg #[.string ⟨#[]⟩, .string ⟨#[]⟩]) 2 32 Tryd.underlying33 hi0 hz0 hz1 hz2 rfl (by decide) _ _ _ rfl (HO.out.alloc _) ⟨wr.heap.size, 0, none⟩ 1 1 (bxL (lo, dm)) rfl rfl ?x1 ?x2 ?x3 ?x4 ?x5 ?_))
        case x1 => exact cell_two_one _ _ _ _
        case x2 => first | (intro u hu; unfold bxL at hu; simp only [List.mem_cons, List.not_mem_nil, or_false] at hu; rcases hu with rfl | rfl <;> rfl)
        case x3 => unfold maxLen; omega
        case x4 => omega
        case x5 => first | omega | (simp only [World.size_alloc]; omega)
        intro v' w5 hown hgrow _
        have HT5 : Hid (Aow w5 w3.heap.size v' (fls g (k + 1))) := by
          show Aow _ _ _ _
          rw [HF.out]
          unfold Aow
          rw [List.length_append, List.flatMap_append]
          exact hown
        have HB5 := Lib.hid ((HB.out.alloc (by omega) _).grown hgrow (by simp only [World.size_alloc]; omega) (fun q hq => (HO.out.lt q hq).1))
        clear hown hgrow HO HB
        go_wp2
        go_roundw
        case rel => exact ⟨k + 1, by go_num, by omega, HT5, HB5.out⟩
        case measure => simp [intOf]; omega
      · rw [if_neg hst, List.append_nil] at HF
        have hst2 : (st == 2) = false := beq_false_of_ne hst
        have HO3 : Hid (Aow wr w3.heap.size u7 (fls g (k + 1))) := by
          show Aow _ _ _ _
          rw [HF.out]
          exact HO.out
        clear HO hst
        go_wp2_with fail
        go_roundw
        case rel => exact ⟨k + 1, by go_num, by omega, HO3, HB.out⟩
        case measure => simp [intOf]; omega
    · have hltz : ¬ (k : Int) < (n : Int) := by omega
      obtain rfl : k = n := by omega
      have HBW := Lib.hid (E3.out.bel.trans (HB.out.mono E3.out.bel.size))
      have HFT := Lib.hid (failedT_any ⟨R.toArray⟩ m wr (by rw [size_mk]; exact hRl) (HM.out _ HBW.out))
      simp only [] at HFT
      rw [HFD.out] at HFT
      obtain ⟨Z, hZ⟩ : ∃ Z, Z = fls g k := ⟨_, rfl⟩
      have hln := fls_len g k
      rw [← hZ] at HFT HO HNE hln
      have h0z : (0 : Int) < (Z.length : Int) := by
        have := List.length_pos_iff.2 HNE.out
        omega
      have HZP : Hid (0 < Z.length) := List.length_pos_iff.2 HNE.out
      clear HFD hZ
      obtain ⟨A2, d2, rfl, hB2⟩ := aow_bos HO.out
      have HB2 := Lib.hid hB2
      clear hB2 HO HNE
      go_wp2_with fail
      refine HFT.out.mono ?_
      rintro e w5 ⟨⟨v, rfl, ho⟩, hb5⟩
      obtain ⟨A1, d1, rfl, hB1⟩ := aow_bos ho
      have HSM := Lib.hid (boxes_same A1 A2 d1 d2 Z.length Z w5 rfl hB1 (bos_below HB2.out hb5) (by omega))
      have HB5 := Lib.hid (HBW.out.trans (hb5.mono HBW.out.size))
      clear ho hb5 hB1 HFT
      go_wp2_with fail
      refine HSM.out.mono ?_
      rintro e w6 ⟨rfl, hb6⟩
      have HB6 := Lib.hid (HB5.out.trans (hb6.mono HB5.out.size))
      clear hb6 HSM
      go_wp2_with fail
      go_ret
      exact ⟨congrArg (fun b => Ending.returned (Value.bool b)) (decide_eq_true HZP.out), HB6.out⟩
theorem bounceTells_any (m : Int) (T : List UInt8) (x : En) (g : Nat → To3) (w : World) (hm : w.cell? ⟨1, 0, none⟩ = some (.int .i64 m)) (htab : Tabs w) (_ : T.length ≤ maxLen) (hT : Tos w x.A x.n g) :
    Calls Tryd.prog 3 #[.string ⟨T.toArray⟩, .agg (enA x)] w fun e w' => e = .returned (.bool true) ∧ Below w.heap.size w w' := tells_law ⟨T.toArray⟩ x g m w hm htab hT
end Go.Proofs.YtkchebbolldmbaaDoor
