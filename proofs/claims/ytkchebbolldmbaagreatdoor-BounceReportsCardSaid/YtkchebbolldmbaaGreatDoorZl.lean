/-
  PROVED HERE: what Split and Lines of the answers compute (a row of the call's own).
-/
import Derived.Test.YtkchebbolldmbaaGreatDoorBl
import Derived.Laws.AppendOwnNone
set_option linter.unusedVariables false
namespace Go.Proofs.YtkchebbolldmbaaGreatDoor
open Go.RowKit

set_option maxRecDepth 100000 in
set_option maxHeartbeats 4000000 in
theorem r8own_any (s : ByteArray) (w : World) (hs : s.size < 4294967281) :
    Calls Tryz.prog 52 #[.string s] w fun e w' => (∃ v, e = .returned (.tuple #[v, sV (Lin.spl s.data.toList).2]) ∧ Tow w' w.heap.size v (Lin.spl s.data.toList).1) ∧ Below w.heap.size w w' := by
  obtain ⟨i0, hi, hz0, hz1, hz2⟩ := info_parts info9
  have HSZ := Lib.hid (Lib.size_eq s)
  go_enter Tryz.func52, Tryz.ntmps52
  go_wp2
  go_loopw [4, 5, 6] (fun v u x wr => ∃ (pre : List (List UInt8)) (f i : Nat), u = .int .i64 f ∧ x = .int .i64 i ∧ i ≤ s.size ∧ f ≤ s.size ∧ 2 * pre.length ≤ f ∧ Hid (Lin.Sta s.data.toList pre f i) ∧ wr.ownsRow w.heap.size 9 1 v pre.length (pre.map sV) ∧ Below w.heap.size w wr) (fun _ _ x _ => s.size - (intOf x).toNat)
  case atStart => exact ⟨[], 0, 0, rfl, rfl, by omega, by omega, by simp, Lin.sta_start _, World.ownsRow_lit w #[] 0 (Nat.le_refl _) (by unfold maxLen; omega) rfl, (Below.refl _ _).alloc (Nat.le_refl _) _⟩
  case round =>
    obtain ⟨pre, f, i, rfl, rfl, hi1, hf1, hpl, HS, hown, hbel⟩ := hrel
    by_cases hlt : i < s.size
    · have hltz : (i : Int) < (s.size : Int) := by omega
      by_cases hge : f ≤ i
      · have hgez : (f : Int) ≤ (i : Int) := by omega
        cases hoc : Lib.occAt s.data.toList Lin.E i with
        | true =>
          have hroom : i + 2 ≤ s.size := by
            rcases Lib.occAt_room hoc with r | r
            · have := HSZ.out
              simp only [Lin.E, List.length_cons, List.length_nil] at r
              omega
            · cases r
          have HS2 := Lib.hid (Lin.sta_hit HS.out hge hoc)
          have HX : Hid (sV ((s.data.toList.drop f).take (i - f)) = .string (s.extract f i)) := by
            show _ = _
            rw [← Lib.extract_data, sV_of]
          have HE := Lib.hid (fun W : World => ends_same s i W (by omega))
          rw [hoc] at HE
          have hi2 : (i : Int) ≤ (s.size : Int) := by omega
          have hws := hbel.size
          have HO := Lib.hid hown
          have HB := Lib.hid hbel
          clear hown hbel hoc
          go_wp2_with (first
            | (go_at_call 69; refine Calls.mono (HE.out _) ?_; rintro e w' ⟨rfl, rfl⟩)
            | (at_builtin; go_must (refine wpList_append_own _ rfl (.tmp 22) (.tmp 27) 47 rfl w.heap.size 9 i0 (.string ⟨#[]⟩) 1 16 Tryz.underlying47 hi hz0 hz1 hz2 rfl (by decide) _ _ _ rfl (HO.out.alloc _) ⟨wr.heap.size, 0, none⟩ 1 1 [.string (s.extract f i)] rfl rfl ?c1 ?c2 ?c3 ?c4 ?c5 ?_)))
          case c1 => exact cell_one_new _ _ _
          case c2 => intro u hu; simp only [List.mem_singleton] at hu; subst hu; rfl
          case c3 => unfold maxLen; omega
          case c4 => omega
          case c5 => simp only [World.size_alloc]; omega
          intro v' w1 hown1 hgrow _
          have hb1 : Below w.heap.size w w1 := (HB.out.alloc hws _).grown hgrow (by simp only [World.size_alloc]; omega) (fun q hq => (HO.out.lt q hq).1)
          have HO1 := Lib.hid hown1
          have HB1 := Lib.hid hb1
          clear hown1 hgrow hb1
          go_wp2
          go_roundw
          case rel =>
            refine ⟨pre ++ [(s.data.toList.drop f).take (i - f)], i + 2, i + 1, by go_num, by go_num, by omega, by omega, by rw [List.length_append]; simp; omega, HS2, ?_, HB1.out⟩
            rw [List.length_append, List.map_append, List.map_singleton, HX.out]
            exact HO1.out
          case measure => simp [intOf]; omega
        | false =>
          have HE := Lib.hid (fun W : World => ends_same s i W (by omega))
          rw [hoc] at HE
          have HO := Lib.hid hown
          have HB := Lib.hid hbel
          clear hown hbel
          go_wp2_with (go_at_call 69; refine Calls.mono (HE.out _) ?_; rintro e w' ⟨rfl, rfl⟩)
          go_roundw
          case rel => exact ⟨pre, f, i + 1, rfl, by go_num, by omega, hf1, hpl, Lin.sta_pass HS.out (.inr hoc), HO.out, HB.out⟩
          case measure => simp [intOf]; omega
      · have hgez : ¬ (f : Int) ≤ (i : Int) := by omega
        have HO := Lib.hid hown
        have HB := Lib.hid hbel
        clear hown hbel
        go_wp2
        go_roundw
        case rel => exact ⟨pre, f, i + 1, rfl, by go_num, by omega, hf1, hpl, Lin.sta_pass HS.out (.inl (by omega)), HO.out, HB.out⟩
        case measure => simp [intOf]; omega
    · have hltz : ¬ (i : Int) < (s.size : Int) := by omega
      have HE : Hid (Lin.spl s.data.toList = (pre, s.data.toList.drop f)) := Lin.sta_end HS.out (by rw [← HSZ.out]; omega)
      have HX : Hid (sV (s.data.toList.drop f) = .string (s.extract f s.size)) := by
        show _ = _
        rw [← Lib.extract_to_end, sV_of]
      have hf2 : (f : Int) ≤ (s.size : Int) := by omega
      obtain ⟨A, c, rfl, hT⟩ : ∃ A c, u4 = .slice A pre.length c ∧ Txs wr A pre := by
        rcases hown.2 with ⟨h1, h0⟩ | ⟨g, c, cur, h1, _⟩
        · exact ⟨none, 0, by rw [h1, h0], by rw [List.length_eq_zero_iff.1 h0]; exact txs_nil _ _⟩
        · subst h1
          refine ⟨_, _, rfl, fun k hk => ⟨g, 0, rfl, ?_⟩⟩
          have hf := hown.cellAt k (by omega)
          rw [Nat.zero_add, hf, List.getElem?_map, List.getElem?_eq_getElem hk]
          unfold at' sV
          rw [List.getD_eq_getElem?_getD, List.getElem?_eq_getElem hk]
          rfl
      have HT : Hid (Tow wr w.heap.size (.slice A pre.length c) pre) := hown
      have HB := Lib.hid hbel
      clear hown hbel hT HS
      go_wp2_with fail
      go_quiet (fail)
      go_wp2
      go_ret2
      rw [HE.out]
      exact ⟨⟨_, by rw [HX.out]; rfl, tow_below HT.out (below_drewN (Below.refl _ _) _)⟩, below_drewN HB.out _⟩
theorem cell_one_new2 (w : World) (o : Obj) (v : Value) (t : TypeId) : ∀ j u, ([v] : List Value)[j]? = some u → ((w.alloc o).alloc (.cells #[v] t)).cell? ((⟨w.heap.size + 1, 0, none⟩ : Addr).add j) = some u := by
  intro j u hj
  have q := cell_one_new (w.alloc o) v t j u hj
  rw [World.size_alloc] at q
  exact q
theorem tow_mono0 {W : World} {base b2 : Nat} {v : Value} {l : List (List UInt8)} (h : Tow W base v l) (g : b2 ≤ base) : Tow W b2 v l := by
  refine ⟨h.1, ?_⟩
  rcases h.2 with e | ⟨q, cc, cu, e, h1, h2, h3⟩
  · exact Or.inl e
  · exact Or.inr ⟨q, cc, cu, e, Nat.le_trans g h1, h2, h3⟩

set_option maxRecDepth 100000 in
set_option maxHeartbeats 2000000 in
theorem rlines_any (s : ByteArray) (w : World) (hs : s.size < 4294967281) :
    Calls Tryz.prog 23 #[.string s] w fun e w' => (∃ v, e = .returned v ∧ Tow w' w.heap.size v (Bnc.lns s.data.toList)) ∧ Below w.heap.size w w' := by
  obtain ⟨i0, hi, hz0, hz1, hz2⟩ := info_parts info9
  have HS := Lib.hid (r8own_any s w hs)
  have hlen : (Lin.spl s.data.toList).1.length ≤ s.data.toList.length := by
    have := Lin.spl_len s.data.toList
    omega
  have hsz := Lib.size_eq s
  have HLN : Hid (Bnc.lns s.data.toList = (Lin.spl s.data.toList).1 ++ (if (Lin.spl s.data.toList).2 = [] then [] else [(Lin.spl s.data.toList).2])) := rfl
  have hl2 : (Lin.spl s.data.toList).1.length ≤ 4294967281 := by omega
  clear hlen hsz
  generalize Lin.spl s.data.toList = p at *
  obtain ⟨l, r⟩ := p
  generalize Bnc.lns s.data.toList = L at *
  simp only [] at *
  go_enter Tryz.func23, Tryz.ntmps23
  go_wp2_with fail
  refine HS.out.mono ?_
  rintro e w1 ⟨⟨v, rfl, ho⟩, hb⟩
  have HO := Lib.hid ho
  have HB := Lib.hid hb
  have hsz1 := hb.size
  unfold sV
  by_cases hr : r = []
  · have e : L = l := by rw [HLN.out, if_pos hr, List.append_nil]
    subst hr
    clear HLN ho hb HS
    go_wp2_with fail
    go_ret
    exact ⟨⟨_, rfl, by rw [e]; exact HO.out⟩, HB.out⟩
  have e : L = l ++ [r] := by rw [HLN.out, if_neg hr]
  have hrz : (0 : Int) < (r.length : Int) := by
    have := List.length_pos_iff.2 hr
    omega
  have HE0 : Hid (Tow (w1.alloc (.cells #[] 9)) w1.heap.size (.slice (some ⟨w1.heap.size, 0, none⟩) 0 0) []) := World.ownsRow_lit w1 #[] 0 (Nat.le_refl _) (by unfold maxLen; omega) rfl
  clear HLN
  have h2 := ho.2
  rcases h2 with ⟨hv, h0⟩ | ⟨g2, cc2, cu, hv, hg2, hh2, hcc, _, _, hcu⟩
  · subst hv
    have hl0 : l = [] := List.length_eq_zero_iff.1 h0
    subst hl0
    clear ho hb HS h0
    have HB1 := Lib.hid (HB.out.alloc hsz1 (.cells #[] 9))
    have hs5 := HB1.out.size
    go_wp2_with (at_builtin; first | (refine wpList_append_own_none rfl (.tmp 13) (.tmp 14) 47 rfl w1.heap.size 9 i0 1 Tryz.underlying47 hi _ 0 [] rfl HE0.out rfl ?_) | go_must (refine wpList_append_own _ rfl (.tmp 15) (.tmp 17) 47 rfl w1.heap.size 9 i0 (.string ⟨#[]⟩) 1 16 Tryz.underlying47 hi hz0 hz1 hz2 rfl (by decide) _ _ _ rfl (HE0.out.alloc _) ⟨w1.heap.size + 1, 0, none⟩ 1 1 [sV r] rfl rfl ?z1 ?z2 ?z3 ?z4 ?z5 ?_))
    case z1 => exact cell_one_new2 _ _ _ _
    case z2 => first | rfl | (intro u hu; simp only [List.mem_singleton] at hu; subst hu; rfl)
    case z3 => unfold maxLen; rw [List.length_nil]; omega
    case z4 => rw [List.length_nil]; omega
    case z5 => first | omega | (simp only [World.size_alloc]; omega)
    intro v2 w6 hown hgrow _
    have HT : Hid (Tow w6 w.heap.size v2 L) := by
      show Tow _ _ _ _
      rw [e]
      refine tow_mono0 ?_ hsz1
      exact hown
    have HB6 := Lib.hid ((HB1.out.alloc hs5 _).grown hgrow (by simp only [World.size_alloc]; omega) (fun q hq => Nat.le_trans hsz1 (HE0.out.lt q hq).1))
    clear hown hgrow
    go_wp2
    go_ret
    exact ⟨⟨_, rfl, HT.out⟩, HB6.out⟩
  · subst hv
    have F2 := Lib.hid (fun j u (hu : (l.map sV)[j]? = some u) => ho.cells rfl j u hu)
    clear ho hb HS hh2 hcc hcu
    go_wp2_with (at_builtin; go_must (refine wpList_append_own _ rfl (.tmp 13) (.tmp 14) 47 rfl w1.heap.size 9 i0 (.string ⟨#[]⟩) 1 16 Tryz.underlying47 hi hz0 hz1 hz2 rfl (by decide) _ _ _ rfl HE0.out ⟨g2, 0, none⟩ l.length cc2 (l.map sV) rfl (by rw [List.length_map, Nat.mul_one]) ?x1 ?x2 ?x3 ?x4 ?x5 ?_))
    case x1 => intro j u hu; have q := F2.out j u hu; have hB := (Below.refl w1.heap.size w1).alloc (Nat.le_refl _) (.cells #[] 9); rw [hB.cell (World.block_lt_of_cell? _ _ q)]; exact q
    case x2 => intro u hu; obtain ⟨p, _, rfl⟩ := List.mem_map.1 hu; rfl
    case x3 => unfold maxLen; rw [List.length_nil]; omega
    case x4 => rw [List.length_nil]; omega
    case x5 => first | omega | (simp only [World.size_alloc]; omega)
    intro v' w5 hown hgrow _
    have hw5 : Below w1.heap.size w1 w5 := ((Below.refl w1.heap.size w1).alloc (Nat.le_refl _) (.cells #[] 9)).grown hgrow (by simp only [World.size_alloc]; omega) (fun q hq => (HE0.out.lt q hq).1)
    have HO5 : Hid (Tow w5 w1.heap.size v' l) := by
      show Tow _ _ _ _
      unfold Tow
      exact hown
    have HB5 := Lib.hid (HB.out.trans (hw5.mono hsz1))
    have hs5 := HB5.out.size
    have hs51 := hw5.size
    clear hown hgrow hw5
    go_wp2_with (at_builtin; go_must (refine wpList_append_own _ rfl (.tmp 15) (.tmp 17) 47 rfl w1.heap.size 9 i0 (.string ⟨#[]⟩) 1 16 Tryz.underlying47 hi hz0 hz1 hz2 rfl (by decide) _ _ _ rfl (HO5.out.alloc _) ⟨w5.heap.size, 0, none⟩ 1 1 [sV r] rfl rfl ?y1 ?y2 ?y3 ?y4 ?y5 ?_))
    case y1 => exact cell_one_new _ _ _
    case y2 => first | rfl | (intro u hu; simp only [List.mem_singleton] at hu; subst hu; rfl)
    case y3 => unfold maxLen; omega
    case y4 => omega
    case y5 => first | omega | (simp only [World.size_alloc]; omega)
    intro v2 w6 hown hgrow _
    have HT : Hid (Tow w6 w.heap.size v2 L) := by
      show Tow _ _ _ _
      rw [e]
      refine tow_mono0 ?_ hsz1
      unfold Tow
      rw [List.length_append, List.map_append]
      exact hown
    have HB6 := Lib.hid ((HB5.out.alloc hs5 _).grown hgrow (by simp only [World.size_alloc]; omega) (fun q hq => Nat.le_trans hsz1 (HO5.out.lt q hq).1))
    clear hown hgrow
    go_wp2
    go_ret
    exact ⟨⟨_, rfl, HT.out⟩, HB6.out⟩
end Go.Proofs.YtkchebbolldmbaaGreatDoor
