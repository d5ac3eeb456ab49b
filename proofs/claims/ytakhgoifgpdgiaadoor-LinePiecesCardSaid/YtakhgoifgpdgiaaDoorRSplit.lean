/-
  PROVED HERE: what Split of the answer computes (the walk).
-/
import Derived.Test.YtakhgoifgpdgiaaDoorSplit2
import Derived.Deep.DeepMust
set_option linter.unusedVariables false
namespace Go.Proofs.YtakhgoifgpdgiaaDoor
open Go.RowKit

theorem info9 : (Tryd.prog.info? 9).map (fun i => (i.zero, i.size, i.bytes)) = some (some (.string ⟨#[]⟩), 1, 16) := by kernel_rfl
theorem cell_one_new (w : World) (v : Value) (t : TypeId) : ∀ j u, ([v] : List Value)[j]? = some u → (w.alloc (.cells #[v] t)).cell? ((⟨w.heap.size, 0, none⟩ : Addr).add j) = some u := by
  intro j u hj
  match j, hj with
  | 0, hj => simp at hj; subst hj; simp [Addr.add]

theorem ends_same (s : ByteArray) (i : Nat) (w : World) (hi : i < 4611686018427387904) : Calls Tryd.prog 28 #[.string s, .int .i64 i] w fun e w' => e = .returned (.bool (Lib.occAt s.data.toList Lin.E i)) ∧ w = w' :=
  (ends_any s i w hi).mono fun _ _ h => ⟨h.1, h.2.symm⟩

set_option maxRecDepth 100000 in
set_option maxHeartbeats 4000000 in
theorem rsplit_any (s : ByteArray) (w : World) (hs : s.size < 4294967281) :
    Calls Tryd.prog 12 #[.string s] w fun e w' => (∃ A c, e = .returned (.tuple #[.slice A (Lin.spl s.data.toList).1.length c, sV (Lin.spl s.data.toList).2]) ∧ Txs w' A (Lin.spl s.data.toList).1) ∧ Below w.heap.size w w' := by
  obtain ⟨i0, hi, hz0, hz1, hz2⟩ := info_parts info9
  have HSZ := Lib.hid (Lib.size_eq s)
  go_enter Tryd.func12, Tryd.ntmps12
  go_wp2
  go_loopw [4, 5, 6] (fun v u x wr => ∃ (pre : List (List UInt8)) (f i : Nat), u = .int .i64 f ∧ x = .int .i64 i ∧ i ≤ s.size ∧ f ≤ s.size ∧ 2 * pre.length ≤ f ∧ Hid (Lin.Sta s.data.toList pre f i) ∧ wr.ownsRow w.heap.size 9 1 v pre.length (pre.map sV) ∧ Below w.heap.size w wr) (fun _ _ x _ => s.size - (intOf x).toNat)
  case atStart => exact ⟨[], 0, 0, rfl, rfl, by omega, by omega, by simp, Lin.sta_start _, World.ownsRow_lit w #[] 0 (Nat.le_refl _) (by unfold maxLen; omega) rfl, (Below.refl _ _).alloc (Nat.le_refl _) _⟩
  case round =>
    obtain ⟨pre, f, i, rfl, rfl, hi1, hf1, hpl, HS, hown, hbel⟩ := hrel
    by_cases hlt : i < s.size
    · have hltz : (i : Int) < (s.size : Int) := by omega
      by_cases hge : f ≤ i
      · have hgez : (f : Int) ≤ (i : Int) := by omega
        cases hoc : Lib.occAt s.data.toList Lin.E i with
        | true =>
          have hroom : i + 2 ≤ s.size := by
            rcases Lib.occAt_room hoc with r | r
            · have := HSZ.out
              simp only [Lin.E, List.length_cons, List.length_nil] at r
              omega
            · cases r
          have HS2 := Lib.hid (Lin.sta_hit HS.out hge hoc)
          have HX : Hid (sV ((s.data.toList.drop f).take (i - f)) = .string (s.extract f i)) := by
            show _ = _
            rw [← Lib.extract_data, sV_of]
          have HE := Lib.hid (fun W : World => ends_same s i W (by omega))
          rw [hoc] at HE
          have hi2 : (i : Int) ≤ (s.size : Int) := by omega
          have hws := hbel.size
          have HO := Lib.hid hown
          have HB := Lib.hid hbel
          clear hown hbel hoc
          go_wp2_with (first
            | (go_at_call 28; refine Calls.mono (HE.out _) ?_; rintro e w' ⟨rfl, rfl⟩)
            | (at_builtin; go_must (refine wpList_append_own _ rfl (.tmp 22) (.tmp 27) 22 rfl w.heap.size 9 i0 (.string ⟨#[]⟩) 1 16 Tryd.underlying22 hi hz0 hz1 hz2 rfl (by decide) _ _ _ rfl (HO.out.alloc _) ⟨wr.heap.size, 0, none⟩ 1 1 [.string (s.extract f i)] rfl rfl ?c1 ?c2 ?c3 ?c4 ?c5 ?_)))
          case c1 => exact cell_one_new _ _ _
          case c2 => intro u hu; simp only [List.mem_singleton] at hu; subst hu; rfl
          case c3 => unfold maxLen; omega
          case c4 => omega
          case c5 => simp only [World.size_alloc]; omega
          intro v' w1 hown1 hgrow _
          have hb1 : Below w.heap.size w w1 := (HB.out.alloc hws _).grown hgrow (by simp only [World.size_alloc]; omega) (fun q hq => (HO.out.lt q hq).1)
          have HO1 := Lib.hid hown1
          have HB1 := Lib.hid hb1
          clear hown1 hgrow hb1
          go_wp2
          go_roundw
          case rel =>
            refine ⟨pre ++ [(s.data.toList.drop f).take (i - f)], i + 2, i + 1, by go_num, by go_num, by omega, by omega, by rw [List.length_append]; simp; omega, HS2, ?_, HB1.out⟩
            rw [List.length_append, List.map_append, List.map_singleton, HX.out]
            exact HO1.out
          case measure => simp [intOf]; omega
        | false =>
          have HE := Lib.hid (fun W : World => ends_same s i W (by omega))
          rw [hoc] at HE
          have HO := Lib.hid hown
          have HB := Lib.hid hbel
          clear hown hbel
          go_wp2_with (go_at_call 28; refine Calls.mono (HE.out _) ?_; rintro e w' ⟨rfl, rfl⟩)
          go_roundw
          case rel => exact ⟨pre, f, i + 1, rfl, by go_num, by omega, hf1, hpl, Lin.sta_pass HS.out (.inr hoc), HO.out, HB.out⟩
          case measure => simp [intOf]; omega
      · have hgez : ¬ (f : Int) ≤ (i : Int) := by omega
        have HO := Lib.hid hown
        have HB := Lib.hid hbel
        clear hown hbel
        go_wp2
        go_roundw
        case rel => exact ⟨pre, f, i + 1, rfl, by go_num, by omega, hf1, hpl, Lin.sta_pass HS.out (.inl (by omega)), HO.out, HB.out⟩
        case measure => simp [intOf]; omega
    · have hltz : ¬ (i : Int) < (s.size : Int) := by omega
      have HE : Hid (Lin.spl s.data.toList = (pre, s.data.toList.drop f)) := Lin.sta_end HS.out (by rw [← HSZ.out]; omega)
      have HX : Hid (sV (s.data.toList.drop f) = .string (s.extract f s.size)) := by
        show _ = _
        rw [← Lib.extract_to_end, sV_of]
      have hf2 : (f : Int) ≤ (s.size : Int) := by omega
      obtain ⟨A, c, rfl, hT⟩ : ∃ A c, u4 = .slice A pre.length c ∧ Txs wr A pre := by
        rcases hown.2 with ⟨h1, h0⟩ | ⟨g, c, cur, h1, _⟩
        · exact ⟨none, 0, by rw [h1, h0], by rw [List.length_eq_zero_iff.1 h0]; exact txs_nil _ _⟩
        · subst h1
          refine ⟨_, _, rfl, fun k hk => ⟨g, 0, rfl, ?_⟩⟩
          have hf := hown.cellAt k (by omega)
          rw [Nat.zero_add, hf, List.getElem?_map, List.getElem?_eq_getElem hk]
          unfold at' sV
          rw [List.getD_eq_getElem?_getD, List.getElem?_eq_getElem hk]
          rfl
      have HT := Lib.hid hT
      have HB := Lib.hid hbel
      clear hown hbel hT HS
      go_wp2_with fail
      go_quiet (fail)
      go_wp2
      go_ret2
      rw [HE.out]
      exact ⟨⟨A, c, by rw [HX.out]; rfl, HT.out⟩, below_drewN HB.out _⟩
end Go.Proofs.YtakhgoifgpdgiaaDoor
