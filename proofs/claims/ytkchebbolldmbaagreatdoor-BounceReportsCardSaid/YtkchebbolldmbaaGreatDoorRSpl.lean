/-
  PROVED HERE: what split of the answer computes.
-/
import Derived.Test.YtkchebbolldmbaaGreatDoorRSml
set_option linter.unusedVariables false
namespace Go.Proofs.YtkchebbolldmbaaGreatDoor
open Go.RowKit

theorem info9 : (Tryz.prog.info? 9).map (fun i => (i.zero, i.size, i.bytes)) = some (some (.string ⟨#[]⟩), 1, 16) := by kernel_rfl
/-- A row that the call itself has made, seen as a row of texts. -/
theorem own_txs {w : World} {base : Nat} {v : Value} {l : List (List UInt8)} {n : Nat} (h : w.ownsRow base 9 1 v n (l.map sV)) (hn : l.length = n) : ∃ A c, v = .slice A l.length c ∧ Txs w A l := by
  subst hn
  rcases h.2 with ⟨h1, h0⟩ | ⟨g, c, cur, h1, _⟩
  · exact ⟨none, 0, by rw [h1, h0], by rw [List.length_eq_zero_iff.1 h0]; exact txs_nil _ _⟩
  · subst h1
    refine ⟨_, _, rfl, fun k hk => ⟨g, 0, rfl, ?_⟩⟩
    rw [Nat.zero_add, h.cellAt k (by omega), List.getElem?_map, List.getElem?_eq_getElem hk, at_get l k hk]
    rfl

set_option maxRecDepth 100000 in
set_option maxHeartbeats 4000000 in
theorem rsplit_any (S : ByteArray) (w : World) (hs : S.size < 4294967281) :
    Calls Tryz.prog 79 #[.string S] w fun e w' => (∃ A c, e = .returned (.slice A (Adr.dots S.data.toList).length c) ∧ Txs w' A (Adr.dots S.data.toList)) ∧ Below w.heap.size w w' := by
  obtain ⟨i0, hi, hz0, hz1, hz2⟩ := info_parts info9
  have HZ := Lib.hid (Lib.size_eq S)
  go_enter Tryz.func79, Tryz.ntmps79
  go_wp2
  go_loopw [3, 4, 5] (fun v u x wr => ∃ (pre : List (List UInt8)) (f i : Nat), u = .int .i64 f ∧ x = .int .i64 i ∧ i ≤ S.size ∧ f ≤ i ∧ pre.length ≤ f ∧ Hid (Adr.Sta S.data.toList pre f i) ∧ wr.ownsRow w.heap.size 9 1 v pre.length (pre.map sV) ∧ Below w.heap.size w wr) (fun _ _ x _ => S.size - (intOf x).toNat)
  case atStart => exact ⟨[], 0, 0, rfl, rfl, by omega, by omega, by simp, Adr.sta_start _, World.ownsRow_lit w #[] 0 (Nat.le_refl _) (by unfold maxLen; omega) rfl, (Below.refl _ _).alloc (Nat.le_refl _) _⟩
  case round =>
    obtain ⟨pre, f, i, rfl, rfl, hi1, hf1, hpl, HS, hown, hbel⟩ := hrel
    have hws := hbel.size
    have HO := Lib.hid hown
    have HB := Lib.hid hbel
    clear hown hbel
    by_cases hlt : i < S.size
    · have hltz : (i : Int) < (S.size : Int) := by omega
      have hkl : i < S.data.toList.length := by rw [← HZ.out]; exact hlt
      have hat := at_data S i hlt hkl
      have hoa := Adr.occ_at S.data.toList i hkl
      rw [← hat] at hoa
      have e1 := Adr.u8_beq (S[i]'hlt) 46
      rw [show ((46 : UInt8).toNat : Int) = 46 from rfl, ← hoa] at e1
      clear hat hoa
      cases hoc : Lib.occAt S.data.toList Adr.D i with
      | true =>
        rw [hoc] at e1
        have HS2 := Lib.hid (Adr.sta_hit HS.out hoc)
        have HX : Hid (sV ((S.data.toList.drop f).take (i - f)) = .string (S.extract f i)) := by
          show _ = _
          rw [← Lib.extract_data, sV_of]
        have hi2 : (i : Int) ≤ (S.size : Int) := by omega
        have hfz : (f : Int) ≤ (i : Int) := by omega
        clear hoc
        go_wp2_with (at_builtin; go_must (refine wpList_append_own _ rfl (.tmp 17) (.tmp 22) 47 rfl w.heap.size 9 i0 (.string ⟨#[]⟩) 1 16 Tryz.underlying47 hi hz0 hz1 hz2 rfl (by decide) _ _ _ rfl (HO.out.alloc _) ⟨wr.heap.size, 0, none⟩ 1 1 [.string (S.extract f i)] rfl rfl ?c1 ?c2 ?c3 ?c4 ?c5 ?_))
        all_goals try exact cell_one_new _ _ _
        case c2 => first | rfl | (intro u hu; simp only [List.mem_singleton] at hu; subst hu; rfl)
        case c3 => unfold maxLen; omega
        case c4 => omega
        case c5 => first | omega | (simp only [World.size_alloc]; omega)
        intro v' w1 hown1 hgrow _
        have hb1 : Below w.heap.size w w1 := (HB.out.alloc hws _).grown hgrow (by simp only [World.size_alloc]; omega) (fun q hq => (HO.out.lt q hq).1)
        have HO1 := Lib.hid hown1
        have HB1 := Lib.hid hb1
        clear hown1 hgrow hb1
        go_wp2
        go_roundw
        case rel =>
          refine ⟨pre ++ [(S.data.toList.drop f).take (i - f)], i + 1, i + 1, by go_num, by go_num, by omega, by omega, by rw [List.length_append]; simp; omega, HS2, ?_, HB1.out⟩
          rw [List.length_append, List.map_append, List.map_singleton, HX.out]
          exact HO1.out
        case measure => simp [intOf]; omega
      | false =>
        rw [hoc] at e1
        have HS2 := Lib.hid (Adr.sta_pass HS.out hoc)
        clear hoc
        go_wp2_with fail
        go_roundw
        case rel => exact ⟨pre, f, i + 1, rfl, by go_num, by omega, by omega, hpl, HS2, HO.out, HB.out⟩
        case measure => simp [intOf]; omega
    · have hltz : ¬ (i : Int) < (S.size : Int) := by omega
      have HE : Hid (Adr.dots S.data.toList = pre ++ [S.data.toList.drop f]) := Adr.sta_end HS.out (by rw [← HZ.out]; omega)
      have HX : Hid (sV (S.data.toList.drop f) = .string (S.extract f S.size)) := by
        show _ = _
        rw [← Lib.extract_to_end, sV_of]
      have hf2 : (f : Int) ≤ (S.size : Int) := by omega
      clear HS
      go_wp2_with (at_builtin; go_must (refine wpList_append_own _ rfl (.tmp 26) (.tmp 30) 47 rfl w.heap.size 9 i0 (.string ⟨#[]⟩) 1 16 Tryz.underlying47 hi hz0 hz1 hz2 rfl (by decide) _ _ _ rfl (HO.out.alloc _) ⟨wr.heap.size, 0, none⟩ 1 1 [.string (S.extract f S.size)] rfl rfl ?d1 ?d2 ?d3 ?d4 ?d5 ?_))
      all_goals try exact cell_one_new _ _ _
      case d2 => first | rfl | (intro u hu; simp only [List.mem_singleton] at hu; subst hu; rfl)
      case d3 => unfold maxLen; omega
      case d4 => omega
      case d5 => first | omega | (simp only [World.size_alloc]; omega)
      intro v' w1 hown1 hgrow _
      have hb1 : Below w.heap.size w w1 := (HB.out.alloc hws _).grown hgrow (by simp only [World.size_alloc]; omega) (fun q hq => (HO.out.lt q hq).1)
      have hown2 : w1.ownsRow w.heap.size 9 1 v' (pre.length + 1) ((Adr.dots S.data.toList).map sV) := by
        rw [HE.out, List.map_append, List.map_singleton, HX.out]
        exact hown1
      have HT := Lib.hid (own_txs hown2 (by rw [HE.out, List.length_append]; rfl))
      have HB1 := Lib.hid hb1
      clear hown1 hown2 hgrow hb1
      go_wp2
      go_ret
      obtain ⟨A, c, e1, e2⟩ := HT.out
      exact ⟨⟨A, c, by rw [← e1]; rfl, e2⟩, HB1.out⟩
end Go.Proofs.YtkchebbolldmbaaGreatDoor
