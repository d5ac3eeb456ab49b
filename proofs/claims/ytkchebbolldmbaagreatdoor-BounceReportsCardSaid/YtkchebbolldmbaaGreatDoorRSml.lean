/-
  PROVED HERE: what Small of the answer computes.
-/
import Derived.Test.YtkchebbolldmbaaGreatDoorWrt
import Derived.Deep.DeepMust
set_option linter.unusedVariables false
namespace Go.Proofs.YtkchebbolldmbaaGreatDoor
open Go.RowKit

theorem cell_one_new (w : World) (v : Value) (t : TypeId) : ∀ j u, ([v] : List Value)[j]? = some u → (w.alloc (.cells #[v] t)).cell? ((⟨w.heap.size, 0, none⟩ : Addr).add j) = some u := by
  intro j u hj
  match j, hj with
  | 0, hj => simp at hj; subst hj; simp [Addr.add]
theorem sml_succ (t : List UInt8) (k : Nat) (h : k < t.length) : Adr.sml (t.take (k + 1)) = Adr.sml (t.take k) ++ [Adr.low t[k]] := by
  unfold Adr.sml
  rw [List.take_add_one, List.getElem?_eq_getElem h, List.map_append]
  rfl
/-- 'string(b)' of bytes that the call owns. -/
theorem back_own {w : World} {base : Nat} {v : Value} {l : List UInt8} {n : Nat} (h : w.ownsRow base 5 1 v n (Lib.byteCells l)) (hn : l.length = n) : (convert 75 9 v).run Tryz.prog w = .ok (.string ⟨l.toArray⟩) w := by
  subst hn
  rcases h.2 with ⟨h1, h0⟩ | ⟨g, c, cur, h1, _⟩
  · have : l = [] := List.length_eq_zero_iff.1 h0
    subst this
    subst h1
    exact run_convert_bytes_string w 75 9 5 none 0 0 Tryz.underlying75 Tryz.underlying5 Tryz.underlying9
  · subst h1
    refine run_convert_bytes_back w 75 9 5 ⟨g, 0, none⟩ c l Tryz.underlying75 Tryz.underlying5 Tryz.underlying9 (fun j hj => ?_)
    rw [add_off, Nat.zero_add, h.cellAt j (by omega)]
    unfold Lib.byteCells
    rw [List.getElem?_map, List.getElem?_eq_getElem hj]
    rfl

set_option maxRecDepth 100000 in
set_option maxHeartbeats 4000000 in
theorem rsmall_any (S : ByteArray) (w : World) (hs : S.size < 4294967296) : Calls Tryz.prog 24 #[.string S] w fun e w' => e = .returned (.string ⟨(Adr.sml S.data.toList).toArray⟩) ∧ Below w.heap.size w w' := by
  obtain ⟨i0, hi, hz0, hz1, hz2⟩ := info_parts info5
  have HZ := Lib.hid (Lib.size_eq S)
  go_enter Tryz.func24, Tryz.ntmps24
  go_wp2
  go_loopw [3, 4] (fun v u wr => ∃ k : Nat, u = .int .i64 k ∧ k ≤ S.size ∧ wr.ownsRow w.heap.size 5 1 v k (Lib.byteCells (Adr.sml (S.data.toList.take k))) ∧ Below w.heap.size w wr) (fun _ u _ => S.size - (intOf u).toNat)
  case atStart => exact ⟨0, rfl, by omega, World.ownsRow_lit w #[] 0 (Nat.le_refl _) (by unfold maxLen; omega) rfl, (Below.refl _ _).alloc (Nat.le_refl _) _⟩
  case round =>
    obtain ⟨k, rfl, hk, hown, hbel⟩ := hrel
    have hws := hbel.size
    by_cases hlt : k < S.size
    · have hltz : (k : Int) < (S.size : Int) := by omega
      have hkl : k < S.data.toList.length := by rw [← HZ.out]; exact hlt
      have hat := at_data S k hlt hkl
      have HSU := Lib.hid (sml_succ S.data.toList k hkl)
      have HO := Lib.hid hown
      have HB := Lib.hid hbel
      rw [← hat] at HSU
      clear hat hown hbel
      have c1 : 65 ≤ (S[k]'hlt).toNat ∧ (S[k]'hlt).toNat ≤ 90 ∨ (65 ≤ (S[k]'hlt).toNat ∧ ¬ (S[k]'hlt).toNat ≤ 90) ∨ ¬ 65 ≤ (S[k]'hlt).toNat := by omega
      rcases c1 with hg | hg | hg
      · obtain ⟨g1, g2⟩ := hg
        have HV : Hid (((S[k]'hlt).toNat : Int) + 32 = ((Adr.low (S[k]'hlt)).toNat : Int)) := (Adr.low_great _ ⟨g1, g2⟩).symm
        have g1z : (65 : Int) ≤ ((S[k]'hlt).toNat : Int) := by omega
        have g2z : ((S[k]'hlt).toNat : Int) ≤ 90 := by omega
        go_wp2_with (at_builtin; go_must (refine wpList_append_own _ rfl (.tmp 24) (.tmp 26) 75 rfl w.heap.size 5 i0 (.int .u8 0) 1 1 Tryz.underlying75 hi hz0 hz1 hz2 rfl (by decide) _ _ _ rfl (HO.out.alloc _) ⟨wr.heap.size, 0, none⟩ 1 1 [.int .u8 (((S[k]'hlt).toNat : Int) + 32)] rfl rfl ?d1b ?d2b ?d3b ?d4b ?d5b ?_))
        all_goals try exact cell_one_new _ _ _
        case d2b => first | rfl | (intro u hu; simp only [List.mem_singleton] at hu; subst hu; rfl)
        case d3b => unfold maxLen; omega
        case d4b => omega
        case d5b => first | omega | (simp only [World.size_alloc]; omega)
        intro v' w1 hown1 hgrow _
        have hb1 : Below w.heap.size w w1 := (HB.out.alloc hws _).grown hgrow (by simp only [World.size_alloc]; omega) (fun q hq => (HO.out.lt q hq).1)
        rw [HV.out] at hown1
        have HO1 := Lib.hid hown1
        have HB1 := Lib.hid hb1
        clear hown1 hgrow hb1
        go_wp2
        go_roundw
        case rel =>
          refine ⟨k + 1, by go_num, by omega, ?_, HB1.out⟩
          rw [HSU.out]
          have := HO1.out
          rw [cells_one] at this
          exact this
        case measure => simp [intOf]; omega
      · obtain ⟨g1, g2⟩ := hg
        have HV : Hid (((S[k]'hlt).toNat : Int) = ((Adr.low (S[k]'hlt)).toNat : Int)) := by show _ = _; rw [Adr.low_same _ (fun h => g2 h.2)]
        have g1z : (65 : Int) ≤ ((S[k]'hlt).toNat : Int) := by omega
        have g2z : ¬ ((S[k]'hlt).toNat : Int) ≤ 90 := by omega
        go_wp2_with (at_builtin; go_must (refine wpList_append_own _ rfl (.tmp 24) (.tmp 26) 75 rfl w.heap.size 5 i0 (.int .u8 0) 1 1 Tryz.underlying75 hi hz0 hz1 hz2 rfl (by decide) _ _ _ rfl (HO.out.alloc _) ⟨wr.heap.size, 0, none⟩ 1 1 [.int .u8 ((S[k]'hlt).toNat : Int)] rfl rfl ?d1c ?d2c ?d3c ?d4c ?d5c ?_))
        all_goals try exact cell_one_new _ _ _
        case d2c => first | rfl | (intro u hu; simp only [List.mem_singleton] at hu; subst hu; rfl)
        case d3c => unfold maxLen; omega
        case d4c => omega
        case d5c => first | omega | (simp only [World.size_alloc]; omega)
        intro v' w1 hown1 hgrow _
        have hb1 : Below w.heap.size w w1 := (HB.out.alloc hws _).grown hgrow (by simp only [World.size_alloc]; omega) (fun q hq => (HO.out.lt q hq).1)
        rw [HV.out] at hown1
        have HO1 := Lib.hid hown1
        have HB1 := Lib.hid hb1
        clear hown1 hgrow hb1
        go_wp2
        go_roundw
        case rel =>
          refine ⟨k + 1, by go_num, by omega, ?_, HB1.out⟩
          rw [HSU.out]
          have := HO1.out
          rw [cells_one] at this
          exact this
        case measure => simp [intOf]; omega
      · have HV : Hid (((S[k]'hlt).toNat : Int) = ((Adr.low (S[k]'hlt)).toNat : Int)) := by show _ = _; rw [Adr.low_same _ (fun h => hg h.1)]
        have g1z : ¬ (65 : Int) ≤ ((S[k]'hlt).toNat : Int) := by omega
        go_wp2_with (at_builtin; go_must (refine wpList_append_own _ rfl (.tmp 24) (.tmp 26) 75 rfl w.heap.size 5 i0 (.int .u8 0) 1 1 Tryz.underlying75 hi hz0 hz1 hz2 rfl (by decide) _ _ _ rfl (HO.out.alloc _) ⟨wr.heap.size, 0, none⟩ 1 1 [.int .u8 ((S[k]'hlt).toNat : Int)] rfl rfl ?d1d ?d2d ?d3d ?d4d ?d5d ?_))
        all_goals try exact cell_one_new _ _ _
        case d2d => first | rfl | (intro u hu; simp only [List.mem_singleton] at hu; subst hu; rfl)
        case d3d => unfold maxLen; omega
        case d4d => omega
        case d5d => first | omega | (simp only [World.size_alloc]; omega)
        intro v' w1 hown1 hgrow _
        have hb1 : Below w.heap.size w w1 := (HB.out.alloc hws _).grown hgrow (by simp only [World.size_alloc]; omega) (fun q hq => (HO.out.lt q hq).1)
        rw [HV.out] at hown1
        have HO1 := Lib.hid hown1
        have HB1 := Lib.hid hb1
        clear hown1 hgrow hb1
        go_wp2
        go_roundw
        case rel =>
          refine ⟨k + 1, by go_num, by omega, ?_, HB1.out⟩
          rw [HSU.out]
          have := HO1.out
          rw [cells_one] at this
          exact this
        case measure => simp [intOf]; omega
    · have hltz : ¬ (k : Int) < (S.size : Int) := by omega
      obtain rfl : k = S.size := by omega
      rw [show S.data.toList.take S.size = S.data.toList from by rw [HZ.out, List.take_length]] at hown
      have hback := back_own hown (by unfold Adr.sml; rw [List.length_map, HZ.out])
      have HB := Lib.hid hbel
      clear hown hbel
      go_wp2_with fail
      go_ret
      exact ⟨rfl, HB.out⟩
end Go.Proofs.YtkchebbolldmbaaGreatDoor
