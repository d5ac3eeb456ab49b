/-
  PROVED HERE: what Stuff of the answer computes.
-/
import Derived.Test.YtakhgoifgpdgiaaDoorLarge
import Derived.Test.YtakhgoifgpdgiaaDoorRSplit
import Derived.Deep.DeepMust
set_option linter.unusedVariables false
namespace Go.Proofs.YtakhgoifgpdgiaaDoor
open Go.RowKit

theorem stu_joi (l : List (List UInt8)) : Lin.stu l = Lin.joi (l.map Lin.stf ++ [[46]]) := by
  unfold Lin.stu
  rw [Lin.joi_append]
  rfl
theorem take_map (f : List UInt8 → List UInt8) (l : List (List UInt8)) (k : Nat) (hk : k < l.length) : (l.map f).take (k + 1) = (l.map f).take k ++ [f (at' l k)] := by
  rw [List.take_add_one, List.getElem?_map, List.getElem?_eq_getElem hk]
  unfold at'
  rw [List.getD_eq_getElem?_getD, List.getElem?_eq_getElem hk]
  rfl
/-- A row that the call itself has made, seen as a row of texts. -/
theorem own_txs {w : World} {base : Nat} {v : Value} {l : List (List UInt8)} (h : w.ownsRow base 9 1 v l.length (l.map sV)) : ∃ A c, v = .slice A l.length c ∧ Txs w A l ∧ ∀ a, A = some a → a.block < w.heap.size ∧ base ≤ a.block := by
  have hlt := h.lt
  rcases h.2 with ⟨h1, h0⟩ | ⟨g, c, cur, h1, _⟩
  · refine ⟨none, 0, by rw [h1, h0], by rw [List.length_eq_zero_iff.1 h0]; exact txs_nil _ _, fun a h => by cases h⟩
  · subst h1
    refine ⟨_, _, rfl, fun k hk => ⟨g, 0, rfl, ?_⟩, fun a ha => ?_⟩
    · rw [Nat.zero_add, h.cellAt k (by omega), List.getElem?_map, List.getElem?_eq_getElem hk]
      unfold at' sV
      rw [List.getD_eq_getElem?_getD, List.getElem?_eq_getElem hk]
      rfl
    · cases ha
      have := hlt g rfl
      exact ⟨this.2, this.1⟩

set_option maxRecDepth 100000 in
set_option maxHeartbeats 4000000 in
theorem rstuff_any (A : Option Addr) (cap n : Nat) (l : List (List UInt8)) (w : World) (hn : l.length = n) (h : Txs w A l) (hs : n < 4294967296) (hlen : (Lin.stu l).length ≤ 140737488355328) :
    Calls Tryd.prog 21 #[.slice A n cap] w fun e w' => e = .returned (.string ⟨(Lin.stu l).toArray⟩) ∧ Below w.heap.size w w' := by
  obtain ⟨i0, hi, hz0, hz1, hz2⟩ := info_parts info9
  have hlen2 : (Lin.joi (l.map Lin.stf)).length + 3 ≤ 140737488355328 := by
    have e : (Lin.stu l).length = (Lin.joi (l.map Lin.stf)).length + 3 := by unfold Lin.stu; rw [List.length_append]; rfl
    omega
  have HL : Hid ((Lin.joi (l.map Lin.stf ++ [[46]])).length < 4611686018427387904) := by
    show _ < _
    rw [← stu_joi]
    omega
  have H := Lib.hid h
  have HLN := Lib.hid hn
  clear h hn hlen
  go_enter Tryd.func21, Tryd.ntmps21
  go_wp2
  go_loopw [3, 4] (fun v u wr => ∃ k : Nat, u = .int .i64 k ∧ k ≤ n ∧ wr.ownsRow w.heap.size 9 1 v k (((l.map Lin.stf).take k).map sV) ∧ Below w.heap.size w wr) (fun _ u _ => n - (intOf u).toNat)
  case atStart => exact ⟨0, rfl, by omega, World.ownsRow_lit w #[] 0 (Nat.le_refl _) (by unfold maxLen; omega) rfl, (Below.refl _ _).alloc (Nat.le_refl _) _⟩
  case round =>
    obtain ⟨k, rfl, hk, hown, hbel⟩ := hrel
    have hws := hbel.size
    by_cases hlt : k < n
    · have hltz : (k : Int) < (n : Int) := by omega
      have hkl : k < l.length := by rw [HLN.out]; exact hlt
      obtain ⟨b1, o1, rfl, f1⟩ := H.out k hkl
      have hb1 := World.block_lt_of_cell? _ _ f1
      have f2 : wr.cell? ⟨b1, o1 + k, none⟩ = some (.string ⟨(at' l k).toArray⟩) := by rw [hbel.cell (p := ⟨b1, o1 + k, none⟩) hb1]; exact f1
      have HJ := Lib.hid (joi_succ (l.map Lin.stf) k (by rw [List.length_map]; exact hkl))
      rw [at_map _ _ _ hkl] at HJ
      have hb : (Lin.stf (at' l k)).length + 2 ≤ 140737488355328 := by
        have h1 := congrArg List.length HJ.out
        have h2 := joi_take_le (l.map Lin.stf) (k + 1)
        simp only [List.length_append, List.length_cons, List.length_nil] at h1
        omega
      have HT := Lib.hid (take_map Lin.stf l k hkl)
      have HO := Lib.hid hown
      have HB := Lib.hid hbel
      clear hkl HJ hown hbel f1
      generalize at' l k = X at *
      generalize (l.map Lin.stf).take k = P at *
      cases X with
      | nil =>
        have e1 : Lin.stf [] = [] := rfl
        rw [e1] at HT
        clear e1
        go_wp2_with (at_builtin; refine wpList_append_own _ rfl (.tmp 27) (.tmp 29) 22 rfl w.heap.size 9 i0 (.string ⟨#[]⟩) 1 16 Tryd.underlying22 hi hz0 hz1 hz2 rfl (by decide) _ _ _ rfl (HO.out.alloc _) ⟨wr.heap.size, 0, none⟩ 1 1 [.string ⟨#[]⟩] rfl rfl (cell_one_new _ _ _) ?c2 ?c3 ?c4 ?c5 ?_)
        case c2 => first | rfl | (intro u hu; simp only [List.mem_singleton] at hu; subst hu; rfl)
        case c3 => unfold maxLen; omega
        case c4 => omega
        case c5 => first | omega | (simp only [World.size_alloc]; omega)
        intro v' w1 hown1 hgrow _
        have hbn : Below w.heap.size w w1 := (HB.out.alloc hws _).grown hgrow (by simp only [World.size_alloc]; omega) (fun q hq => (HO.out.lt q hq).1)
        have HO1 := Lib.hid hown1
        have HB1 := Lib.hid hbn
        clear hown1 hgrow hbn
        go_wp2
        go_roundw
        case rel =>
          refine ⟨k + 1, by go_num, by omega, ?_, HB1.out⟩
          rw [HT.out, List.map_append, List.map_singleton]
          exact HO1.out
        case measure => simp [intOf]; omega
      | cons c t =>
        by_cases hc : c = 46
        · subst hc
          have e1 : Lin.stf (46 :: t) = 46 :: 46 :: t := rfl
          rw [e1] at HT hb
          simp only [List.length_cons] at hb
          have g1 : ¬ 9223372036854775807 < 1 + (t.length + 1) := by omega
          have e2 := mk_append [46] (46 :: t)
          clear e1
          go_wp2_with (at_builtin; refine wpList_append_own _ rfl (.tmp 27) (.tmp 29) 22 rfl w.heap.size 9 i0 (.string ⟨#[]⟩) 1 16 Tryd.underlying22 hi hz0 hz1 hz2 rfl (by decide) _ _ _ rfl (HO.out.alloc _) ⟨wr.heap.size, 0, none⟩ 1 1 [.string ⟨(46 :: 46 :: t).toArray⟩] rfl rfl (cell_one_new _ _ _) ?c2 ?c3 ?c4 ?c5 ?_)
          case c2 => first | rfl | (intro u hu; simp only [List.mem_singleton] at hu; subst hu; rfl)
          case c3 => unfold maxLen; omega
          case c4 => omega
          case c5 => first | omega | (simp only [World.size_alloc]; omega)
          intro v' w1 hown1 hgrow _
          have hbn : Below w.heap.size w w1 := (HB.out.alloc hws _).grown hgrow (by simp only [World.size_alloc]; omega) (fun q hq => (HO.out.lt q hq).1)
          have HO1 := Lib.hid hown1
          have HB1 := Lib.hid hbn
          clear hown1 hgrow hbn
          go_wp2
          go_roundw
          case rel =>
            refine ⟨k + 1, by go_num, by omega, ?_, HB1.out⟩
            rw [HT.out, List.map_append, List.map_singleton]
            exact HO1.out
          case measure => simp [intOf]; omega
        · have hcz : ¬ (c.toNat : Int) = 46 := fun e => hc (UInt8.toNat_inj.1 (by show c.toNat = 46; omega))
          have hcn : ¬ c.toNat = 46 := fun e => hcz (by rw [e]; rfl)
          have hcb : ((c.toNat : Int) == 46) = false := beq_eq_false_iff_ne.2 hcz
          have hpos : 0 < (⟨(c :: t).toArray⟩ : ByteArray).size := by rw [size_mk]; exact Nat.succ_pos _
          have hcg : ((((⟨(c :: t).toArray⟩ : ByteArray)[0]'hpos).toNat : Int) == 46) = false := hcb
          have e1 : Lin.stf (c :: t) = c :: t := by
            unfold Lin.stf
            rw [if_neg]
            simp only [Lib.hasPrefix, List.isPrefixOf, Bool.and_true, beq_iff_eq]
            exact fun e => hc e.symm
          rw [e1] at HT hb
          clear e1
          go_wp2_with (at_builtin; refine wpList_append_own _ rfl (.tmp 27) (.tmp 29) 22 rfl w.heap.size 9 i0 (.string ⟨#[]⟩) 1 16 Tryd.underlying22 hi hz0 hz1 hz2 rfl (by decide) _ _ _ rfl (HO.out.alloc _) ⟨wr.heap.size, 0, none⟩ 1 1 [.string ⟨(c :: t).toArray⟩] rfl rfl (cell_one_new _ _ _) ?c2 ?c3 ?c4 ?c5 ?_)
          case c2 => first | rfl | (intro u hu; simp only [List.mem_singleton] at hu; subst hu; rfl)
          case c3 => unfold maxLen; omega
          case c4 => omega
          case c5 => first | omega | (simp only [World.size_alloc]; omega)
          intro v' w1 hown1 hgrow _
          have hbn : Below w.heap.size w w1 := (HB.out.alloc hws _).grown hgrow (by simp only [World.size_alloc]; omega) (fun q hq => (HO.out.lt q hq).1)
          have HO1 := Lib.hid hown1
          have HB1 := Lib.hid hbn
          clear hown1 hgrow hbn
          go_wp2
          go_roundw
          case rel =>
            refine ⟨k + 1, by go_num, by omega, ?_, HB1.out⟩
            rw [HT.out, List.map_append, List.map_singleton]
            exact HO1.out
          case measure => simp [intOf]; omega
    · have hltz : ¬ (k : Int) < (n : Int) := by omega
      obtain rfl : k = n := by omega
      have HT : Hid ((l.map Lin.stf).take k = l.map Lin.stf) := by show _ = _; rw [← HLN.out, ← List.length_map (f := Lin.stf)]; exact List.take_length
      rw [HT.out] at hown
      have HO := Lib.hid hown
      have HB := Lib.hid hbel
      clear hown hbel
      go_wp2_with (at_builtin; refine wpList_append_own _ rfl (.tmp 31) (.tmp 32) 22 rfl w.heap.size 9 i0 (.string ⟨#[]⟩) 1 16 Tryd.underlying22 hi hz0 hz1 hz2 rfl (by decide) _ _ _ rfl (HO.out.alloc _) ⟨wr.heap.size, 0, none⟩ 1 1 [.string ⟨#[46]⟩] rfl rfl (cell_one_new _ _ _) ?c2 ?c3 ?c4 ?c5 ?_)
      case c2 => first | rfl | (intro u hu; simp only [List.mem_singleton] at hu; subst hu; rfl)
      case c3 => unfold maxLen; omega
      case c4 => omega
      case c5 => first | omega | (simp only [World.size_alloc]; omega)
      intro v' w1 hown1 hgrow _
      have hbn : Below w.heap.size w w1 := (HB.out.alloc hws _).grown hgrow (by simp only [World.size_alloc]; omega) (fun q hq => (HO.out.lt q hq).1)
      have hll : (l.map Lin.stf ++ [[46]]).length = k + 1 := by rw [List.length_append, List.length_map, HLN.out]; rfl
      obtain ⟨A', c', rfl, hT, _⟩ : ∃ A c, v' = .slice A (k + 1) c ∧ Txs w1 A (l.map Lin.stf ++ [[46]]) ∧ ∀ a, A = some a → a.block < w1.heap.size ∧ w.heap.size ≤ a.block := by
        rw [← hll]
        refine own_txs ?_
        rw [hll, List.map_append, List.map_singleton, List.map_map]
        exact hown1
      have HTT := Lib.hid hT
      have HLL := Lib.hid hll
      have HB1 := Lib.hid hbn
      clear hown1 hgrow hbn hT hll
      have HJN := Lib.hid ((rjoin_any A' c' (k + 1) _ w1 HLL.out HTT.out (by omega) HL.out).mono fun e w' h => (⟨h.1, h.2.symm⟩ : e = _ ∧ w1 = w'))
      rw [← stu_joi] at HJN
      go_wp2_with (go_at_call 19; refine Calls.mono HJN.out ?_; rintro e w' ⟨rfl, rfl⟩)
      go_ret
      exact ⟨rfl, HB1.out⟩
end Go.Proofs.YtakhgoifgpdgiaaDoor
