/-
  PROVED HERE: what localAt of the answer computes.
-/
import Derived.Test.YtifheakepegjcaaDoorRRt
set_option linter.unusedVariables false
namespace Adr
theorem inL_parts (c : UInt8) : inL c = (letB c || (sgnB c || (c == 46))) := by
  unfold inL atomB
  rw [Bool.or_assoc]
theorem rdL_plain_no {T : List UInt8} (h : atB 34 T = false) (g : plainB (T.takeWhile inL) = false) : rdL T = none := by unfold rdL; simp [h, g]
theorem rdL_plain_yes {T : List UInt8} (h : atB 34 T = false) (g : plainB (T.takeWhile inL) = true) : rdL T = some (T.takeWhile inL, T.dropWhile inL) := by unfold rdL; simp [h, g]
theorem rdL_q {T : List UInt8} (h : atB 34 T = true) : rdL T = rdQ T.tail := by unfold rdL; rw [if_pos h]
theorem qlp_nil (acc : List UInt8) : qlp [] acc = none := by unfold qlp; rfl
end Adr
namespace Go.Proofs.YtifheakepegjcaaDoor
open Go.RowKit
/-- What localAt answers. -/
def lcV (n : Nat) : Option (List UInt8 × List UInt8) → Value
  | none => .tuple #[.string ⟨#[]⟩, .int .i64 (-1)]
  | some (l, r) => .tuple #[.string ⟨l.toArray⟩, .int .i64 ((n - r.length : Nat) : Int)]
/-- 'string(b)' of bytes that the call owns, in a later world. -/
theorem back_later {w W : World} {base : Nat} {v : Value} {l : List UInt8} {n : Nat} (h : w.ownsRow base 5 1 v n (Lib.byteCells l)) (hn : l.length = n) (hb : Below w.heap.size w W) : (convert 46 9 v).run Tryd.prog W = .ok (.string ⟨l.toArray⟩) W := by
  subst hn
  have hlt := h.lt
  rcases h.2 with ⟨h1, h0⟩ | ⟨g, c, cur, h1, _⟩
  · have : l = [] := List.length_eq_zero_iff.1 h0
    subst this
    subst h1
    exact run_convert_bytes_string W 46 9 5 none 0 0 Tryd.underlying46 Tryd.underlying5 Tryd.underlying9
  · subst h1
    have hg : g < w.heap.size := (hlt g rfl).2
    refine run_convert_bytes_back W 46 9 5 ⟨g, 0, none⟩ c l Tryd.underlying46 Tryd.underlying5 Tryd.underlying9 (fun j hj => ?_)
    rw [add_off, Nat.zero_add, hb.cell (p := ⟨g, j, none⟩) hg, h.cellAt j (by omega)]
    unfold Lib.byteCells
    rw [List.getElem?_map, List.getElem?_eq_getElem hj]
    rfl
/-- A row of bytes that the call owns, at a round. -/
structure Or (w : World) (v : Value) (wr : World) (acc : List UInt8) : Prop where
  own : wr.ownsRow w.heap.size 5 1 v acc.length (Lib.byteCells acc)
  bel : Below w.heap.size w wr
theorem or_app {w wr w1 : World} {v v' : Value} {acc : List UInt8} {c : UInt8} {o : Obj} (h : Or w v wr acc) (hown : w1.ownsRow w.heap.size 5 1 v' (acc.length + 1) (Lib.byteCells acc ++ [.int .u8 (c.toNat : Int)])) (hg : (wr.alloc o).grownBy w1 v.ownBlock) : Or w v' w1 (acc ++ [c]) := by
  have hws := h.bel.size
  refine ⟨?_, (h.bel.alloc hws _).grown hg (by simp only [World.size_alloc]; omega) (fun q hq => (h.own.lt q hq).1)⟩
  rw [List.length_append, ← cells_one]
  exact hown
/-- A round of the loop in quotes. -/
structure Qi (S : ByteArray) (k : Nat) (acc : List UInt8) (Q : Option (List UInt8 × List UInt8)) : Prop where
  q : Adr.qlp (S.data.toList.drop k) acc = Q
  len : acc.length ≤ k
theorem at_drop_cons (S : ByteArray) (k : Nat) (h : k < S.size) : S.data.toList.drop k = S[k] :: S.data.toList.drop (k + 1) := by
  have hl : k < S.data.toList.length := by rw [← Lib.size_eq]; exact h
  rw [List.drop_eq_getElem_cons hl, at_data S k h hl]
theorem drop_end (S : ByteArray) (k : Nat) (h : S.size ≤ k) : S.data.toList.drop k = [] := List.drop_eq_nil_of_le (by rw [← Lib.size_eq]; exact h)

set_option maxRecDepth 100000 in
set_option maxHeartbeats 4000000 in
theorem localAt_any (S : ByteArray) (i : Nat) (w : World) (hi : i ≤ S.size) (hs : S.size < 4294967281) :
    Calls Tryd.prog 33 #[.string S, .int .i64 i] w fun e w' => e = .returned (lcV S.size (Adr.rdL (S.data.toList.drop i))) ∧ Below w.heap.size w w' := by
  obtain ⟨i0, hi0, hz0, hz1, hz2⟩ := info_parts info5
  have I34 := Lib.hid (fun (W : World) => is_any S i 34 34 rfl W (by omega))
  have hemp : Or w (.slice (some ⟨w.heap.size, 0, none⟩) 0 0) (w.alloc (.cells #[] 5)) [] := ⟨World.ownsRow_lit w #[] 0 (Nat.le_refl _) (by unfold maxLen; omega) rfl, (Below.refl _ _).alloc (Nat.le_refl _) _⟩
  have HEMP := Lib.hid hemp
  clear hemp
  cases hq : Adr.atB 34 (S.data.toList.drop i) with
  | false =>
    rw [hq] at I34
    have HNO := Lib.hid (fun g => Adr.rdL_plain_no hq g)
    have HYES := Lib.hid (fun g => Adr.rdL_plain_yes hq g)
    have HL : Hid ((S.data.toList.drop i).length = S.size - i) := by show _ = _; rw [List.length_drop, ← Lib.size_eq]
    have HG : Hid (∀ (n : Nat) (h : i + n < S.size) (h2 : n < (S.data.toList.drop i).length), (S.data.toList.drop i)[n] = S[i + n]) := by
      intro n h h2
      rw [List.getElem_drop, at_data S (i + n) h (by rw [← Lib.size_eq]; exact h)]
    generalize S.data.toList.drop i = T at *
    have HW := Lib.hid (Adr.while_stop Adr.inL T)
    generalize Adr.rdL T = o at *
    clear hq
    go_enter Tryd.func33, Tryd.ntmps33
    go_wp2_with (go_at_call 31; refine (I34.out _).mono ?_; rintro e w' ⟨rfl, rfl⟩)
    go_loopw [1, 6] (fun u v wr => ∃ n k : Nat, u = .int .i64 k ∧ k = i + n ∧ k ≤ S.size ∧ Hid ((T.take n).all Adr.inL = true) ∧ Hid (Or w v wr (T.take n))) (fun u _ _ => S.size - (intOf u).toNat)
    case atStart => exact ⟨0, i, rfl, rfl, hi, rfl, HEMP⟩
    case round =>
      obtain ⟨n, k, rfl, hkn, hk, HK, HO⟩ := hrel
      have hnl : (T.take n).length = n := by rw [List.length_take, HL.out]; omega
      have hsz : w.heap.size ≤ wr.heap.size := HO.out.bel.size
      have HSTOP : Hid ((∀ h : n < T.length, Adr.inL T[n] = false) → T.takeWhile Adr.inL = T.take n ∧ T.dropWhile Adr.inL = T.drop n) := fun g => HW.out n (by rw [HL.out]; omega) HK.out g
      have hdl : (T.drop n).length = S.size - k := by rw [List.length_drop, HL.out]; omega
      have HN0 : Hid (T.takeWhile Adr.inL = T.take n ∧ T.dropWhile Adr.inL = T.drop n → Adr.plainB (T.take n) = false → lcV S.size o = .tuple #[.string ⟨#[]⟩, .int .i64 (-1)]) := fun h g => by rw [HNO.out (by rw [h.1]; exact g)]; rfl
      have HY0 : Hid (T.takeWhile Adr.inL = T.take n ∧ T.dropWhile Adr.inL = T.drop n → Adr.plainB (T.take n) = true → lcV S.size o = .tuple #[.string ⟨(T.take n).toArray⟩, .int .i64 k]) := fun h g => by
        rw [HYES.out (by rw [h.1]; exact g), lcV, h.1, h.2, hdl]
        congr 5
        omega
      have HP := Lib.hid (fun W : World => rplain_any ⟨(T.take n).toArray⟩ W (by rw [size_mk]; omega))
      rw [show (⟨(T.take n).toArray⟩ : ByteArray).data.toList = T.take n from rfl] at HP
      have HBK := Lib.hid (fun (W : World) (hb : Below wr.heap.size wr W) => back_later HO.out.own rfl hb)
      have hlen2 : (T.take n).length < 4294967281 := by omega
      have HKN := Lib.hid hkn
      by_cases hlt : k < S.size
      · have hltz : (k : Int) < (S.size : Int) := by omega
        have hnT : n < T.length := by rw [HL.out]; omega
        have hget : T[n] = S[k]'hlt := by subst hkn; exact HG.out n hlt hnT
        have HTS : Hid (T.take (n + 1) = T.take n ++ [S[k]'hlt]) := by
          show _ = _
          rw [List.take_succ_eq_append_getElem hnT, hget]
        have hp := Adr.inL_parts (S[k]'hlt)
        have HMORE : Hid (Adr.inL (S[k]'hlt) = true → (T.take (n + 1)).all Adr.inL = true) := fun h => Adr.while_more Adr.inL T n hnT HK.out (by rw [hget]; exact h)
        have HEND : Hid (Adr.inL (S[k]'hlt) = false → T.takeWhile Adr.inL = T.take n ∧ T.dropWhile Adr.inL = T.drop n) := fun h => HSTOP.out (fun _ => by rw [hget]; exact h)
        have HLT := Lib.hid (fun W : World => rletter_b (S[k]'hlt) W)
        have HSG := Lib.hid (fun W : World => rsign_b (S[k]'hlt) W)
        have e2 := Adr.u8_beq (S[k]'hlt) 46
        rw [show ((46 : UInt8).toNat : Int) = 46 from rfl] at e2
        generalize ((S[k]'hlt) == 46) = b2 at *
        generalize Adr.letB (S[k]'hlt) = b0 at *
        generalize Adr.sgnB (S[k]'hlt) = b1 at *
        clear hget hnT HSTOP HK HG HL HW HNO HYES HEMP I34 hkn hdl hnl
        cases b0 with
        | true =>
          have HM := Lib.hid (HMORE.out (by rw [hp]; rfl))
          clear HMORE HEND hp
          go_wp2_with (first
            | (go_at_call 39; refine (HLT.out _).mono ?_; rintro e w' ⟨rfl, rfl⟩)
            | (go_at_call 45; refine (HSG.out _).mono ?_; rintro e w' ⟨rfl, rfl⟩)
            | (at_builtin; go_must (refine wpList_append_own _ rfl (.tmp 34) (.tmp 38) 46 rfl w.heap.size 5 i0 (.int .u8 0) 1 1 Tryd.underlying46 hi0 hz0 hz1 hz2 rfl (by decide) _ _ _ rfl (HO.out.own.alloc _) ⟨wr.heap.size, 0, none⟩ 1 1 [.int .u8 ((S[k]'hlt).toNat : Int)] rfl rfl ?x1 ?x2 ?x3 ?x4 ?x5 ?_)))
          all_goals try exact cell_one_new _ _ _
          case x2 => first | rfl | (intro u hu; simp only [List.mem_singleton] at hu; subst hu; rfl)
          case x3 => unfold maxLen; omega
          case x4 => omega
          case x5 => first | omega | (simp only [World.size_alloc]; omega)
          intro v' w1 hown1 hgrow _
          have HO1 := Lib.hid (or_app (v' := v') (w1 := w1) (c := (S[k]'hlt)) HO.out (by first | exact hown1 | (rw [List.length_take]; exact hown1)) hgrow)
          clear hown1 hgrow
          go_wp2
          go_roundw
          case rel => exact ⟨n + 1, k + 1, by go_num, by have := HKN.out; omega, by omega, HM, by rw [HTS.out]; exact HO1⟩
          case measure => simp [intOf]; omega
        | false =>
          cases b1 with
          | true =>
            have HM := Lib.hid (HMORE.out (by rw [hp]; rfl))
            clear HMORE HEND hp
            go_wp2_with (first
              | (go_at_call 39; refine (HLT.out _).mono ?_; rintro e w' ⟨rfl, rfl⟩)
              | (go_at_call 45; refine (HSG.out _).mono ?_; rintro e w' ⟨rfl, rfl⟩)
              | (at_builtin; go_must (refine wpList_append_own _ rfl (.tmp 34) (.tmp 38) 46 rfl w.heap.size 5 i0 (.int .u8 0) 1 1 Tryd.underlying46 hi0 hz0 hz1 hz2 rfl (by decide) _ _ _ rfl (HO.out.own.alloc _) ⟨wr.heap.size, 0, none⟩ 1 1 [.int .u8 ((S[k]'hlt).toNat : Int)] rfl rfl ?y1 ?y2 ?y3 ?y4 ?y5 ?_)))
            all_goals try exact cell_one_new _ _ _
            case y2 => first | rfl | (intro u hu; simp only [List.mem_singleton] at hu; subst hu; rfl)
            case y3 => unfold maxLen; omega
            case y4 => omega
            case y5 => first | omega | (simp only [World.size_alloc]; omega)
            intro v' w1 hown1 hgrow _
            have HO1 := Lib.hid (or_app (v' := v') (w1 := w1) (c := (S[k]'hlt)) HO.out (by first | exact hown1 | (rw [List.length_take]; exact hown1)) hgrow)
            clear hown1 hgrow
            go_wp2
            go_roundw
            case rel => exact ⟨n + 1, k + 1, by go_num, by have := HKN.out; omega, by omega, HM, by rw [HTS.out]; exact HO1⟩
            case measure => simp [intOf]; omega
          | false =>
            cases b2 with
            | true =>
              have HM := Lib.hid (HMORE.out (by rw [hp]; rfl))
              clear HMORE HEND hp
              go_wp2_with (first
                | (go_at_call 39; refine (HLT.out _).mono ?_; rintro e w' ⟨rfl, rfl⟩)
                | (go_at_call 45; refine (HSG.out _).mono ?_; rintro e w' ⟨rfl, rfl⟩)
                | (at_builtin; go_must (refine wpList_append_own _ rfl (.tmp 34) (.tmp 38) 46 rfl w.heap.size 5 i0 (.int .u8 0) 1 1 Tryd.underlying46 hi0 hz0 hz1 hz2 rfl (by decide) _ _ _ rfl (HO.out.own.alloc _) ⟨wr.heap.size, 0, none⟩ 1 1 [.int .u8 ((S[k]'hlt).toNat : Int)] rfl rfl ?z1 ?z2 ?z3 ?z4 ?z5 ?_)))
              all_goals try exact cell_one_new _ _ _
              case z2 => first | rfl | (intro u hu; simp only [List.mem_singleton] at hu; subst hu; rfl)
              case z3 => unfold maxLen; omega
              case z4 => omega
              case z5 => first | omega | (simp only [World.size_alloc]; omega)
              intro v' w1 hown1 hgrow _
              have HO1 := Lib.hid (or_app (v' := v') (w1 := w1) (c := (S[k]'hlt)) HO.out (by first | exact hown1 | (rw [List.length_take]; exact hown1)) hgrow)
              clear hown1 hgrow
              go_wp2
              go_roundw
              case rel => exact ⟨n + 1, k + 1, by go_num, by have := HKN.out; omega, by omega, HM, by rw [HTS.out]; exact HO1⟩
              case measure => simp [intOf]; omega
            | false =>
              have HE := Lib.hid (HEND.out (by rw [hp]; rfl))
              clear HMORE HEND hp
              cases hpl : Adr.plainB (T.take n) with
              | false =>
                rw [hpl] at HP
                have HV := Lib.hid (HN0.out HE.out hpl)
                have hb1 := HBK.out wr (Below.refl _ _)
                clear hpl HN0 HY0 HE
                go_wp2_with (first
                  | (go_at_call 39; refine (HLT.out _).mono ?_; rintro e w' ⟨rfl, rfl⟩)
                  | (go_at_call 45; refine (HSG.out _).mono ?_; rintro e w' ⟨rfl, rfl⟩)
                  | (go_at_call 22; refine (HP.out _).mono ?_; rintro e w1 ⟨rfl, h1⟩; have H1 := Lib.hid h1; clear h1))
                go_ret2
                exact ⟨by rw [HV.out]; rfl, HO.out.bel.trans (H1.out.mono hsz)⟩
              | true =>
                rw [hpl] at HP
                have HV := Lib.hid (HY0.out HE.out hpl)
                have hb1 := HBK.out wr (Below.refl _ _)
                clear hpl HN0 HY0 HE
                go_wp2_with (first
                  | (go_at_call 39; refine (HLT.out _).mono ?_; rintro e w' ⟨rfl, rfl⟩)
                  | (go_at_call 45; refine (HSG.out _).mono ?_; rintro e w' ⟨rfl, rfl⟩)
                  | (go_at_call 22; refine (HP.out _).mono ?_; rintro e w1 ⟨rfl, h1⟩; have H1 := Lib.hid h1; have hb2 := HBK.out w1 h1; clear h1))
                go_ret2
                exact ⟨by rw [HV.out]; rfl, HO.out.bel.trans (H1.out.mono hsz)⟩
      · have hltz : ¬ (k : Int) < (S.size : Int) := by omega
        have HE := Lib.hid (HSTOP.out (fun h => by rw [HL.out] at h; omega))
        clear HSTOP HK HG HL HW HNO HYES HEMP I34 hkn hdl hnl
        cases hpl : Adr.plainB (T.take n) with
        | false =>
          rw [hpl] at HP
          have HV := Lib.hid (HN0.out HE.out hpl)
          have hb1 := HBK.out wr (Below.refl _ _)
          clear hpl HN0 HY0 HE
          go_wp2_with (first
            | (go_at_call 22; refine (HP.out _).mono ?_; rintro e w1 ⟨rfl, h1⟩; have H1 := Lib.hid h1; clear h1))
          go_ret2
          exact ⟨by rw [HV.out]; rfl, HO.out.bel.trans (H1.out.mono hsz)⟩
        | true =>
          rw [hpl] at HP
          have HV := Lib.hid (HY0.out HE.out hpl)
          have hb1 := HBK.out wr (Below.refl _ _)
          clear hpl HN0 HY0 HE
          go_wp2_with (first
            | (go_at_call 22; refine (HP.out _).mono ?_; rintro e w1 ⟨rfl, h1⟩; have H1 := Lib.hid h1; have hb2 := HBK.out w1 h1; clear h1))
          go_ret2
          exact ⟨by rw [HV.out]; rfl, HO.out.bel.trans (H1.out.mono hsz)⟩
  | true =>
    rw [hq] at I34
    have hlti : i < S.size := by rw [Lib.size_eq]; exact Adr.at_lt hq
    have HRD : Hid (Adr.rdL (S.data.toList.drop i) = Adr.rdQ (S.data.toList.drop (i + 1))) := by
      show _ = _
      rw [Adr.rdL_q hq, List.tail_drop]
    have HNONE : Hid (Adr.qlp (S.data.toList.drop (i + 1)) [] = none → lcV S.size (Adr.rdL (S.data.toList.drop i)) = .tuple #[.string ⟨#[]⟩, .int .i64 (-1)]) := fun h => by rw [HRD.out, Adr.rdQ_none h]; rfl
    have HNOT : Hid (∀ l r, Adr.qlp (S.data.toList.drop (i + 1)) [] = some (l, r) → Adr.localB l = false → lcV S.size (Adr.rdL (S.data.toList.drop i)) = .tuple #[.string ⟨#[]⟩, .int .i64 (-1)]) := fun l r h g => by rw [HRD.out, Adr.rdQ_no h g]; rfl
    have HYES : Hid (∀ l r, Adr.qlp (S.data.toList.drop (i + 1)) [] = some (l, r) → Adr.localB l = true → lcV S.size (Adr.rdL (S.data.toList.drop i)) = .tuple #[.string ⟨l.toArray⟩, .int .i64 ((S.size - r.length : Nat) : Int)]) := fun l r h g => by rw [HRD.out, Adr.rdQ_yes h g]; rfl
    have HST : Hid (Qi S (i + 1) [] (Adr.qlp (S.data.toList.drop (i + 1)) [])) := ⟨rfl, Nat.zero_le _⟩
    generalize Adr.qlp (S.data.toList.drop (i + 1)) [] = Q at *
    generalize lcV S.size (Adr.rdL (S.data.toList.drop i)) = R at *
    clear hq HRD
    go_enter Tryd.func33, Tryd.ntmps33
    go_wp2_with (go_at_call 31; refine (I34.out _).mono ?_; rintro e w' ⟨rfl, rfl⟩)
    go_loopw [1, 6] (fun u v wr => ∃ (k : Nat) (acc : List UInt8), u = .int .i64 k ∧ k ≤ S.size + 1 ∧ Hid (Qi S k acc Q) ∧ Hid (Or w v wr acc)) (fun u _ _ => S.size + 1 - (intOf u).toNat)
    case atStart => exact ⟨i + 1, [], by go_num, by omega, HST, HEMP⟩
    case round =>
      obtain ⟨k, acc, rfl, hk, HQ, HO⟩ := hrel
      have hal := HQ.out.len
      have hsz : w.heap.size ≤ wr.heap.size := HO.out.bel.size
      have HP := Lib.hid (fun W : World => rlocal_any ⟨acc.toArray⟩ W (by rw [size_mk]; omega))
      rw [show (⟨acc.toArray⟩ : ByteArray).data.toList = acc from rfl] at HP
      have hb1 := back_later HO.out.own rfl (Below.refl wr.heap.size wr)
      have hb2 := Lib.hid hb1
      clear hb1 HEMP HST I34
      by_cases hlt : k < S.size
      · have hltz : (k : Int) < (S.size : Int) := by omega
        have hgez : ¬ (S.size : Int) ≤ (k : Int) := by omega
        have HDC := Lib.hid (at_drop_cons S k hlt)
        by_cases q1 : (S[k]'hlt) = 34
        · have e1 : ((S[k]'hlt).toNat : Int) = 34 := by rw [q1]; rfl
          have HQQ : Hid (Q = some (acc, S.data.toList.drop (k + 1))) := by
            have := HQ.out.q
            rw [HDC.out, q1, Adr.qlp_end] at this
            exact this.symm
          have HKL : Hid ((S.size - (S.data.toList.drop (k + 1)).length : Nat) = k + 1) := by
            show _ = _
            rw [List.length_drop, ← Lib.size_eq]
            omega
          have hb1 := hb2.out
          clear q1
          cases hl : Adr.localB acc with
          | false =>
            rw [hl] at HP
            have HV := Lib.hid (HNOT.out _ _ HQQ.out hl)
            clear hl HNONE HNOT HYES
            go_wp2_with (go_at_call 20; refine (HP.out _).mono ?_; rintro e w' ⟨rfl, rfl⟩)
            go_ret2
            exact ⟨by rw [HV.out]; rfl, HO.out.bel⟩
          | true =>
            rw [hl] at HP
            have HV := Lib.hid (HYES.out _ _ HQQ.out hl)
            rw [HKL.out] at HV
            clear hl HNONE HNOT HYES
            go_wp2_with (go_at_call 20; refine (HP.out _).mono ?_; rintro e w' ⟨rfl, rfl⟩)
            go_ret2
            exact ⟨by rw [HV.out]; go_num, HO.out.bel⟩
        · have e1 : ¬ ((S[k]'hlt).toNat : Int) = 34 := fun h => q1 (UInt8.toNat_inj.1 (by rw [show (34 : UInt8).toNat = 34 from rfl]; omega))
          by_cases q2 : (S[k]'hlt) = 92
          · have e2 : ((S[k]'hlt).toNat : Int) = 92 := by rw [q2]; rfl
            clear q1
            by_cases hl2 : k + 1 < S.size
            · obtain ⟨k1, hk1⟩ : ∃ k1, k1 = k + 1 := ⟨_, rfl⟩
              have hlt1 : k1 < S.size := by omega
              have hltz1 : (k1 : Int) < (S.size : Int) := by omega
              have HQ1 : Hid (Qi S (k1 + 1) (acc ++ [S[k1]'hlt1]) Q) := by
                refine ⟨?_, by rw [List.length_append]; simp; omega⟩
                have := HQ.out.q
                rw [HDC.out, q2, ← hk1, at_drop_cons S k1 hlt1, Adr.qlp_sign] at this
                exact this
              have w1 : IntKind.i64.wrap ((k : Int) + 1) = (k1 : Int) := by rw [IntKind.wrap_i64]; omega
              have h2k : k < k1 := by omega
              have h3k : k1 ≤ S.size := by omega
              clear q2 HNONE HNOT HYES hk1
              go_wp2_with (first
                | (at_builtin; go_must (refine wpList_append_own _ rfl (.tmp 71) (.tmp 75) 46 rfl w.heap.size 5 i0 (.int .u8 0) 1 1 Tryd.underlying46 hi0 hz0 hz1 hz2 rfl (by decide) _ _ _ rfl (HO.out.own.alloc _) ⟨wr.heap.size, 0, none⟩ 1 1 [.int .u8 ((S[k1]'hlt1).toNat : Int)] rfl rfl ?p1 ?p2 ?p3 ?p4 ?p5 ?_)))
              all_goals try exact cell_one_new _ _ _
              case p2 => first | rfl | (intro u hu; simp only [List.mem_singleton] at hu; subst hu; rfl)
              case p3 => unfold maxLen; omega
              case p4 => omega
              case p5 => first | omega | (simp only [World.size_alloc]; omega)
              intro v' w1 hown1 hgrow _
              have HO1 := Lib.hid (or_app (v' := v') (w1 := w1) (c := (S[k1]'hlt1)) HO.out (by first | exact hown1 | (rw [List.length_take]; exact hown1)) hgrow)
              clear hown1 hgrow
              go_wp2
              go_roundw
              case rel => exact ⟨k1 + 1, acc ++ [S[k1]'hlt1], by go_num, by omega, HQ1, HO1⟩
              case measure => simp [intOf]; omega
            · obtain ⟨k1, hk1⟩ : ∃ k1, k1 = k + 1 := ⟨_, rfl⟩
              have hlt1 : ¬ k1 < S.size := by omega
              have hltz1 : ¬ (k1 : Int) < (S.size : Int) := by omega
              have HQ1 : Hid (Qi S (k1 + 1) acc Q) := by
                refine ⟨?_, by omega⟩
                have := HQ.out.q
                rw [HDC.out, q2, ← hk1, drop_end S k1 (by omega), Adr.qlp_cut] at this
                rw [drop_end S (k1 + 1) (by omega), Adr.qlp_nil]
                exact this
              have w1 : IntKind.i64.wrap ((k : Int) + 1) = (k1 : Int) := by rw [IntKind.wrap_i64]; omega
              have h2k : k < k1 := by omega
              have h3k : k1 ≤ S.size := by omega
              clear q2 HNONE HNOT HYES hk1
              go_wp2_with fail
              go_roundw
              case rel => exact ⟨k1 + 1, acc, by go_num, by omega, HQ1, HO⟩
              case measure => simp [intOf]; omega
          · have e2 : ¬ ((S[k]'hlt).toNat : Int) = 92 := fun h => q2 (UInt8.toNat_inj.1 (by rw [show (92 : UInt8).toNat = 92 from rfl]; omega))
            have HQ1 : Hid (Qi S (k + 1) (acc ++ [S[k]'hlt]) Q) := by
              refine ⟨?_, by rw [List.length_append]; simp; omega⟩
              have := HQ.out.q
              rw [HDC.out, Adr.qlp_more _ _ _ q1 q2] at this
              exact this
            clear q1 q2 HNONE HNOT HYES
            go_wp2_with (first
              | (at_builtin; go_must (refine wpList_append_own _ rfl (.tmp 71) (.tmp 75) 46 rfl w.heap.size 5 i0 (.int .u8 0) 1 1 Tryd.underlying46 hi0 hz0 hz1 hz2 rfl (by decide) _ _ _ rfl (HO.out.own.alloc _) ⟨wr.heap.size, 0, none⟩ 1 1 [.int .u8 ((S[k]'hlt).toNat : Int)] rfl rfl ?r1 ?r2 ?r3 ?r4 ?r5 ?_)))
            all_goals try exact cell_one_new _ _ _
            case r2 => first | rfl | (intro u hu; simp only [List.mem_singleton] at hu; subst hu; rfl)
            case r3 => unfold maxLen; omega
            case r4 => omega
            case r5 => first | omega | (simp only [World.size_alloc]; omega)
            intro v' w1 hown1 hgrow _
            have HO1 := Lib.hid (or_app (v' := v') (w1 := w1) (c := (S[k]'hlt)) HO.out (by first | exact hown1 | (rw [List.length_take]; exact hown1)) hgrow)
            clear hown1 hgrow
            go_wp2
            go_roundw
            case rel => exact ⟨k + 1, acc ++ [S[k]'hlt], by go_num, by omega, HQ1, HO1⟩
            case measure => simp [intOf]; omega
      · have hltz : ¬ (k : Int) < (S.size : Int) := by omega
        have hgez : (S.size : Int) ≤ (k : Int) := by omega
        have HV : Hid (R = .tuple #[.string ⟨#[]⟩, .int .i64 (-1)]) := HNONE.out (by
          have := HQ.out.q
          rw [drop_end S k (by omega), Adr.qlp_nil] at this
          exact this.symm)
        clear HNONE HNOT HYES
        go_wp2_with fail
        go_ret2
        exact ⟨by rw [HV.out]; rfl, HO.out.bel⟩
end Go.Proofs.YtifheakepegjcaaDoor
