/-
  PROVED HERE: what quoted of the program's reader of paths computes.
-/
import Derived.Test.YtkchebbolldmbaaGreatDoorRdD
set_option linter.unusedVariables false
namespace Adr
/-- What stands in quotes, and what is left behind them. -/
def qlp : List UInt8 → List UInt8 → Option (List UInt8 × List UInt8)
  | [], _ => none
  | x :: r, acc => if x = 34 then some (acc, r) else if x = 92 then (match r with | [] => none | c :: r' => qlp r' (acc ++ [c])) else qlp r (acc ++ [x])
theorem qlp_end (r acc : List UInt8) : qlp (34 :: r) acc = some (acc, r) := by unfold qlp; rfl
theorem qlp_cut (acc : List UInt8) : qlp [92] acc = none := by unfold qlp; rfl
theorem qlp_sign (c : UInt8) (r acc : List UInt8) : qlp (92 :: c :: r) acc = qlp r (acc ++ [c]) := by simp [qlp]
theorem qlp_more (x : UInt8) (r acc : List UInt8) (h : x ≠ 34) (g : x ≠ 92) : qlp (x :: r) acc = qlp r (acc ++ [x]) := by rw [qlp.eq_def]; simp [h, g]
/-- A local part in quotes, behind the first of them. -/
def rdQ (T : List UInt8) : Option (List UInt8 × List UInt8) :=
  match qlp T [] with
  | none => none
  | some (l, r) => if localB l = true then some (l, r) else none
theorem rdQ_none {T : List UInt8} (h : qlp T [] = none) : rdQ T = none := by unfold rdQ; rw [h]
theorem rdQ_no {T l r : List UInt8} (h : qlp T [] = some (l, r)) (g : localB l = false) : rdQ T = none := by unfold rdQ; rw [h]; simp [g]
theorem rdQ_yes {T l r : List UInt8} (h : qlp T [] = some (l, r)) (g : localB l = true) : rdQ T = some (l, r) := by unfold rdQ; rw [h]; simp [g]
end Adr
namespace Go.Proofs.YtkchebbolldmbaaGreatDoor
open Go.RowKit
variable {m : Int} {w wr : World} {b : Nat} {T : List UInt8} {c : UInt8}
theorem rs_no {o : Option (List UInt8 × List UInt8)} {w1 : World} (h : o = none) (g : Av b m w w1) : Rs m w b o (.panicked pnc) w1 := by subst h; exact ⟨rfl, g⟩
theorem emp_no (x : UInt8) (r : List UInt8) : ((⟨(x :: r).toArray⟩ : ByteArray).toList == []) = false ∧ ((⟨(x :: r).toArray⟩ : ByteArray).toList != []) = true := by
  have h1 := emp_beq ⟨(x :: r).toArray⟩
  have h2 := emp_bne ⟨(x :: r).toArray⟩
  exact ⟨h1, h2⟩
def lenAt (b : Nat) (w : World) : Nat := match w.cell? ⟨b, 0, none⟩ with | some (.string s) => s.size | _ => 0
theorem lenAt_rr (h : Rr m w b wr T) : lenAt b wr = T.length := by
  unfold lenAt
  rw [(rr_cell h).1]
  exact size_mk T
/-- A round's state. -/
structure Qs (m : Int) (w : World) (b B : Nat) (T1 : List UInt8) (v : Value) (wr : World) (acc U : List UInt8) : Prop where
  rr : Rr m w b wr U
  own : wr.ownsRow B 5 1 v acc.length (Lib.byteCells acc)
  q : Adr.qlp U acc = Adr.qlp T1 []
  len : acc.length + U.length ≤ T1.length
  size : B ≤ wr.heap.size
  lt : b < B
  ws : w.heap.size ≤ B

/-- A round's state, ahead of a byte that is taken in. -/
structure Qp (m : Int) (w : World) (b B : Nat) (T1 : List UInt8) (v : Value) (wr : World) (acc : List UInt8) (c : UInt8) (U : List UInt8) : Prop where
  rr : Rr m w b wr (c :: U)
  own : wr.ownsRow B 5 1 v acc.length (Lib.byteCells acc)
  q : Adr.qlp U (acc ++ [c]) = Adr.qlp T1 []
  len : acc.length + (c :: U).length ≤ T1.length
  size : B ≤ wr.heap.size
  lt : b < B
  ws : w.heap.size ≤ B
/-- Behind the byte is taken in, and not yet taken away. -/
structure Qa (m : Int) (w : World) (b B : Nat) (T1 : List UInt8) (v : Value) (wr : World) (acc : List UInt8) (c : UInt8) (U : List UInt8) : Prop where
  rr : Rr m w b wr (c :: U)
  own : wr.ownsRow B 5 1 v (acc.length + 1) (Lib.byteCells (acc ++ [c]))
  q : Adr.qlp U (acc ++ [c]) = Adr.qlp T1 []
  len : acc.length + (c :: U).length ≤ T1.length
  size : B ≤ wr.heap.size
  lt : b < B
  ws : w.heap.size ≤ B
theorem q_app {B : Nat} {T1 acc U : List UInt8} {v v' : Value} {w5 : World} {o : Obj} (h0 : 3 < w.heap.size) (h : Qp m w b B T1 v wr acc c U) (hown : w5.ownsRow B 5 1 v' (acc.length + 1) (Lib.byteCells acc ++ [.int .u8 (c.toNat : Int)])) (hg : (wr.alloc o).grownBy w5 v.ownBlock) : Qa m w b B T1 v' w5 acc c U := by
  have hb : Below B wr w5 := ((Below.refl _ _).alloc h.size o).grown hg (by simp only [World.size_alloc]; have := h.size; omega) (fun q hq => (h.own.lt q hq).1)
  have a := h.rr.at'
  rw [cells_one] at hown
  exact ⟨⟨⟨hb.os.trans a.os, hb.tape.trans a.tape, hb.output.trans a.output, Nat.le_trans a.size hb.size, fun k hk hkb => (hb.block k (Nat.lt_of_lt_of_le hk h.ws)).trans (a.block k hk hkb), by rw [hb.cell (show 3 < B from Nat.lt_trans h.rr.hb h.lt)]; exact a.cell⟩, (hb.block b h.lt).trans h.rr.blk, h.rr.hb⟩, hown, h.q, h.len, Nat.le_trans h.size hb.size, h.lt, h.ws⟩
theorem q_set {B : Nat} {T1 acc U : List UInt8} {v : Value} (h0 : 3 < w.heap.size) (h : Qa m w b B T1 v wr acc c U) : Qs m w b B T1 v (wr.setCell ⟨b, 0, none⟩ (.string ⟨U.toArray⟩)) (acc ++ [c]) U :=
  ⟨rr_set h0 h.rr U, by rw [List.length_append]; exact ownsRow_setCell_below h.own h.lt _, h.q, by have := h.len; simp only [List.length_append, List.length_cons, List.length_nil] at this ⊢; omega, by have := h.size; simpa [World.setCell] using this, h.lt, h.ws⟩

set_option maxRecDepth 100000 in
set_option maxHeartbeats 8000000 in
theorem rdQ_any (h0 : 3 < w.heap.size) (T1 : List UInt8) (h : Rr m w b wr (34 :: T1)) (hs : T1.length < 4294967281) : Calls Tryz.prog 116 #[.pointer (some ⟨b, 0, none⟩)] wr fun e w' => Rs m w b (Adr.rdQ T1) e w' := by
  obtain ⟨i0, hi, hz0, hz1, hz2⟩ := info_parts info5
  have HTK := Lib.hid (take_yes h0 34 T1 h 34 rfl)
  have hlt0 := rr_lt h
  clear h
  go_enter Tryz.func116, Tryz.ntmps116
  go_wp2_with (go_at_call 100; refine HTK.out.mono ?_; rintro e w1 ⟨rfl, h1⟩; have H1 := Lib.hid h1; clear h1)
  have HS1 : Hid (Qs m w b w1.heap.size T1 (.slice none 0 0) w1 [] T1) := ⟨H1.out, World.ownsRow_nil _ _ _ _, rfl, by simp, Nat.le_refl _, rr_lt H1.out, H1.out.at'.size⟩
  go_loopw [3] (fun v wr => ∃ (acc U : List UInt8), Hid (Qs m w b w1.heap.size T1 v wr acc U)) (fun _ wr => lenAt b wr)
  case atStart => exact ⟨[], T1, HS1⟩
  case round =>
    obtain ⟨acc, U, HQ⟩ := hrel
    clear HS1
    cases U with
    | nil =>
      have HA1 := Lib.hid (at_c HQ.out.rr 34 34 false rfl rfl)
      have HA2 := Lib.hid (at_c HQ.out.rr 92 92 false rfl rfl)
      have HN : Hid (Adr.rdQ T1 = none) := Adr.rdQ_none HQ.out.q.symm
      obtain ⟨c0, f0⟩ := rr_cell HQ.out.rr
      go_wp2_with fail
      refine HA1.out.mono ?_
      rintro e w' ⟨rfl, rfl⟩
      go_wp2_with fail
      refine HA2.out.mono ?_
      rintro e w' ⟨rfl, rfl⟩
      go_wp2_with fail
      refine (must_no _).mono ?_
      rintro e w' ⟨rfl, rfl⟩
      exact ⟨rfl, rs_no HN.out HQ.out.rr.at'⟩
    | cons x r =>
      have HLN := Lib.hid (lenAt_rr HQ.out.rr)
      by_cases hx : x = 34
      · subst hx
        have HA1 := Lib.hid (at_c HQ.out.rr 34 34 true rfl rfl)
        have HTK2 := Lib.hid (take_eq h0 34 r HQ.out.rr 34 rfl)
        have HOW : Hid ((wr.setCell ⟨b, 0, none⟩ (.string ⟨r.toArray⟩)).ownsRow w1.heap.size 5 1 u3 acc.length (Lib.byteCells acc)) := ownsRow_setCell_below HQ.out.own HQ.out.lt _
        have HQE : Hid (Adr.qlp T1 [] = some (acc, r)) := by have := HQ.out.q; rw [Adr.qlp_end] at this; exact this.symm
        have HAL : Hid (acc.length < 4294967281) := by have := HQ.out.len; show _ < _; simp only [List.length_cons] at this; omega
        have HLC := Lib.hid (fun W : World => local_any ⟨acc.toArray⟩ W (by rw [size_mk]; have := HAL.out; omega))
        rw [show (⟨acc.toArray⟩ : ByteArray).data.toList = acc from rfl] at HLC
        go_wp2_with fail
        refine HA1.out.mono ?_
        rintro e w' ⟨rfl, rfl⟩
        go_wp2_with fail
        refine HTK2.out.mono ?_
        rintro e w2 ⟨rfl, hr2, hw2⟩
        rw [hw2] at HOW
        have hback := back_own HOW.out rfl
        have HR2 := Lib.hid hr2
        clear hr2 hw2
        cases hl : Adr.localB acc with
        | false =>
          rw [hl] at HLC
          have HN : Hid (Adr.rdQ T1 = none) := Adr.rdQ_no HQE.out hl
          clear hl
          go_wp2_with fail
          refine (HLC.out _).mono ?_
          rintro e w' ⟨rfl, rfl⟩
          go_wp2_with fail
          refine (must_no _).mono ?_
          rintro e w' ⟨rfl, rfl⟩
          exact ⟨rfl, rs_no HN.out HR2.out.at'⟩
        | true =>
          rw [hl] at HLC
          have HN : Hid (Adr.rdQ T1 = some (acc, r)) := Adr.rdQ_yes HQE.out hl
          clear hl
          go_wp2_with fail
          refine (HLC.out _).mono ?_
          rintro e w' ⟨rfl, rfl⟩
          go_wp2_with fail
          refine (must_yes _).mono ?_
          rintro e w' ⟨rfl, rfl⟩
          go_wp2_with fail
          go_ret
          rw [HN.out]
          exact ⟨rfl, HR2.out⟩
      · have HA1 := Lib.hid (at_c HQ.out.rr 34 34 false rfl (beq_eq_false_iff_ne.2 hx))
        by_cases hy : x = 92
        · subst hy
          have HA2 := Lib.hid (at_c HQ.out.rr 92 92 true rfl rfl)
          have HTK2 := Lib.hid (take_eq h0 92 r HQ.out.rr 92 rfl)
          have HOW : Hid ((wr.setCell ⟨b, 0, none⟩ (.string ⟨r.toArray⟩)).ownsRow w1.heap.size 5 1 u3 acc.length (Lib.byteCells acc)) := ownsRow_setCell_below HQ.out.own HQ.out.lt _
          have HSZ : Hid (w1.heap.size ≤ (wr.setCell ⟨b, 0, none⟩ (.string ⟨r.toArray⟩)).heap.size) := by show _ ≤ _; have := HQ.out.size; simpa [World.setCell] using this
          clear hx
          cases r with
          | nil =>
            have HN : Hid (Adr.rdQ T1 = none) := Adr.rdQ_none (by have := HQ.out.q; rw [Adr.qlp_cut] at this; exact this.symm)
            go_wp2_with fail
            refine HA1.out.mono ?_
            rintro e w' ⟨rfl, rfl⟩
            go_wp2_with fail
            refine HA2.out.mono ?_
            rintro e w' ⟨rfl, rfl⟩
            go_wp2_with fail
            refine HTK2.out.mono ?_
            rintro e w2 ⟨rfl, hr2, hw2⟩
            have HR2 := Lib.hid hr2
            obtain ⟨c0, f0⟩ := rr_cell hr2
            clear hr2 hw2
            go_wp2_with fail
            refine (must_no _).mono ?_
            rintro e w' ⟨rfl, rfl⟩
            exact ⟨rfl, rs_no HN.out HR2.out.at'⟩
          | cons c r' =>
            go_wp2_with fail
            refine HA1.out.mono ?_
            rintro e w' ⟨rfl, rfl⟩
            go_wp2_with fail
            refine HA2.out.mono ?_
            rintro e w' ⟨rfl, rfl⟩
            go_wp2_with fail
            refine HTK2.out.mono ?_
            rintro e w2 ⟨rfl, hr2, hw2⟩
            rw [hw2] at HOW HSZ
            have HQ2 : Hid (Qp m w b w1.heap.size T1 u3 w2 acc c r') := ⟨hr2, HOW.out, by rw [← HQ.out.q, Adr.qlp_sign], by have := HQ.out.len; simp only [List.length_cons] at this ⊢; omega, HSZ.out, HQ.out.lt, HQ.out.ws⟩
            clear hr2 hw2
            obtain ⟨c0, f0⟩ := rr_cell HQ2.out.rr
            obtain ⟨k1, k2⟩ := emp_no c r'
            have hsz := HQ2.out.size
            have hlen := HQ2.out.len
            have hpos : 0 < (⟨(c :: r').toArray⟩ : ByteArray).size := by rw [size_mk]; exact Nat.succ_pos _
            have hat : (⟨(c :: r').toArray⟩ : ByteArray)[0]'hpos = c := rfl
            go_wp2_with fail
            refine (must_yes _).mono ?_
            rintro e w' ⟨rfl, rfl⟩
            go_wp2_with (at_builtin; go_must (refine wpList_append_own _ rfl (.tmp 19) (.tmp 25) 75 rfl w1.heap.size 5 i0 (.int .u8 0) 1 1 Tryz.underlying75 hi hz0 hz1 hz2 rfl (by decide) _ _ _ rfl (HQ2.out.own.alloc _) ⟨w2.heap.size, 0, none⟩ 1 1 [.int .u8 (c.toNat : Int)] rfl rfl ?x1 ?x2 ?x3 ?x4 ?x5 ?_))
            all_goals try exact cell_one_new _ _ _
            case x2 => first | rfl | (intro u hu; simp only [List.mem_singleton] at hu; subst hu; rfl)
            case x3 => unfold maxLen; omega
            case x4 => omega
            case x5 => first | omega | (simp only [World.size_alloc]; omega)
            intro v' w5 hown5 hgrow _
            have H5 := Lib.hid (q_app h0 HQ2.out hown5 hgrow)
            clear hown5 hgrow
            obtain ⟨d0, g0⟩ := rr_cell H5.out.rr
            have HST := Lib.hid (q_set h0 H5.out)
            have k9 := drop_one c r'
            go_wp2
            go_roundw
            case rel => exact ⟨_, _, HST⟩
            case measure => rw [lenAt_rr HST.out.rr, HLN.out]; simp only [List.length_cons]; omega
        · have HA2 := Lib.hid (at_c HQ.out.rr 92 92 false rfl (beq_eq_false_iff_ne.2 hy))
          have HQ2 : Hid (Qp m w b w1.heap.size T1 u3 wr acc x r) := ⟨HQ.out.rr, HQ.out.own, by rw [← HQ.out.q, Adr.qlp_more x r acc hx hy], HQ.out.len, HQ.out.size, HQ.out.lt, HQ.out.ws⟩
          obtain ⟨c0, f0⟩ := rr_cell HQ2.out.rr
          obtain ⟨k1, k2⟩ := emp_no x r
          have hsz := HQ2.out.size
          have hlen := HQ2.out.len
          have hpos : 0 < (⟨(x :: r).toArray⟩ : ByteArray).size := by rw [size_mk]; exact Nat.succ_pos _
          have hat : (⟨(x :: r).toArray⟩ : ByteArray)[0]'hpos = x := rfl
          clear hx hy
          go_wp2_with fail
          refine HA1.out.mono ?_
          rintro e w' ⟨rfl, rfl⟩
          go_wp2_with fail
          refine HA2.out.mono ?_
          rintro e w' ⟨rfl, rfl⟩
          go_wp2_with fail
          refine (must_yes _).mono ?_
          rintro e w' ⟨rfl, rfl⟩
          go_wp2_with (at_builtin; go_must (refine wpList_append_own _ rfl (.tmp 19) (.tmp 25) 75 rfl w1.heap.size 5 i0 (.int .u8 0) 1 1 Tryz.underlying75 hi hz0 hz1 hz2 rfl (by decide) _ _ _ rfl (HQ2.out.own.alloc _) ⟨wr.heap.size, 0, none⟩ 1 1 [.int .u8 (x.toNat : Int)] rfl rfl ?y1 ?y2 ?y3 ?y4 ?y5 ?_))
          all_goals try exact cell_one_new _ _ _
          case y2 => first | rfl | (intro u hu; simp only [List.mem_singleton] at hu; subst hu; rfl)
          case y3 => unfold maxLen; omega
          case y4 => omega
          case y5 => first | omega | (simp only [World.size_alloc]; omega)
          intro v' w5 hown5 hgrow _
          have H5 := Lib.hid (q_app h0 HQ2.out hown5 hgrow)
          clear hown5 hgrow
          obtain ⟨d0, g0⟩ := rr_cell H5.out.rr
          have HST := Lib.hid (q_set h0 H5.out)
          have k9 := drop_one x r
          go_wp2
          go_roundw
          case rel => exact ⟨_, _, HST⟩
          case measure => rw [lenAt_rr HST.out.rr, HLN.out]; simp only [List.length_cons]; omega
end Go.Proofs.YtkchebbolldmbaaGreatDoor
