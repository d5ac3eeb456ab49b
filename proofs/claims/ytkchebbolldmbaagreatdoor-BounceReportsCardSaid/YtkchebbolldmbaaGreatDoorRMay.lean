/-
  PROVED HERE: what May and Write of the answer compute.
-/
import Derived.Test.YtkchebbolldmbaaGreatDoorRLoc
set_option linter.unusedVariables false
namespace Go.Proofs.YtkchebbolldmbaaGreatDoor
open Go.RowKit

set_option maxRecDepth 100000 in
set_option maxHeartbeats 4000000 in
theorem rmay_any (l d : List UInt8) (m : Int) (w : World) (hl : l.length < 4294967281) (hd : d.length < 4294967281) (hm : w.cell? ⟨3, 0, none⟩ = some (.int .i64 m)) :
    Calls Tryz.prog 61 #[bxV l d] w fun e w' => e = .returned (.bool (Adr.mayB l d)) ∧ Below w.heap.size w w' := by
  have HA := Lib.hid (at_alloc hm (.cells #[.string ⟨l.toArray⟩, .string ⟨d.toArray⟩] 63))
  have HC := Lib.hid (cell_two w (.string ⟨l.toArray⟩) (.string ⟨d.toArray⟩) 63)
  have HD := Lib.hid (fun (W : World) (h : At m w W) => rdomain_any ⟨d.toArray⟩ m W (by rw [size_mk]; exact hd) h.cell)
  have HL := Lib.hid (fun (W : World) => rlocal_any ⟨l.toArray⟩ W (by rw [size_mk]; omega))
  rw [show (⟨d.toArray⟩ : ByteArray).data.toList = d from rfl] at HD
  rw [show (⟨l.toArray⟩ : ByteArray).data.toList = l from rfl] at HL
  unfold bxV
  unfold Adr.mayB
  clear hm
  cases hdm : Adr.domB d with
  | false =>
    rw [dom_no hdm] at HD
    rw [Bool.false_and]
    clear hdm
    go_enter Tryz.func61, Tryz.ntmps61
    go_wp2_with fail
    refine (HD.out _ HA.out).mono ?_
    rintro e w1 ⟨rfl, h1⟩
    have HB := Lib.hid h1
    have HC2 := Lib.hid (two_keep HC.out h1)
    clear h1
    obtain ⟨c1, c2⟩ := HC2.out
    go_wp2_with fail
    go_ret
    exact ⟨rfl, HA.out.below.trans (HB.out.mono HA.out.below.size)⟩
  | true =>
    rw [dom_yes hdm] at HD
    rw [Bool.true_and]
    unfold sV at HD
    clear hdm
    cases heq : (Adr.sml d == d) with
    | false =>
      have e1 := str_beq (Adr.sml d) d
      rw [heq] at e1
      rw [Bool.false_and]
      generalize Adr.sml d = sd at *
      go_enter Tryz.func61, Tryz.ntmps61
      go_wp2_with fail
      refine (HD.out _ HA.out).mono ?_
      rintro e w1 ⟨rfl, h1⟩
      have HB := Lib.hid h1
      have HC2 := Lib.hid (two_keep HC.out h1)
      clear h1
      obtain ⟨c1, c2⟩ := HC2.out
      go_wp2_with fail
      go_ret
      exact ⟨rfl, HA.out.below.trans (HB.out.mono HA.out.below.size)⟩
    | true =>
      have e0 : Adr.sml d = d := eq_of_beq heq
      rw [e0] at HD
      rw [Bool.true_and]
      clear e0 heq
      generalize Adr.localB l = r at *
      go_enter Tryz.func61, Tryz.ntmps61
      go_wp2_with fail
      refine (HD.out _ HA.out).mono ?_
      rintro e w1 ⟨rfl, h1⟩
      have HB := Lib.hid h1
      have HC2 := Lib.hid (two_keep HC.out h1)
      clear h1
      obtain ⟨c1, c2⟩ := HC2.out
      go_wp2_with (go_at_call 78; refine (HL.out _).mono ?_; rintro e w' ⟨rfl, rfl⟩)
      go_ret
      exact ⟨rfl, HA.out.below.trans (HB.out.mono HA.out.below.size)⟩

theorem one_at (L : ByteArray) (k : Nat) (h : k < L.size) (h2 : k < L.data.toList.length) : L.extract k (k + 1) = ⟨#[L.data.toList[k]]⟩ := by
  have h3 := Lib.extract_data L k (k + 1)
  rw [show k + 1 - k = 1 from by omega, List.drop_eq_getElem_cons h2] at h3
  rw [← Lib.mk_data (L.extract k (k + 1)), h3]
  rfl
theorem one_beq (c d : UInt8) : ((⟨#[c]⟩ : ByteArray).toList == [d]) = (c == d) := by
  rw [ByteArray.toList_eq]
  show ([c] == [d]) = _
  simp
set_option maxRecDepth 100000 in
set_option maxHeartbeats 8000000 in
theorem rwrite_any (l d : List UInt8) (m : Int) (w : World) (hl : l.length < 4294967281) (hd : d.length < 4294967281) (hm : w.cell? ⟨3, 0, none⟩ = some (.int .i64 m)) :
    Calls Tryz.prog 40 #[bxV l d] w fun e w' => e = .returned (wrtV l d) ∧ Below w.heap.size w w' := by
  have HA := Lib.hid (at_alloc hm (.cells #[.string ⟨l.toArray⟩, .string ⟨d.toArray⟩] 63))
  have HC := Lib.hid (cell_two w (.string ⟨l.toArray⟩) (.string ⟨d.toArray⟩) 63)
  have HM := Lib.hid (fun (W : World) (h : At m w W) => rmay_any l d m W hl hd h.cell)
  have HP := Lib.hid (fun (W : World) => rplain_any ⟨l.toArray⟩ W (by rw [size_mk]; exact hl))
  rw [show (⟨l.toArray⟩ : ByteArray).data.toList = l from rfl] at HP
  unfold wrtV
  unfold bxV at HM ⊢
  clear hm
  cases hmay : Adr.mayB l d with
  | false =>
    rw [hmay] at HM
    rw [if_neg (by decide)]
    clear hmay
    go_enter Tryz.func40, Tryz.ntmps40
    go_wp2_with fail
    refine (HM.out _ HA.out).mono ?_
    rintro e w1 ⟨rfl, h1⟩
    have HB := Lib.hid h1
    clear h1
    go_wp2_with fail
    go_ret2
    exact ⟨rfl, HA.out.below.trans (HB.out.mono HA.out.below.size)⟩
  | true =>
    obtain ⟨hl2, hd2⟩ := Adr.may_len hmay
    rw [hmay] at HM
    rw [if_pos rfl]
    clear hmay
    cases hpl : Adr.plainB l with
    | true =>
      have hg1 : ¬ 9223372036854775807 < l.length + 1 := by omega
      have hg2 : ¬ 9223372036854775807 < l.length + 1 + d.length := by omega
      have hg2' : ¬ 9223372036854775807 < l.length + (1 + d.length) := by omega
      have e1 := mk_append l [64]
      have e2 := mk_append (l ++ [64]) d
      have HW : Hid (Adr.wrt l d = l ++ 64 :: d) := by show _ = _; unfold Adr.wrt; rw [if_pos hpl]; rfl
      rw [hpl] at HP
      rw [HW.out]
      clear hpl
      go_enter Tryz.func40, Tryz.ntmps40
      go_wp2_with fail
      refine (HM.out _ HA.out).mono ?_
      rintro e w1 ⟨rfl, h1⟩
      have HB := Lib.hid (HA.out.next h1)
      have HC1 := Lib.hid (two_keep HC.out h1)
      clear h1
      obtain ⟨c1, c2⟩ := HC1.out
      go_wp2_with fail
      refine (HP.out _).mono ?_
      rintro e w2 ⟨rfl, h1⟩
      have HB2 := Lib.hid (HB.out.next h1)
      have HC2 := Lib.hid (two_keep HC1.out h1)
      clear h1 c1 c2
      obtain ⟨c1, c2⟩ := HC2.out
      go_wp2_with fail
      go_ret2
      exact ⟨rfl, HB2.out.below⟩
    | false =>
      have HW : Hid (Adr.wrt l d = ([34] ++ Adr.escs l ++ [34, 64]) ++ d) := by show _ = _; unfold Adr.wrt Adr.quo; rw [if_neg (by rw [hpl]; decide)]; simp
      rw [hpl] at HP
      generalize Adr.wrt l d = qq at *
      clear hpl
      go_enter Tryz.func40, Tryz.ntmps40
      go_wp2_with fail
      refine (HM.out _ HA.out).mono ?_
      rintro e w1 ⟨rfl, h1⟩
      have HB := Lib.hid (HA.out.next h1)
      have HC1 := Lib.hid (two_keep HC.out h1)
      clear h1
      obtain ⟨c1, c2⟩ := HC1.out
      go_wp2_with fail
      refine (HP.out _).mono ?_
      rintro e w2 ⟨rfl, h1⟩
      have HB2 := Lib.hid (HB.out.next h1)
      have HC2 := Lib.hid (two_keep HC1.out h1)
      clear h1 c1 c2
      obtain ⟨c1, c2⟩ := HC2.out
      go_wp2_with fail
      go_loop [4, 5] (fun v u => ∃ k : Nat, v = .string ⟨([34] ++ Adr.escs (l.take k)).toArray⟩ ∧ u = .int .i64 k ∧ k ≤ l.length) (fun _ u => l.length - (intOf u).toNat)
      case atStart => exact ⟨0, rfl, rfl, Nat.zero_le _⟩
      case round =>
        obtain ⟨k, rfl, rfl, hk⟩ := hrel
        by_cases hlt : k < l.length
        · have hltz : (k : Int) < (l.length : Int) := by omega
          have hk1z : (k : Int) + 1 ≤ (l.length : Int) := by omega
          have hk2z : (k : Int) ≤ (k : Int) + 1 := by omega
          have hk3z : (0 : Int) ≤ (k : Int) + 1 := by omega
          have e0 : (⟨l.toArray⟩ : ByteArray).extract k (k + 1) = ⟨#[l[k]'hlt]⟩ := one_at ⟨l.toArray⟩ k (by rw [size_mk]; exact hlt) hlt
          have hle := Adr.escs_len (l.take k)
          rw [List.length_take] at hle
          have hO : ([34] ++ Adr.escs (l.take k)).length ≤ 200 := by rw [List.length_append, List.length_singleton]; omega
          have HSU : Hid ([34] ++ Adr.escs (l.take (k + 1)) = ([34] ++ Adr.escs (l.take k)) ++ Adr.esc (l[k]'hlt)) := by show _ = _; rw [Adr.escs_succ l k hlt, List.append_assoc]
          generalize [34] ++ Adr.escs (l.take k) = O at *
          generalize l[k]'hlt = c at *
          clear hle
          have b1 := one_beq c 34
          have b2 := one_beq c 92
          have f1 := mk_append O [92]
          have f2 := mk_append O [c]
          have f3 := mk_append (O ++ [92]) [c]
          have g1 : ¬ 9223372036854775807 < O.length + 1 := by omega
          have g2 : ¬ 9223372036854775807 < O.length + 1 + 1 := by omega
          generalize hC : (⟨#[c]⟩ : ByteArray) = C at *
          have hCs : C.size = 1 := by rw [← hC]; rfl
          have HCC := Lib.hid hC
          clear hC
          cases q1 : (c == 34) with
          | true =>
            rw [q1] at b1
            have HES : Hid (Adr.esc c = [92] ++ [c]) := by show _ = _; unfold Adr.esc; rw [q1, Bool.true_or]; rfl
            clear q1 b2
            go_wp2_with fail
            go_round
            case rel => exact ⟨k + 1, by rw [HSU.out, HES.out]; rfl, by go_num, by omega⟩
            case measure => simp [intOf]; omega
          | false =>
            rw [q1] at b1
            cases q2 : (c == 92) with
            | true =>
              rw [q2] at b2
              have HES : Hid (Adr.esc c = [92] ++ [c]) := by show _ = _; unfold Adr.esc; rw [q2, Bool.or_true]; rfl
              clear q1 q2
              go_wp2_with fail
              go_round
              case rel => exact ⟨k + 1, by rw [HSU.out, HES.out]; rfl, by go_num, by omega⟩
              case measure => simp [intOf]; omega
            | false =>
              rw [q2] at b2
              have HES : Hid (Adr.esc c = [c]) := by show _ = _; unfold Adr.esc; rw [q1, q2]; rfl
              clear q1 q2
              go_wp2_with fail
              go_round
              case rel => exact ⟨k + 1, by rw [HSU.out, HES.out, ← f2, ← HCC.out]; try rfl, by go_num, by omega⟩
              case measure => simp [intOf]; omega
        · have hltz : ¬ (k : Int) < (l.length : Int) := by omega
          obtain rfl : k = l.length := by omega
          rw [List.take_length]
          have hle := Adr.escs_len l
          have hO : ([34] ++ Adr.escs l).length ≤ 200 := by rw [List.length_append, List.length_singleton]; omega
          obtain ⟨O, hOO⟩ : ∃ O, [34] ++ Adr.escs l = O := ⟨_, rfl⟩
          rw [hOO] at hO
          rw [hOO]
          have HOO := Lib.hid hOO
          clear hOO
          have f1 := mk_append O [34, 64]
          have f2 := mk_append (O ++ [34, 64]) d
          have g1 : ¬ 9223372036854775807 < O.length + 2 := by omega
          have g2 : ¬ 9223372036854775807 < O.length + 2 + d.length := by omega
          have g3 : ¬ 9223372036854775807 < O.length + (2 + d.length) := by omega
          have g4 : ¬ 9223372036854775807 < O.length + (d.length + 2) := by omega
          clear hle
          go_wp2_with fail
          go_ret2
          exact ⟨by rw [HW.out, HOO.out]; first | rfl | simp [sV], HB2.out.below⟩
end Go.Proofs.YtkchebbolldmbaaGreatDoor
