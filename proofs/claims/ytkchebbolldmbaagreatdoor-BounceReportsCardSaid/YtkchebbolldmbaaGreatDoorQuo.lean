/-
  PROVED HERE: what quoted of the program computes.
-/
import Derived.Test.YtkchebbolldmbaaGreatDoorBld
set_option linter.unusedVariables false
namespace Adr
/-- A byte, with a sign ahead where one is needed. -/
def esc (c : UInt8) : List UInt8 := if (c == 34 || c == 92) = true then [92, c] else [c]
def escs (t : List UInt8) : List UInt8 := (t.map esc).flatten
/-- A local part in quotes. -/
def quo (t : List UInt8) : List UInt8 := [34] ++ escs t ++ [34]
theorem escs_succ (t : List UInt8) (k : Nat) (h : k < t.length) : escs (t.take (k + 1)) = escs (t.take k) ++ esc t[k] := by
  unfold escs
  rw [List.take_add_one, List.getElem?_eq_getElem h, List.map_append, List.flatten_append]
  simp
theorem esc_len (c : UInt8) : (esc c).length ≤ 2 := by unfold esc; split <;> simp
theorem escs_len (t : List UInt8) : (escs t).length ≤ 2 * t.length := by
  induction t with
  | nil => exact Nat.le_refl _
  | cons c t ih =>
    have := esc_len c
    unfold escs at *
    rw [List.map_cons, List.flatten_cons, List.length_append, List.length_cons]
    omega
end Adr
namespace Go.Proofs.YtkchebbolldmbaaGreatDoor
open Go.RowKit

theorem cells_one (a : List UInt8) (c : UInt8) : Lib.byteCells a ++ [.int .u8 (c.toNat : Int)] = Lib.byteCells (a ++ [c]) := by
  simp [Lib.byteCells]
/-- One byte more in a builder. -/
theorem wb (B : Nat) (a : List UInt8) (c : UInt8) (v : Int) (hv : v = (c.toNat : Int)) (w wr : World) (h : Lib.IsBuilderF 82 5 B B (Lib.byteCells a) wr) (hlen : a.length + 1 ≤ 140737488355328) (hb : Below B w wr) (hB : B ≤ w.heap.size) :
    Calls Tryz.prog 88 #[.pointer (some ⟨B, 0, none⟩), .int .u8 v] wr fun e w' => e = .returned .nilIface ∧ Lib.IsBuilderF 82 5 B B (Lib.byteCells (a ++ [c])) w' ∧ Below B w w' := by
  subst hv
  refine (writeByte_k B B (Lib.byteCells a) _ wr h (by rw [Lib.byteCells_length]; exact hlen) (Nat.le_trans hB hb.size)).mono ?_
  rintro e w' ⟨e1, e2, e3, _⟩
  rw [cells_one] at e2
  exact ⟨e1, .inr e2, hb.trans e3⟩

set_option maxRecDepth 100000 in
set_option maxHeartbeats 4000000 in
theorem quoted_any (S : ByteArray) (w : World) (hs : S.size ≤ 1000000) : Calls Tryz.prog 67 #[.string S] w fun e w' => e = .returned (.string ⟨(Adr.quo S.data.toList).toArray⟩) ∧ Below w.heap.size w w' := by
  have HZ := Lib.hid (Lib.size_eq S)
  go_enter Tryz.func67, Tryz.ntmps67
  go_wp2_with fail
  refine (wb w.heap.size [] 34 34 rfl w _ (Lib.IsBuilderF.of (Lib.fresh_isBuilder 82 5 w)) (by decide) ((Below.refl _ _).alloc (Nat.le_refl _) _) (Nat.le_refl _)).mono ?_
  rintro e w1 ⟨rfl, h1, h2⟩
  have H1 := Lib.hid h1
  have H2 := Lib.hid h2
  clear h1 h2
  go_wp2_with fail
  go_loopw [8] (fun u wr => ∃ k : Nat, u = .int .i64 k ∧ k ≤ S.size ∧ Hid (Lib.IsBuilderF 82 5 w.heap.size w.heap.size (Lib.byteCells ([34] ++ Adr.escs (S.data.toList.take k))) wr) ∧ Hid (Below w.heap.size w wr)) (fun u _ => S.size - (intOf u).toNat)
  case atStart => exact ⟨0, rfl, by omega, H1, H2⟩
  case round =>
    obtain ⟨k, rfl, hk, HK, HB⟩ := hrel
    by_cases hlt : k < S.size
    · have hltz : (k : Int) < (S.size : Int) := by omega
      have hkl : k < S.data.toList.length := by rw [← HZ.out]; exact hlt
      have hat := at_data S k hlt hkl
      have HSU := Lib.hid (Adr.escs_succ S.data.toList k hkl)
      have HLE : Hid (([34] ++ Adr.escs (S.data.toList.take k)).length ≤ 3000000) := by
        have h1 := Adr.escs_len (S.data.toList.take k)
        show _ ≤ _
        rw [List.length_append, List.length_singleton]
        rw [List.length_take] at h1
        omega
      rw [← hat] at HSU
      clear hat
      have e1 := Adr.u8_beq (S[k]'hlt) 34
      have e2 := Adr.u8_beq (S[k]'hlt) 92
      rw [show ((34 : UInt8).toNat : Int) = 34 from rfl] at e1
      rw [show ((92 : UInt8).toNat : Int) = 92 from rfl] at e2
      obtain ⟨x, hx⟩ : ∃ x : Int, x = ((S[k]'hlt).toNat : Int) := ⟨_, rfl⟩
      have HX := Lib.hid hx
      cases c1 : (S[k]'hlt == 34) with
      | true =>
        rw [c1] at e1
        have HES : Hid (Adr.esc (S[k]'hlt) = [92] ++ [S[k]'hlt]) := by show _ = _; unfold Adr.esc; rw [c1, Bool.true_or]; rfl
        clear c1 e2
        go_wp2_with fail
        refine (wb w.heap.size _ 92 92 rfl w wr HK.out (by have := HLE.out; omega) HB.out (Nat.le_refl _)).mono ?_
        rintro e w2 ⟨rfl, h1, h2⟩
        have HK2 := Lib.hid h1
        have HB2 := Lib.hid h2
        clear h1 h2
        go_wp2_with fail
        refine (wb w.heap.size _ (S[k]'hlt) _ rfl w w2 HK2.out (by rw [List.length_append]; have := HLE.out; simp only [List.length_singleton]; omega) HB2.out (Nat.le_refl _)).mono ?_
        rintro e w3 ⟨rfl, h1, h2⟩
        have HK3 := Lib.hid h1
        have HB3 := Lib.hid h2
        clear h1 h2
        go_wp2_with fail
        go_roundw
        case rel => exact ⟨k + 1, by go_num, by omega, by rw [HSU.out, HES.out]; have := HK3.out; simp only [List.append_assoc] at this ⊢; exact this, HB3⟩
        case measure => simp [intOf]; omega
      | false =>
        rw [c1] at e1
        cases c2 : (S[k]'hlt == 92) with
        | true =>
          rw [c2] at e2
          have HES : Hid (Adr.esc (S[k]'hlt) = [92] ++ [S[k]'hlt]) := by show _ = _; unfold Adr.esc; rw [c2, Bool.or_true]; rfl
          clear c1 c2
          go_wp2_with fail
          refine (wb w.heap.size _ 92 92 rfl w wr HK.out (by have := HLE.out; omega) HB.out (Nat.le_refl _)).mono ?_
          rintro e w2 ⟨rfl, h1, h2⟩
          have HK2 := Lib.hid h1
          have HB2 := Lib.hid h2
          clear h1 h2
          go_wp2_with fail
          refine (wb w.heap.size _ (S[k]'hlt) _ rfl w w2 HK2.out (by rw [List.length_append]; have := HLE.out; simp only [List.length_singleton]; omega) HB2.out (Nat.le_refl _)).mono ?_
          rintro e w3 ⟨rfl, h1, h2⟩
          have HK3 := Lib.hid h1
          have HB3 := Lib.hid h2
          clear h1 h2
          go_wp2_with fail
          go_roundw
          case rel => exact ⟨k + 1, by go_num, by omega, by rw [HSU.out, HES.out]; have := HK3.out; simp only [List.append_assoc] at this ⊢; exact this, HB3⟩
          case measure => simp [intOf]; omega
        | false =>
          rw [c2] at e2
          have HES : Hid (Adr.esc (S[k]'hlt) = [S[k]'hlt]) := by show _ = _; unfold Adr.esc; rw [c1, c2]; rfl
          clear c1 c2
          go_wp2_with fail
          refine (wb w.heap.size _ (S[k]'hlt) _ rfl w wr HK.out (by have := HLE.out; omega) HB.out (Nat.le_refl _)).mono ?_
          rintro e w3 ⟨rfl, h1, h2⟩
          have HK3 := Lib.hid h1
          have HB3 := Lib.hid h2
          clear h1 h2
          go_wp2_with fail
          go_roundw
          case rel => exact ⟨k + 1, by go_num, by omega, by rw [HSU.out, HES.out]; have := HK3.out; simp only [List.append_assoc] at this ⊢; exact this, HB3⟩
          case measure => simp [intOf]; omega
    · have hltz : ¬ (k : Int) < (S.size : Int) := by omega
      obtain rfl : k = S.size := by omega
      rw [show S.data.toList.take S.size = S.data.toList from by rw [HZ.out, List.take_length]] at HK
      have hel := Adr.escs_len S.data.toList
      have HLE : Hid (([34] ++ Adr.escs S.data.toList).length ≤ 3000000) := by
        show _ ≤ _
        rw [List.length_append, List.length_singleton]
        have := HZ.out
        omega
      clear hel
      go_wp2_with fail
      refine (wb w.heap.size _ 34 34 rfl w wr HK.out (by have := HLE.out; omega) HB.out (Nat.le_refl _)).mono ?_
      rintro e w2 ⟨rfl, h1, h2⟩
      have HK2 := Lib.hid h1
      have HB2 := Lib.hid h2
      clear h1 h2
      go_wp2_with fail
      refine (Tryz.Builder_String_any_f w.heap.size w.heap.size _ w2 HK2.out (by have := HB2.out.size; omega)).mono ?_
      rintro e w3 ⟨rfl, _, h3⟩
      have HB3 := Lib.hid h3
      clear h3
      go_wp2_with fail
      go_ret
      exact ⟨rfl, HB2.out.trans HB3.out⟩
end Go.Proofs.YtkchebbolldmbaaGreatDoor
