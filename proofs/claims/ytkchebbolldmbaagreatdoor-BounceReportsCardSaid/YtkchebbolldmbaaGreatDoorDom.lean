/-
  PROVED HERE: what Domain and Plain of the program compute.
-/
import Derived.Test.YtkchebbolldmbaaGreatDoorSml
set_option linter.unusedVariables false
namespace Adr
/-- A domain. -/
def domB (t : List UInt8) : Bool := decide (t.length ≤ 255) && (dots t).all label
def domT (t : List UInt8) : List UInt8 := if domB t = true then sml t else []
def domE (t : List UInt8) : Int := if domB t = true then 0 else 2
/-- A plain text. -/
def plainB (t : List UInt8) : Bool := localB t && (dots t).all (allB atomB)
end Adr
namespace Go.Proofs.YtkchebbolldmbaaGreatDoor
open Go.RowKit
def domV (t : List UInt8) : Value := .tuple #[sV (Adr.domT t), .int .i64 (Adr.domE t)]
theorem dom_no {t : List UInt8} (h : Adr.domB t = false) : domV t = .tuple #[.string ⟨#[]⟩, .int .i64 2] := by unfold domV Adr.domT Adr.domE; rw [h]; rfl
theorem dom_yes {t : List UInt8} (h : Adr.domB t = true) : domV t = .tuple #[sV (Adr.sml t), .int .i64 0] := by unfold domV Adr.domT Adr.domE; rw [h]; rfl

set_option maxRecDepth 100000 in
set_option maxHeartbeats 2000000 in
theorem domain_any (S : ByteArray) (m : Int) (w : World) (hs : S.size < 4294967281) (hm : w.cell? ⟨3, 0, none⟩ = some (.int .i64 m)) : Calls Tryz.prog 56 #[.string S] w fun e w' => e = .returned (domV S.data.toList) ∧ Below w.heap.size w w' := by
  have hz := Lib.size_eq S
  have HP := Lib.hid (parts_36 S m w hs hm)
  have HSM := Lib.hid (fun W : World => small_any S W (by omega))
  clear hm
  by_cases hb : 255 < S.size
  · have hbz : (255 : Int) < (S.size : Int) := by omega
    have e : Adr.domB S.data.toList = false := by unfold Adr.domB; rw [decide_eq_false (by omega), Bool.false_and]
    rw [dom_no e]
    clear hz e
    go_enter Tryz.func56, Tryz.ntmps56
    go_wp2
    go_ret2
    exact ⟨rfl, Below.refl _ _⟩
  · have hbz : ¬ (255 : Int) < (S.size : Int) := by omega
    cases hp : (Adr.dots S.data.toList).all Adr.label with
    | false =>
      have e : Adr.domB S.data.toList = false := by unfold Adr.domB; rw [hp, Bool.and_false]
      rw [hp] at HP
      rw [dom_no e]
      clear hz e hp
      go_enter Tryz.func56, Tryz.ntmps56
      go_wp2_with (go_at_call 71; refine HP.out.mono ?_; rintro e w1 ⟨rfl, h1⟩; have HB := Lib.hid h1; clear h1)
      go_ret2
      exact ⟨rfl, HB.out⟩
    | true =>
      have e : Adr.domB S.data.toList = true := by unfold Adr.domB; rw [hp, decide_eq_true (by omega), Bool.true_and]
      rw [hp] at HP
      rw [dom_yes e]
      unfold sV
      clear hz e hp
      go_enter Tryz.func56, Tryz.ntmps56
      go_wp2_with (first
        | (go_at_call 71; refine HP.out.mono ?_; rintro e w1 ⟨rfl, h1⟩; have HB := Lib.hid h1; clear h1)
        | (go_at_call 73; refine (HSM.out _).mono ?_; rintro e w2 ⟨rfl, h2⟩; have HB2 := Lib.hid h2; clear h2))
      go_ret2
      exact ⟨rfl, HB.out.trans (HB2.out.mono HB.out.size)⟩
set_option maxRecDepth 100000 in
set_option maxHeartbeats 2000000 in
theorem plain_any (S : ByteArray) (m : Int) (w : World) (hs : S.size < 4294967281) (hm : w.cell? ⟨3, 0, none⟩ = some (.int .i64 m)) : Calls Tryz.prog 66 #[.string S] w fun e w' => e = .returned (.bool (Adr.plainB S.data.toList)) ∧ Below w.heap.size w w' := by
  have HL := Lib.hid (local_any S w (by omega))
  have HP := Lib.hid (parts_43 S m w hs hm)
  unfold Adr.plainB
  clear hm
  cases hl : Adr.localB S.data.toList with
  | false =>
    rw [hl] at HL
    rw [Bool.false_and]
    clear hl
    go_enter Tryz.func66, Tryz.ntmps66
    go_wp2_with (go_at_call 57; refine HL.out.mono ?_; rintro e w' ⟨rfl, rfl⟩)
    go_ret
    exact ⟨rfl, Below.refl _ _⟩
  | true =>
    rw [hl] at HL
    rw [Bool.true_and]
    clear hl
    generalize (Adr.dots S.data.toList).all (Adr.allB Adr.atomB) = r at *
    go_enter Tryz.func66, Tryz.ntmps66
    go_wp2_with (first
      | (go_at_call 57; refine HL.out.mono ?_; rintro e w' ⟨rfl, rfl⟩)
      | (go_at_call 71; refine HP.out.mono ?_; rintro e w1 ⟨rfl, h1⟩; have HB := Lib.hid h1; clear h1))
    go_ret
    exact ⟨rfl, HB.out⟩
end Go.Proofs.YtkchebbolldmbaaGreatDoor
