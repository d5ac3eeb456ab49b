/-
  PROVED HERE: what May, Write and Path of the program compute.
-/
import Derived.Test.YtkchebbolldmbaaGreatDoorQuo
set_option linter.unusedVariables false
namespace Adr
/-- May a mailbox be? -/
def mayB (l d : List UInt8) : Bool := domB d && ((sml d == d) && localB l)
/-- A mailbox, written. -/
def wrt (l d : List UInt8) : List UInt8 := (if plainB l = true then l else quo l) ++ ([64] ++ d)
end Adr
namespace Go.Proofs.YtkchebbolldmbaaGreatDoor
open Go.RowKit

theorem mk_append (a b : List UInt8) : (⟨a.toArray⟩ : ByteArray) ++ (⟨b.toArray⟩ : ByteArray) = ⟨(a ++ b).toArray⟩ := by
  apply ByteArray.ext
  simp
theorem str_beq (x y : List UInt8) : ((⟨x.toArray⟩ : ByteArray).toList == (⟨y.toArray⟩ : ByteArray).toList) = (x == y) := by
  rw [ByteArray.toList_eq, ByteArray.toList_eq]
/-- A mailbox. -/
def bxV (l d : List UInt8) : Value := .agg #[.string ⟨l.toArray⟩, .string ⟨d.toArray⟩]
/-- What a walk's world keeps. -/
structure At (m : Int) (w w' : World) : Prop where
  below : Below w.heap.size w w'
  cell : w'.cell? ⟨3, 0, none⟩ = some (.int .i64 m)
theorem At.next {m : Int} {w w1 w2 : World} (h : At m w w1) (hb : Below w1.heap.size w1 w2) : At m w w2 :=
  ⟨h.below.trans (hb.mono h.below.size), by rw [hb.cell (World.block_lt_of_cell? _ _ h.cell)]; exact h.cell⟩
theorem at_alloc {m : Int} {w : World} (hm : w.cell? ⟨3, 0, none⟩ = some (.int .i64 m)) (o : Obj) : At m w (w.alloc o) :=
  have hb : Below w.heap.size w (w.alloc o) := (Below.refl _ _).alloc (Nat.le_refl _) _
  ⟨hb, by rw [hb.cell (World.block_lt_of_cell? _ _ hm)]; exact hm⟩
theorem cell_two (w : World) (a b : Value) (t : TypeId) : (w.alloc (.cells #[a, b] t)).cell? ⟨w.heap.size, 0, none⟩ = some a ∧ (w.alloc (.cells #[a, b] t)).cell? ⟨w.heap.size, 1, none⟩ = some b := by
  rw [World.cell?_alloc_new, World.cell?_alloc_new]
  exact ⟨rfl, rfl⟩
theorem two_keep {w1 w2 : World} {g : Nat} {a b : Value} (h : w1.cell? ⟨g, 0, none⟩ = some a ∧ w1.cell? ⟨g, 1, none⟩ = some b) (hb : Below w1.heap.size w1 w2) : w2.cell? ⟨g, 0, none⟩ = some a ∧ w2.cell? ⟨g, 1, none⟩ = some b :=
  ⟨by rw [hb.cell (World.block_lt_of_cell? _ _ h.1)]; exact h.1, by rw [hb.cell (World.block_lt_of_cell? _ _ h.2)]; exact h.2⟩

set_option maxRecDepth 100000 in
set_option maxHeartbeats 4000000 in
theorem may_any (l d : List UInt8) (m : Int) (w : World) (hl : l.length < 4294967281) (hd : d.length < 4294967281) (hm : w.cell? ⟨3, 0, none⟩ = some (.int .i64 m)) :
    Calls Tryz.prog 34 #[bxV l d] w fun e w' => e = .returned (.bool (Adr.mayB l d)) ∧ Below w.heap.size w w' := by
  have HA := Lib.hid (at_alloc hm (.cells #[.string ⟨l.toArray⟩, .string ⟨d.toArray⟩] 54))
  have HC := Lib.hid (cell_two w (.string ⟨l.toArray⟩) (.string ⟨d.toArray⟩) 54)
  have HD := Lib.hid (fun (W : World) (h : At m w W) => domain_any ⟨d.toArray⟩ m W (by rw [size_mk]; exact hd) h.cell)
  have HL := Lib.hid (fun (W : World) => local_any ⟨l.toArray⟩ W (by rw [size_mk]; omega))
  rw [show (⟨d.toArray⟩ : ByteArray).data.toList = d from rfl] at HD
  rw [show (⟨l.toArray⟩ : ByteArray).data.toList = l from rfl] at HL
  unfold bxV
  unfold Adr.mayB
  clear hm
  cases hdm : Adr.domB d with
  | false =>
    rw [dom_no hdm] at HD
    rw [Bool.false_and]
    clear hdm
    go_enter Tryz.func34, Tryz.ntmps34
    go_wp2_with fail
    refine (HD.out _ HA.out).mono ?_
    rintro e w1 ⟨rfl, h1⟩
    have HB := Lib.hid h1
    have HC2 := Lib.hid (two_keep HC.out h1)
    clear h1
    obtain ⟨c1, c2⟩ := HC2.out
    go_wp2_with fail
    go_ret
    exact ⟨rfl, HA.out.below.trans (HB.out.mono HA.out.below.size)⟩
  | true =>
    rw [dom_yes hdm] at HD
    rw [Bool.true_and]
    unfold sV at HD
    clear hdm
    cases heq : (Adr.sml d == d) with
    | false =>
      have e1 := str_beq (Adr.sml d) d
      rw [heq] at e1
      rw [Bool.false_and]
      generalize Adr.sml d = sd at *
      go_enter Tryz.func34, Tryz.ntmps34
      go_wp2_with fail
      refine (HD.out _ HA.out).mono ?_
      rintro e w1 ⟨rfl, h1⟩
      have HB := Lib.hid h1
      have HC2 := Lib.hid (two_keep HC.out h1)
      clear h1
      obtain ⟨c1, c2⟩ := HC2.out
      go_wp2_with fail
      go_ret
      exact ⟨rfl, HA.out.below.trans (HB.out.mono HA.out.below.size)⟩
    | true =>
      have e0 : Adr.sml d = d := eq_of_beq heq
      rw [e0] at HD
      rw [Bool.true_and]
      clear e0 heq
      generalize Adr.localB l = r at *
      go_enter Tryz.func34, Tryz.ntmps34
      go_wp2_with fail
      refine (HD.out _ HA.out).mono ?_
      rintro e w1 ⟨rfl, h1⟩
      have HB := Lib.hid h1
      have HC2 := Lib.hid (two_keep HC.out h1)
      clear h1
      obtain ⟨c1, c2⟩ := HC2.out
      go_wp2_with (go_at_call 57; refine (HL.out _).mono ?_; rintro e w' ⟨rfl, rfl⟩)
      go_ret
      exact ⟨rfl, HA.out.below.trans (HB.out.mono HA.out.below.size)⟩
end Go.Proofs.YtkchebbolldmbaaGreatDoor
