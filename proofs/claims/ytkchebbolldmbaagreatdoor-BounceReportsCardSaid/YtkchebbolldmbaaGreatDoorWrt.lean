/-
  PROVED HERE: what Write and Path of the program compute.
-/
import Derived.Test.YtkchebbolldmbaaGreatDoorMay
import Derived.Deep.RegionHeld3
set_option linter.unusedVariables false
namespace Adr
theorem may_len {l d : List UInt8} (h : mayB l d = true) : l.length ≤ 64 ∧ d.length ≤ 255 := by
  unfold mayB domB localB at h
  simp only [Bool.and_eq_true, decide_eq_true_eq] at h
  exact ⟨h.2.2.1, h.1.1⟩
theorem quo_len (l : List UInt8) : (quo l).length ≤ 2 * l.length + 2 := by
  have := escs_len l
  unfold quo
  simp only [List.length_append, List.length_singleton]
  omega
end Adr
namespace Go.Proofs.YtkchebbolldmbaaGreatDoor
open Go.RowKit

/-- What Write answers. -/
def wrtV (l d : List UInt8) : Value := if Adr.mayB l d = true then .tuple #[sV (Adr.wrt l d), .int .i64 0] else .tuple #[.string ⟨#[]⟩, .int .i64 2]

set_option maxRecDepth 100000 in
set_option maxHeartbeats 4000000 in
theorem write_any (l d : List UInt8) (m : Int) (w : World) (hl : l.length < 4294967281) (hd : d.length < 4294967281) (hm : w.cell? ⟨3, 0, none⟩ = some (.int .i64 m)) :
    Calls Tryz.prog 49 #[bxV l d] w fun e w' => e = .returned (wrtV l d) ∧ Below w.heap.size w w' := by
  have HA := Lib.hid (at_alloc hm (.cells #[.string ⟨l.toArray⟩, .string ⟨d.toArray⟩] 54))
  have HC := Lib.hid (cell_two w (.string ⟨l.toArray⟩) (.string ⟨d.toArray⟩) 54)
  have HM := Lib.hid (fun (W : World) (h : At m w W) => may_any l d m W hl hd h.cell)
  have HP := Lib.hid (fun (W : World) (h : At m w W) => plain_any ⟨l.toArray⟩ m W (by rw [size_mk]; exact hl) h.cell)
  rw [show (⟨l.toArray⟩ : ByteArray).data.toList = l from rfl] at HP
  unfold wrtV
  unfold bxV at HM ⊢
  clear hm
  cases hmay : Adr.mayB l d with
  | false =>
    rw [hmay] at HM
    rw [if_neg (by decide)]
    clear hmay
    go_enter Tryz.func49, Tryz.ntmps49
    go_wp2_with fail
    refine (HM.out _ HA.out).mono ?_
    rintro e w1 ⟨rfl, h1⟩
    have HB := Lib.hid h1
    clear h1
    go_wp2_with fail
    go_ret2
    exact ⟨rfl, HA.out.below.trans (HB.out.mono HA.out.below.size)⟩
  | true =>
    obtain ⟨hl2, hd2⟩ := Adr.may_len hmay
    rw [hmay] at HM
    rw [if_pos rfl]
    clear hmay
    have hg1 : ¬ 9223372036854775807 < l.length + 1 := by omega
    have hg2 : ¬ 9223372036854775807 < l.length + 1 + d.length := by omega
    have hg2' : ¬ 9223372036854775807 < l.length + (1 + d.length) := by omega
    have e1 := mk_append l [64]
    have e2 := mk_append (l ++ [64]) d
    cases hpl : Adr.plainB l with
    | true =>
      have HW : Hid (Adr.wrt l d = l ++ 64 :: d) := by show _ = _; unfold Adr.wrt; rw [if_pos hpl]; rfl
      rw [hpl] at HP
      rw [HW.out]
      clear hpl
      go_enter Tryz.func49, Tryz.ntmps49
      go_wp2_with fail
      refine (HM.out _ HA.out).mono ?_
      rintro e w1 ⟨rfl, h1⟩
      have HB := Lib.hid (HA.out.next h1)
      have HC1 := Lib.hid (two_keep HC.out h1)
      clear h1
      obtain ⟨c1, c2⟩ := HC1.out
      go_wp2_with fail
      refine (HP.out _ HB.out).mono ?_
      rintro e w2 ⟨rfl, h1⟩
      have HB2 := Lib.hid (HB.out.next h1)
      have HC2 := Lib.hid (two_keep HC1.out h1)
      clear h1 c1 c2
      obtain ⟨c1, c2⟩ := HC2.out
      go_wp2_with fail
      go_ret2
      exact ⟨rfl, HB2.out.below⟩
    | false =>
      have HW : Hid (Adr.wrt l d = Adr.quo l ++ 64 :: d) := by show _ = _; unfold Adr.wrt; rw [if_neg (by rw [hpl]; decide)]; rfl
      rw [hpl] at HP
      rw [HW.out]
      have hql := Adr.quo_len l
      have HQ := Lib.hid (fun (W : World) (h : (W.cell? ⟨w.heap.size, 0, none⟩ = some (.string ⟨l.toArray⟩) ∧ W.cell? ⟨w.heap.size, 1, none⟩ = some (.string ⟨d.toArray⟩)) ∧ At m w W) =>
        (quoted_any ⟨l.toArray⟩ W (by rw [size_mk]; omega)).mono fun e w' h2 => (⟨h2.1, two_keep h.1 h2.2, h.2.next h2.2⟩ : e = _ ∧ (w'.cell? ⟨w.heap.size, 0, none⟩ = some (.string ⟨l.toArray⟩) ∧ w'.cell? ⟨w.heap.size, 1, none⟩ = some (.string ⟨d.toArray⟩)) ∧ At m w w'))
      rw [show (⟨l.toArray⟩ : ByteArray).data.toList = l from rfl] at HQ
      have k1 : ¬ 9223372036854775807 < (Adr.quo l).length + 1 := by omega
      have k2 : ¬ 9223372036854775807 < (Adr.quo l).length + 1 + d.length := by omega
      have k3 : ¬ 9223372036854775807 < (Adr.quo l).length + (1 + d.length) := by omega
      have f1 := mk_append (Adr.quo l) [64]
      have f2 := mk_append (Adr.quo l ++ [64]) d
      generalize Adr.quo l = q at *
      clear hpl hql e1 e2 hg1 hg2 hg2'
      go_enter Tryz.func49, Tryz.ntmps49
      go_wp2_with fail
      refine (HM.out _ HA.out).mono ?_
      rintro e w1 ⟨rfl, h1⟩
      have HB := Lib.hid (HA.out.next h1)
      have HC1 := Lib.hid (two_keep HC.out h1)
      clear h1
      obtain ⟨c1, c2⟩ := HC1.out
      go_wp2_with fail
      refine (HP.out _ HB.out).mono ?_
      rintro e w2 ⟨rfl, h1⟩
      have HB2 := Lib.hid (HB.out.next h1)
      have HC2 := Lib.hid (two_keep HC1.out h1)
      clear h1 c1 c2
      obtain ⟨c1, c2⟩ := HC2.out
      have hbb := HB2.out
      go_wp2_with fail
      go_region_held3 (fun W => (W.cell? ⟨w.heap.size, 0, none⟩ = some (.string ⟨l.toArray⟩) ∧ W.cell? ⟨w.heap.size, 1, none⟩ = some (.string ⟨d.toArray⟩)) ∧ At m w W) (first | assumption | exact ⟨⟨c1, c2⟩, hbb.next (Below.refl _ _).drew⟩) (first | (go_at_call 67; refine (HQ.out _ (by assumption)).mono ?_; rintro e w3 ⟨rfl, h3⟩))
      go_wp2
      go_ret2
      exact ⟨rfl, h3.2.below⟩

/-- What Path answers. -/
def pathV (l d : List UInt8) : Value := if l = [] ∧ d = [] then .tuple #[.string ⟨#[60, 62]⟩, .int .i64 0] else if Adr.mayB l d = true then .tuple #[sV (60 :: (Adr.wrt l d ++ [62])), .int .i64 0] else .tuple #[.string ⟨#[]⟩, .int .i64 2]
theorem wrt_len {l d : List UInt8} (h : Adr.mayB l d = true) : (Adr.wrt l d).length ≤ 400 := by
  obtain ⟨h1, h2⟩ := Adr.may_len h
  have h3 := Adr.quo_len l
  unfold Adr.wrt
  split <;> (simp only [List.length_append, List.length_singleton]; omega)

set_option maxRecDepth 100000 in
set_option maxHeartbeats 4000000 in
theorem path_any (l d : List UInt8) (m : Int) (w : World) (hl : l.length < 4294967281) (hd : d.length < 4294967281) (hm : w.cell? ⟨3, 0, none⟩ = some (.int .i64 m)) :
    Calls Tryz.prog 30 #[bxV l d] w fun e w' => e = .returned (pathV l d) ∧ Below w.heap.size w w' := by
  have HA := Lib.hid (at_alloc hm (.cells #[.string ⟨l.toArray⟩, .string ⟨d.toArray⟩] 54))
  have HC := Lib.hid (cell_two w (.string ⟨l.toArray⟩) (.string ⟨d.toArray⟩) 54)
  have HM := Lib.hid (fun (W : World) (h : At m w W) => write_any l d m W hl hd h.cell)
  unfold pathV
  unfold bxV at HM ⊢
  clear hm
  by_cases hemp : l = [] ∧ d = []
  · obtain ⟨rfl, rfl⟩ := hemp
    rw [if_pos ⟨rfl, rfl⟩]
    go_enter Tryz.func30, Tryz.ntmps30
    go_wp2_with fail
    go_ret2
    exact ⟨rfl, HA.out.below⟩
  · rw [if_neg hemp]
    have HE := Lib.hid hemp
    clear hemp
    cases hmay : Adr.mayB l d with
    | false =>
      have hw : wrtV l d = .tuple #[.string ⟨#[]⟩, .int .i64 2] := by unfold wrtV; rw [hmay]; rfl
      rw [hw] at HM
      rw [if_neg (by decide)]
      clear hw hmay
      go_enter Tryz.func30, Tryz.ntmps30
      go_wp2_with fail
      · exact absurd ⟨by assumption, by assumption⟩ HE.out
      · obtain rfl : l = [] := by assumption
        refine (HM.out _ HA.out).mono ?_
        rintro e w1 ⟨rfl, h1⟩
        have HB := Lib.hid h1
        clear h1
        go_wp2_with fail
        go_ret2
        exact ⟨rfl, HA.out.below.trans (HB.out.mono HA.out.below.size)⟩
      · refine (HM.out _ HA.out).mono ?_
        rintro e w1 ⟨rfl, h1⟩
        have HB := Lib.hid h1
        clear h1
        go_wp2_with fail
        go_ret2
        exact ⟨rfl, HA.out.below.trans (HB.out.mono HA.out.below.size)⟩
    | true =>
      have hw : wrtV l d = .tuple #[sV (Adr.wrt l d), .int .i64 0] := by unfold wrtV; rw [hmay]; rfl
      have hlen := wrt_len hmay
      rw [hw] at HM
      rw [if_pos rfl]
      unfold sV at HM
      have k1 : ¬ 9223372036854775807 < 1 + (Adr.wrt l d).length := by omega
      have k2 : ¬ 9223372036854775807 < 1 + (Adr.wrt l d).length + 1 := by omega
      have k3 : ¬ 9223372036854775807 < (Adr.wrt l d).length + 1 + 1 := by omega
      have f1 := mk_append [60] (Adr.wrt l d)
      have f2 := mk_append ([60] ++ Adr.wrt l d) [62]
      obtain ⟨q, hq⟩ : ∃ q, Adr.wrt l d = q := ⟨_, rfl⟩
      rw [hq] at HM k1 k2 k3 f1 f2
      rw [hq]
      have HQ := Lib.hid hq
      clear hw hmay hq hlen
      go_enter Tryz.func30, Tryz.ntmps30
      go_wp2_with fail
      · exact absurd ⟨by assumption, by assumption⟩ HE.out
      · obtain rfl : l = [] := by assumption
        refine (HM.out _ HA.out).mono ?_
        rintro e w1 ⟨rfl, h1⟩
        have HB := Lib.hid h1
        clear h1
        go_wp2_with fail
        go_ret2
        exact ⟨rfl, HA.out.below.trans (HB.out.mono HA.out.below.size)⟩
      · refine (HM.out _ HA.out).mono ?_
        rintro e w1 ⟨rfl, h1⟩
        have HB := Lib.hid h1
        clear h1
        go_wp2_with fail
        go_ret2
        exact ⟨rfl, HA.out.below.trans (HB.out.mono HA.out.below.size)⟩
end Go.Proofs.YtkchebbolldmbaaGreatDoor
