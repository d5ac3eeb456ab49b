/-
  PROVED HERE: what Path of the answer computes.
-/
import Derived.Test.YtkchebbolldmbaaGreatDoorRMay
set_option linter.unusedVariables false
namespace Go.Proofs.YtkchebbolldmbaaGreatDoor
open Go.RowKit

set_option maxRecDepth 100000 in
set_option maxHeartbeats 4000000 in
theorem rpath_any (l d : List UInt8) (m : Int) (w : World) (hl : l.length < 4294967281) (hd : d.length < 4294967281) (hm : w.cell? ⟨3, 0, none⟩ = some (.int .i64 m)) :
    Calls Tryz.prog 42 #[bxV l d] w fun e w' => e = .returned (pathV l d) ∧ Below w.heap.size w w' := by
  have HA := Lib.hid (at_alloc hm (.cells #[.string ⟨l.toArray⟩, .string ⟨d.toArray⟩] 63))
  have HC := Lib.hid (cell_two w (.string ⟨l.toArray⟩) (.string ⟨d.toArray⟩) 63)
  have HM := Lib.hid (fun (W : World) (h : At m w W) => rwrite_any l d m W hl hd h.cell)
  unfold pathV
  unfold bxV at HM ⊢
  clear hm
  by_cases hemp : l = [] ∧ d = []
  · obtain ⟨rfl, rfl⟩ := hemp
    obtain ⟨c1, c2⟩ := HC.out
    rw [if_pos ⟨rfl, rfl⟩]
    go_enter Tryz.func42, Tryz.ntmps42
    go_wp2_with fail
    go_ret2
    exact ⟨rfl, HA.out.below⟩
  · rw [if_neg hemp]
    have hne : ¬ (l.length : Int) + (d.length : Int) = 0 := fun h => hemp ⟨List.length_eq_zero_iff.1 (by omega), List.length_eq_zero_iff.1 (by omega)⟩
    have hne2 : (((l.length : Int) + (d.length : Int)) == 0) = false := beq_eq_false_iff_ne.2 hne
    obtain ⟨c1, c2⟩ := HC.out
    clear hemp
    cases hmay : Adr.mayB l d with
    | false =>
      have hw : wrtV l d = .tuple #[.string ⟨#[]⟩, .int .i64 2] := by unfold wrtV; rw [hmay]; rfl
      rw [hw] at HM
      rw [if_neg (by decide)]
      clear hw hmay
      go_enter Tryz.func42, Tryz.ntmps42
      go_wp2_with fail
      refine (HM.out _ HA.out).mono ?_
      rintro e w1 ⟨rfl, h1⟩
      have HB := Lib.hid h1
      clear h1
      go_wp2_with fail
      go_ret2
      exact ⟨rfl, HA.out.below.trans (HB.out.mono HA.out.below.size)⟩
    | true =>
      have hw : wrtV l d = .tuple #[sV (Adr.wrt l d), .int .i64 0] := by unfold wrtV; rw [hmay]; rfl
      have hlen := wrt_len hmay
      rw [hw] at HM
      rw [if_pos rfl]
      unfold sV at HM
      have k1 : ¬ 9223372036854775807 < 1 + (Adr.wrt l d).length := by omega
      have k2 : ¬ 9223372036854775807 < 1 + (Adr.wrt l d).length + 1 := by omega
      have k3 : ¬ 9223372036854775807 < (Adr.wrt l d).length + 1 + 1 := by omega
      have f1 := mk_append [60] (Adr.wrt l d)
      have f2 := mk_append ([60] ++ Adr.wrt l d) [62]
      obtain ⟨q, hq⟩ : ∃ q, Adr.wrt l d = q := ⟨_, rfl⟩
      rw [hq] at HM k1 k2 k3 f1 f2
      rw [hq]
      have HQ := Lib.hid hq
      clear hw hmay hq hlen
      go_enter Tryz.func42, Tryz.ntmps42
      go_wp2_with fail
      refine (HM.out _ HA.out).mono ?_
      rintro e w1 ⟨rfl, h1⟩
      have HB := Lib.hid h1
      clear h1
      go_wp2_with fail
      go_ret2
      exact ⟨rfl, HA.out.below.trans (HB.out.mono HA.out.below.size)⟩
end Go.Proofs.YtkchebbolldmbaaGreatDoor
