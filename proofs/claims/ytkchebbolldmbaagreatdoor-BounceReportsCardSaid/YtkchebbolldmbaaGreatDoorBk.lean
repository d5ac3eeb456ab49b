/-
  PROVED HERE: what large and boxes of the statements compute.
-/
import Derived.Test.YtkchebbolldmbaaGreatDoorBt
set_option linter.unusedVariables false
namespace Go.Proofs.YtkchebbolldmbaaGreatDoor
open Go.RowKit

set_option maxRecDepth 100000 in
set_option maxHeartbeats 4000000 in
theorem large_any (x : En) (g : Nat → To3) (w : World) (hT : Tos w x.A x.n g) :
    Calls Tryz.prog 11 #[.agg (enA x)] w fun e w' => (e = .returned (.bool true) ∨ (e = .returned (.bool false) ∧ Hid (x.n ≤ 30 ∧ x.fl.length ≤ 500 ∧ x.fd.length ≤ 500 ∧ ∀ k, k < x.n → (g k).lo.length ≤ 500 ∧ (g k).dm.length ≤ 500))) ∧ Below w.heap.size w w' := by
  have HT := Lib.hid (tos_below hT ((Below.refl w.heap.size w).alloc (Nat.le_refl _) (.cells (enA x) 32)))
  have H1 := Lib.hid (ex_new (Below.refl w.heap.size w) x)
  obtain ⟨c0, c1, c2, c3, c4, c5, c6, c7, c8, c9⟩ := ex_cells H1.out
  clear hT
  unfold enA at *
  obtain ⟨id, dom, ep, ct, fl, fd, A, n, c, born, next, tries⟩ := x
  simp only [] at *
  go_enter Tryz.func11, Tryz.ntmps11
  by_cases h30 : 30 < n
  · have h30z : (30 : Int) < (n : Int) := by omega
    go_wp2_with fail
    go_ret
    exact ⟨Or.inl rfl, H1.out.bel⟩
  have h30z : ¬ (30 : Int) < (n : Int) := by omega
  by_cases hfl : 500 < fl.length
  · have hflz : (500 : Int) < (fl.length : Int) := by omega
    go_wp2_with fail
    go_ret
    exact ⟨Or.inl rfl, H1.out.bel⟩
  have hflz : ¬ (500 : Int) < (fl.length : Int) := by omega
  by_cases hfd : 500 < fd.length
  · have hfdz : (500 : Int) < (fd.length : Int) := by omega
    go_wp2_with fail
    go_ret
    exact ⟨Or.inl rfl, H1.out.bel⟩
  have hfdz : ¬ (500 : Int) < (fd.length : Int) := by omega
  go_wp2_with fail
  generalize w.alloc _ = w0 at *
  go_loopw [25] (fun u wr => ∃ k : Nat, u = .int .i64 k ∧ k ≤ n ∧ Hid (∀ j, j < k → (g j).lo.length ≤ 500 ∧ (g j).dm.length ≤ 500) ∧ w0 = wr) (fun u _ => n - (intOf u).toNat)
  case atStart => exact ⟨0, rfl, by omega, fun j hj => absurd hj (Nat.not_lt_zero _), rfl⟩
  case round =>
    obtain ⟨k, rfl, hk, HK, rfl⟩ := hrel
    by_cases hlt : k < n
    · have hltz : (k : Int) < (n : Int) := by omega
      obtain ⟨b, off, rfl, ⟨t0, t1⟩, t2⟩ := HT.out k hlt
      have HN : Hid ((g k).lo.length ≤ 500 → (g k).dm.length ≤ 500 → ∀ j, j < k + 1 → (g j).lo.length ≤ 500 ∧ (g j).dm.length ≤ 500) := fun q1 q2 j hj => by
        by_cases e : j = k
        · rw [e]; exact ⟨q1, q2⟩
        · exact HK.out j (by omega)
      generalize g k = y at *
      obtain ⟨lo, dm, st⟩ := y
      simp only [] at *
      by_cases hlo : 500 < lo.length
      · have hloz : (500 : Int) < (lo.length : Int) := by omega
        go_wp2_with fail
        go_ret
        exact ⟨Or.inl rfl, H1.out.bel⟩
      have hloz : ¬ (500 : Int) < (lo.length : Int) := by omega
      by_cases hdm : 500 < dm.length
      · have hdmz : (500 : Int) < (dm.length : Int) := by omega
        go_wp2_with fail
        go_ret
        exact ⟨Or.inl rfl, H1.out.bel⟩
      have hdmz : ¬ (500 : Int) < (dm.length : Int) := by omega
      have HM := Lib.hid (HN.out (by omega) (by omega))
      clear HN HK
      go_wp2_with fail
      go_roundw
      case rel => exact ⟨k + 1, by go_num, by omega, HM, by trivial⟩
      case measure => simp [intOf]; omega
    · have hltz : ¬ (k : Int) < (n : Int) := by omega
      obtain rfl : k = n := by omega
      go_wp2_with fail
      go_ret
      exact ⟨Or.inr ⟨rfl, ⟨by omega, by omega, by omega, HK.out⟩⟩, H1.out.bel⟩
theorem mk_inj {x y : List UInt8} (h : (⟨x.toArray⟩ : ByteArray).toList = (⟨y.toArray⟩ : ByteArray).toList) : x = y := by
  have e := str_beq x y
  rw [h] at e
  simpa using e.symm

set_option maxRecDepth 100000 in
set_option maxHeartbeats 4000000 in
theorem boxes_same (A B : Option Addr) (c d n : Nat) (l : List Bxp) (w : World) (hn : l.length = n) (hA : Bos w A l) (hB : Bos w B l) (hs : n ≤ 4611686018427387904) :
    Calls Tryz.prog 17 #[.slice A n c, .slice B n d] w fun e w' => e = .returned (.bool true) ∧ Below w.heap.size w w' := by
  have HAA := Lib.hid hA
  have HBB := Lib.hid hB
  have HN := Lib.hid hn
  have HB0 : Hid (Below w.heap.size w w) := Below.refl _ _
  clear hA hB hn
  go_enter Tryz.func17, Tryz.ntmps17
  go_wp2_with fail
  go_loopw [13] (fun u wr => ∃ k : Nat, u = .int .i64 k ∧ k ≤ n ∧ Hid (Below w.heap.size w wr)) (fun u _ => n - (intOf u).toNat)
  case atStart => exact ⟨0, rfl, by omega, HB0⟩
  case round =>
    clear HB0
    obtain ⟨k, rfl, hk, HK⟩ := hrel
    by_cases hlt : k < n
    · have hltz : (k : Int) < (n : Int) := by omega
      have hkl : k < l.length := by rw [HN.out]; exact hlt
      have H1 := Lib.hid (bos_below HAA.out HK.out)
      have H2 := Lib.hid (bos_below HBB.out HK.out)
      obtain ⟨b, off, rfl, t0, t1⟩ := H1.out k hkl
      obtain ⟨b2, off2, rfl, s0, s1⟩ := H2.out k hkl
      have gv := gua24
      have ev : ∀ W, (binOp .neq 29 (.agg #[.string ⟨l[k].1.toArray⟩, .string ⟨l[k].2.toArray⟩]) (.agg #[.string ⟨l[k].1.toArray⟩, .string ⟨l[k].2.toArray⟩])).run Tryz.prog W = .ok (.bool false) W := fun W => by
        rw [neq24]; simp only [beq_self_eq_true, Bool.and_self, Bool.not_true]
      have HNX := Lib.hid (fun q => HK.out.trans ((below_drewN (Below.refl wr.heap.size wr) q).mono HK.out.size))
      generalize l[k] = p at *
      obtain ⟨x, y⟩ := p
      simp only [] at *
      go_wp2_with fail
      go_quiet (fail)
      go_wp2
      go_roundw
      case rel => exact ⟨k + 1, by go_num, by omega, HNX.out _⟩
      case measure => simp [intOf]; omega
    · have hltz : ¬ (k : Int) < (n : Int) := by omega
      go_wp2_with fail
      go_ret
      exact ⟨rfl, HK.out⟩
end Go.Proofs.YtkchebbolldmbaaGreatDoor
