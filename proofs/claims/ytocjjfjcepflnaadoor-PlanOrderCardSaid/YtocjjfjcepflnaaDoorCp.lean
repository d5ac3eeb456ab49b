/-
  PROVED HERE: what the comparing function of the program's Due computes; it lays blocks of its own.
-/
import Derived.Test.YtocjjfjcepflnaaDoorWt
import Derived.Test.YtocjjfjcepflnaaDoorLeaf2
import Derived.Sort.Grow
set_option linter.unusedVariables false
namespace Pln
/-- Which of two numbers is less. -/
def cmpI (a b : Int) : Int := if a < b then -1 else if b < a then 1 else 0
/-- The first that is not zero. -/
def orI (a b c : Int) : Int := if a ≠ 0 then a else if b ≠ 0 then b else c
end Pln
namespace Go.Proofs.YtocjjfjcepflnaaDoor
open Go.RowKit Go.Sort
set_option maxRecDepth 100000 in
theorem isNaN_any (x : Int) (w : World) : Calls Tryd.prog 63 #[.int .u64 x] w fun e w' => e = .returned (.bool false) ∧ w = w' := by
  go_enter Tryd.func63, Tryd.ntmps63
  go_wp2
  go_ret
  exact ⟨by simp, rfl⟩
set_option maxRecDepth 100000 in
theorem cmpI_any (x y : Int) (w : World) : Calls Tryd.prog 54 #[.int .u64 x, .int .u64 y] w fun e w' => e = .returned (.int .i64 (Pln.cmpI x y)) ∧ w = w' := by
  have H1 := Lib.hid (isNaN_any x w)
  have H2 := Lib.hid (isNaN_any y w)
  unfold Pln.cmpI
  by_cases a : x < y
  · rw [if_pos a]
    go_enter Tryd.func54, Tryd.ntmps54
    go_wp2_with fail
    refine H1.out.mono ?_
    rintro e w' ⟨rfl, rfl⟩
    go_wp2_with fail
    refine H2.out.mono ?_
    rintro e w' ⟨rfl, rfl⟩
    go_wp2_with fail
    go_ret
    exact ⟨rfl, rfl⟩
  · rw [if_neg a]
    by_cases b : y < x
    · rw [if_pos b]
      go_enter Tryd.func54, Tryd.ntmps54
      go_wp2_with fail
      refine H1.out.mono ?_
      rintro e w' ⟨rfl, rfl⟩
      go_wp2_with fail
      refine H2.out.mono ?_
      rintro e w' ⟨rfl, rfl⟩
      go_wp2_with fail
      go_ret
      exact ⟨rfl, rfl⟩
    · rw [if_neg b]
      go_enter Tryd.func54, Tryd.ntmps54
      go_wp2_with fail
      refine H1.out.mono ?_
      rintro e w' ⟨rfl, rfl⟩
      go_wp2_with fail
      refine H2.out.mono ?_
      rintro e w' ⟨rfl, rfl⟩
      go_wp2_with fail
      go_ret
      exact ⟨rfl, rfl⟩
set_option maxRecDepth 100000 in
set_option maxHeartbeats 1000000 in
theorem or_any (a b c : Int) (B : Nat) (w : World) (h0 : w.cell? ⟨B, 0, none⟩ = some (.int .i64 a)) (h1 : w.cell? ⟨B, 1, none⟩ = some (.int .i64 b)) (h2 : w.cell? ⟨B, 2, none⟩ = some (.int .i64 c)) :
    Calls Tryd.prog 52 #[.slice (some ⟨B, 0, none⟩) 3 3] w fun e w' => e = .returned (.int .i64 (Pln.orI a b c)) ∧ w = w' := by
  have R1 : Hid (a ≠ 0 → Pln.orI a b c = a) := fun h => if_pos h
  have R2 : Hid (a = 0 → b ≠ 0 → Pln.orI a b c = b) := fun h g => by unfold Pln.orI; rw [if_neg (fun q => q h), if_pos g]
  have R3 : Hid (a = 0 → b = 0 → Pln.orI a b c = c) := fun h g => by unfold Pln.orI; rw [if_neg (fun q => q h), if_neg (fun q => q g)]
  generalize Pln.orI a b c = r at *
  go_enter Tryd.func52, Tryd.ntmps52
  go_wp2
  go_loop [8] (fun u => ∃ k : Nat, u = .int .i64 k ∧ k ≤ 3 ∧ (1 ≤ k → a = 0) ∧ (2 ≤ k → b = 0) ∧ (3 ≤ k → c = 0)) (fun u => 3 - (intOf u).toNat)
  case atStart => exact ⟨0, rfl, by omega, by omega, by omega, by omega⟩
  case round =>
    obtain ⟨k, rfl, hk, k1, k2, k3⟩ := hrel
    have hk4 : k = 0 ∨ k = 1 ∨ k = 2 ∨ k = 3 := by omega
    rcases hk4 with rfl | rfl | rfl | rfl
    · clear k1 k2 k3
      by_cases ha : a = 0
      · have hb : (a != 0) = false := by simp [ha]
        have HA := Lib.hid ha
        clear ha
        go_wp2_with fail
        go_round
        case rel => exact ⟨1, by go_num, by omega, fun _ => HA.out, by omega, by omega⟩
        case measure => simp [intOf]
      · have hb : (a != 0) = true := by simp [ha]
        have HV := Lib.hid (R1.out ha)
        go_wp2_with fail
        go_ret
        exact ⟨by rw [HV.out]; rfl, rfl⟩
    · have HA := Lib.hid (k1 (by omega))
      clear k1 k2 k3
      by_cases ha : b = 0
      · have hb : (b != 0) = false := by simp [ha]
        have HB := Lib.hid ha
        clear ha
        go_wp2_with fail
        go_round
        case rel => exact ⟨2, by go_num, by omega, fun _ => HA.out, fun _ => HB.out, by omega⟩
        case measure => simp [intOf]
      · have hb : (b != 0) = true := by simp [ha]
        have HV := Lib.hid (R2.out HA.out ha)
        go_wp2_with fail
        go_ret
        exact ⟨by rw [HV.out]; rfl, rfl⟩
    · have HA := Lib.hid (k1 (by omega))
      have HB := Lib.hid (k2 (by omega))
      clear k1 k2 k3
      by_cases ha : c = 0
      · have hb : (c != 0) = false := by simp [ha]
        have HC := Lib.hid ha
        clear ha
        go_wp2_with fail
        go_round
        case rel => exact ⟨3, by go_num, by omega, fun _ => HA.out, fun _ => HB.out, fun _ => HC.out⟩
        case measure => simp [intOf]
      · have hb : (c != 0) = true := by simp [ha]
        have HV := Lib.hid (R3.out HA.out HB.out)
        go_wp2_with fail
        go_ret
        exact ⟨by rw [HV.out]; rfl, rfl⟩
    · have HA := Lib.hid (k1 (by omega))
      have HB := Lib.hid (k2 (by omega))
      have HC := Lib.hid (k3 (by omega))
      clear k1 k2 k3
      go_wp2_with fail
      go_ret
      exact ⟨by rw [R3.out HA.out HB.out, HC.out]; rfl, rfl⟩
/-- An entry that is due. -/
structure Du where
  wt : Int
  nx : Int
  id : Int
abbrev duA (x : Du) : Array Value := #[.int .u64 x.wt, .int .u64 x.nx, .int .u64 x.id]
def cmpD (x y : Du) : Int := Pln.orI (Wgh.cmpW x.wt.toNat y.wt.toNat) (Pln.cmpI x.nx y.nx) (Pln.cmpI x.id y.id)
/-- Draws and new blocks. -/
def Gq (w W : World) : Prop := ∃ q os, W = grow (w.drewN q) os
theorem grow_alloc (w : World) (os : Array Obj) (o : Obj) : (grow w os).alloc o = grow w (os.push o) := by
  show ({ w with heap := (w.heap ++ os).push o } : World) = { w with heap := w.heap ++ os.push o }
  rw [Array.append_push]
theorem gq_refl (w : World) : Gq w w := ⟨0, #[], by rw [grow_empty]; rfl⟩
theorem gq_alloc {w W : World} (h : Gq w W) (o : Obj) : Gq w (W.alloc o) := by
  obtain ⟨q, os, rfl⟩ := h
  exact ⟨q, os.push o, grow_alloc _ _ _⟩
theorem gq_drew {w W : World} (h : Gq w W) : Gq w W.drew := by
  obtain ⟨q, os, rfl⟩ := h
  exact ⟨q + 1, os, rfl⟩
end Go.Proofs.YtocjjfjcepflnaaDoor
