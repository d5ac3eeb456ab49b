/-
  PROVED HERE: an entry is the same as itself.
-/
import Derived.Test.YtocjjfjcepflnaaDoorEqs2
import Derived.Deep.QuietTactic
set_option linter.unusedVariables false
namespace Go.Proofs.YtocjjfjcepflnaaDoor
open Go.RowKit

set_option maxRecDepth 100000 in
set_option maxHeartbeats 8000000 in
theorem same_any (x : En) (g : Nat → To3) (w : World) (hT : Tos w x.A x.n g) (hn : x.n ≤ 4611686018427387904) : Calls Tryd.prog 19 #[.agg (enA x), .agg (enA x)] w fun e w' => e = .returned (.bool true) ∧ Below w.heap.size w w' := by
  have B2 : Hid (Below w.heap.size w ((w.alloc (.cells (enA x) 41)).alloc (.cells (enA x) 41))) := ((Below.refl _ _).alloc (Nat.le_refl _) _).alloc (by rw [World.size_alloc]; omega) _
  have E1 : Hid (Ex w w.heap.size x ((w.alloc (.cells (enA x) 41)).alloc (.cells (enA x) 41))) := ex_next (ex_new (Below.refl _ _) x) ((Below.refl _ _).alloc (Nat.le_refl _) _)
  have E2 : Hid (Ex w (w.heap.size + 1) x ((w.alloc (.cells (enA x) 41)).alloc (.cells (enA x) 41))) := by
    have q := ex_new (w := w) ((Below.refl w.heap.size w).alloc (Nat.le_refl _) (.cells (enA x) 41)) x
    rw [World.size_alloc] at q
    exact q
  have HT := Lib.hid (tos_below hT B2.out)
  have q38 := fun W => eql38 ⟨x.fl.toArray⟩ ⟨x.fd.toArray⟩ W
  have gu38 := gua38
  have gu59 := gua59
  clear hT
  unfold enA at *
  go_enter Tryd.func19, Tryd.ntmps19
  go_wp2_with fail
  generalize (w.alloc _).alloc _ = W at *
  obtain ⟨a0, a1, a2, a3, a4, a5, a6, a7, a8, a9⟩ := ex_cells E1.out
  obtain ⟨z0, z1, z2, z3, z4, z5, z6, z7, z8, z9⟩ := ex_cells E2.out
  have HE1 := Lib.hid E1.out.bel
  clear E1 E2 B2
  go_loopw [5] (fun u wr => ∃ k q : Nat, u = .int .i64 k ∧ k ≤ x.n ∧ wr = W.drewN q) (fun u _ => x.n - (intOf u).toNat)
  case atStart => exact ⟨0, 0, rfl, by omega, rfl⟩
  case round =>
    obtain ⟨k, q, rfl, hk, rfl⟩ := hrel
    by_cases hlt : k < x.n
    · have hltz : (k : Int) < (x.n : Int) := by omega
      obtain ⟨b, off, hA, ⟨t0, t1⟩, t2⟩ := HT.out k hlt
      rw [hA] at a6 z6
      have q59 := fun W => neq59 ⟨(g k).lo.toArray⟩ ⟨(g k).dm.toArray⟩ (g k).st W
      generalize g k = y at *
      go_wp2_with fail
      go_quiet (fail)
      go_wp2
      go_roundw
      case rel => exact ⟨k + 1, _, by go_num, by omega, rfl⟩
      case measure => simp [intOf]; omega
    · have hltz : ¬ (k : Int) < (x.n : Int) := by omega
      go_wp2_with fail
      go_ret
      exact ⟨by simp, below_drewN HE1.out _⟩
end Go.Proofs.YtocjjfjcepflnaaDoor
