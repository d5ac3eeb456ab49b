/-
  PROVED HERE: what Wait and Out of the program and of the answer compute.
-/
import Derived.Test.YtocjjfjcepflnaaDoorMay
set_option linter.unusedVariables false
namespace Pln
/-- The wait behind tries. -/
def pw (k : Nat) : Int := 10 * 2 ^ k
def wait (n : Int) : Int := if n ≤ 0 then 10 else if 6 ≤ n then 640 else pw n.toNat
theorem pw_all : ∀ k, k < 6 → pw k * 2 = pw (k + 1) ∧ 0 ≤ pw k ∧ pw k ≤ 320 ∧ (k < 5 → pw (k + 1) < 640) := by decide
theorem wait_end (n : Int) (k : Nat) (hk : k ≤ 5) (h1 : (k : Int) ≤ max n 0) (h2 : ¬ (k : Int) < max n 0) : wait n = pw k := by
  unfold wait
  by_cases h : n ≤ 0
  · have : k = 0 := by omega
    subst this
    rw [if_pos h]; rfl
  · rw [if_neg h, if_neg (by omega), show n.toNat = k by omega]
theorem wait_full (n : Int) (h : 5 < max n 0) : wait n = 640 := by
  unfold wait
  rw [if_neg (by omega), if_pos (by omega)]
theorem rwait_end (n : Int) (k : Nat) (hk : k ≤ 6) (h1 : (k : Int) ≤ n ∨ k = 0) (h2 : ¬ (k : Int) < n) : wait n = pw k := by
  by_cases h : k = 6
  · subst h
    rw [wait_full n (by omega)]; rfl
  · exact wait_end n k (by omega) (by omega) (by omega)
theorem wait_lt (n : Int) : 10 ≤ wait n ∧ wait n ≤ 640 := by
  unfold wait
  split
  · decide
  · split
    · decide
    · have h := pw_all n.toNat (by omega)
      have : ∀ k, k < 6 → 10 ≤ pw k := by decide
      have h2 := this n.toNat (by omega)
      omega
/-- Has it run out? -/
def outB (born now : Int) : Bool := decide (2000 ≤ now ∧ born ≤ now - 2000)
end Pln
namespace Go.Proofs.YtocjjfjcepflnaaDoor
open Go.RowKit

set_option maxRecDepth 100000 in
set_option maxHeartbeats 1000000 in
theorem wait_any (n : Int) (w : World) (h1 : -9223372036854775808 ≤ n) (h2 : n ≤ 9223372036854775807) : Calls Tryd.prog 22 #[.int .i64 n] w fun e w' => e = .returned (.int .u64 (Pln.wait n)) ∧ w = w' := by
  obtain ⟨M, hM⟩ : ∃ M, max n 0 = M := ⟨_, rfl⟩
  have HE := Lib.hid (fun k a b c => Pln.wait_end n k a b c)
  have HF := Lib.hid (Pln.wait_full n)
  rw [hM] at HE HF
  have hM0 : 0 ≤ M := by omega
  have hM1 : M ≤ 9223372036854775807 := by omega
  generalize Pln.wait n = r at *
  go_enter Tryd.func22, Tryd.ntmps22
  go_wp2
  clear hM
  go_loop [3, 6] (fun u v => ∃ k : Nat, u = .int .u64 (Pln.pw k) ∧ v = .int .i64 k ∧ k ≤ 5 ∧ (k : Int) ≤ M) (fun _ v => 6 - (intOf v).toNat)
  case atStart => exact ⟨0, rfl, rfl, by omega, by omega⟩
  case round =>
    obtain ⟨k, rfl, rfl, hk, hkM⟩ := hrel
    obtain ⟨p1, p2, p3, p4⟩ := Pln.pw_all k (by omega)
    by_cases hlt : (k : Int) < M
    · by_cases h5 : k = 5
      · subst h5
        have HV := Lib.hid (HF.out (by omega))
        have e5 : Pln.pw 5 = 320 := by decide
        clear p1 p2 p3 p4
        rw [e5]
        go_wp2_with fail
        go_ret
        exact ⟨by rw [HV.out]; rfl, rfl⟩
      · have h7 := p4 (by omega)
        have HQ := Lib.hid (rfl : Pln.pw (k + 1) = Pln.pw (k + 1))
        generalize hq : Pln.pw (k + 1) = q at *
        generalize Pln.pw k = p at *
        have w1 : IntKind.u64.wrap (p * 2) = q := by rw [p1]; simp [IntKind.wrap, IntKind.signed, IntKind.bits]; omega
        have h8 : ¬ 640 ≤ q := by omega
        have hk4 : k ≤ 4 := by omega
        clear p1 p4 h5
        go_wp2_with fail
        go_round
        case rel => exact ⟨k + 1, by rw [hq], by go_num, by omega, by omega⟩
        case measure => simp [intOf]; omega
    · have HV := Lib.hid (HE.out k hk hkM (by omega))
      clear p1 p2 p3 p4
      go_wp2_with fail
      go_ret
      exact ⟨by rw [HV.out]; rfl, rfl⟩

set_option maxRecDepth 100000 in
set_option maxHeartbeats 1000000 in
theorem rwait_any (n : Int) (w : World) (h1 : -9223372036854775808 ≤ n) (h2 : n ≤ 9223372036854775807) : Calls Tryd.prog 23 #[.int .i64 n] w fun e w' => e = .returned (.int .u64 (Pln.wait n)) ∧ w = w' := by
  by_cases h6 : 6 < n
  · rw [Pln.wait_full n (by omega)]
    go_enter Tryd.func23, Tryd.ntmps23
    go_wp2_with fail
    go_ret
    exact ⟨rfl, rfl⟩
  · have HE := Lib.hid (fun k a b c => Pln.rwait_end n k a b c)
    generalize Pln.wait n = r at *
    go_enter Tryd.func23, Tryd.ntmps23
    go_wp2_with fail
    go_loop [3, 4] (fun u v => ∃ k : Nat, u = .int .u64 (Pln.pw k) ∧ v = .int .i64 k ∧ k ≤ 6 ∧ ((k : Int) ≤ n ∨ k = 0)) (fun _ v => 7 - (intOf v).toNat)
    case atStart => exact ⟨0, rfl, rfl, by omega, .inr rfl⟩
    case round =>
      obtain ⟨k, rfl, rfl, hk, hkM⟩ := hrel
      by_cases hlt : (k : Int) < n
      · obtain ⟨p1, p2, p3, p4⟩ := Pln.pw_all k (by omega)
        generalize hq : Pln.pw (k + 1) = q at *
        generalize Pln.pw k = p at *
        have w1 : IntKind.u64.wrap (p * 2) = q := by rw [p1]; simp [IntKind.wrap, IntKind.signed, IntKind.bits]; omega
        clear p1 p4
        go_wp2_with fail
        go_round
        case rel => exact ⟨k + 1, by rw [hq], by go_num, by omega, by omega⟩
        case measure => simp [intOf]; omega
      · have HV := Lib.hid (HE.out k hk hkM (by omega))
        go_wp2_with fail
        go_ret
        exact ⟨by rw [HV.out]; rfl, rfl⟩

/-- An entry's cells. -/
structure En where
  id : Int
  dom : List UInt8
  ep : Int
  ct : Int
  fl : List UInt8
  fd : List UInt8
  A : Option Addr
  n : Nat
  c : Nat
  born : Int
  next : Int
  tries : Int
abbrev enA (x : En) : Array Value := #[.int .u64 x.id, .string ⟨x.dom.toArray⟩, .int .u64 x.ep, .int .u64 x.ct, .string ⟨x.fl.toArray⟩, .string ⟨x.fd.toArray⟩, .slice x.A x.n x.c, .int .u64 x.born, .int .u64 x.next, .int .i64 x.tries]
set_option maxRecDepth 100000 in
set_option maxHeartbeats 1000000 in
theorem out_any (x : En) (now : Int) (w : World) (h0 : 0 ≤ now) (h1 : now < 18446744073709551616) : Calls Tryd.prog 20 #[.agg (enA x), .int .u64 now] w fun e w' => e = .returned (.bool (Pln.outB x.born now)) ∧ Below w.heap.size w w' := by
  have HB : Hid (Below w.heap.size w (w.alloc (.cells (enA x) 41))) := (Below.refl _ _).alloc (Nat.le_refl _) _
  unfold Pln.outB
  unfold enA at *
  by_cases a1 : 2000 ≤ now
  · have w1 : IntKind.u64.wrap (now - 2000) = now - 2000 := by simp [IntKind.wrap, IntKind.signed, IntKind.bits]; omega
    have e1 : decide (2000 ≤ now ∧ x.born ≤ now - 2000) = decide (x.born ≤ now - 2000) := by simp [a1]
    rw [e1]
    clear e1
    go_enter Tryd.func20, Tryd.ntmps20
    go_wp2_with fail
    go_ret
    exact ⟨rfl, HB.out⟩
  · have e1 : decide (2000 ≤ now ∧ x.born ≤ now - 2000) = false := by simp [a1]
    rw [e1]
    clear e1
    go_enter Tryd.func20, Tryd.ntmps20
    go_wp2_with fail
    go_ret
    exact ⟨rfl, HB.out⟩
set_option maxRecDepth 100000 in
set_option maxHeartbeats 1000000 in
theorem rout_any (x : En) (now : Int) (w : World) (h0 : 0 ≤ now) (h1 : now < 18446744073709551616) : Calls Tryd.prog 21 #[.agg (enA x), .int .u64 now] w fun e w' => e = .returned (.bool (Pln.outB x.born now)) ∧ Below w.heap.size w w' := by
  have HB : Hid (Below w.heap.size w (w.alloc (.cells (enA x) 41))) := (Below.refl _ _).alloc (Nat.le_refl _) _
  unfold Pln.outB
  unfold enA at *
  by_cases a1 : 2000 ≤ now
  · have w1 : IntKind.u64.wrap (now - 2000) = now - 2000 := by simp [IntKind.wrap, IntKind.signed, IntKind.bits]; omega
    have e1 : decide (2000 ≤ now ∧ x.born ≤ now - 2000) = decide (x.born ≤ now - 2000) := by simp [a1]
    rw [e1]
    clear e1
    go_enter Tryd.func21, Tryd.ntmps21
    go_wp2_with fail
    go_ret
    exact ⟨rfl, HB.out⟩
  · have e1 : decide (2000 ≤ now ∧ x.born ≤ now - 2000) = false := by simp [a1]
    rw [e1]
    clear e1
    go_enter Tryd.func21, Tryd.ntmps21
    go_wp2_with fail
    go_ret
    exact ⟨rfl, HB.out⟩
end Go.Proofs.YtocjjfjcepflnaaDoor
