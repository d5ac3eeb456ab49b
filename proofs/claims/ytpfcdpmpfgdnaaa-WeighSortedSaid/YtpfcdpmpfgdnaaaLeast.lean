/-
  PROVED HERE: what Order of the program computes on no words, and what Least of the program computes.
-/
import Derived.Test.YtpfcdpmpfgdnaaaOrder
namespace Go.Proofs.Ytpfcdpmpfgdnaaa
open Go.RowKit Go.Sort

set_option maxHeartbeats 400000 in
theorem insertion_nil (A : Option Addr) (cap : Nat) (fv : Value) (w : World) : Calls Try.prog 42 #[.slice A 0 cap, .int .i64 0, .int .i64 0, fv] w fun e w' => e = .returned (.tuple #[]) ∧ w = w' := by
  go_enter Try.func42, Try.ntmps42
  go_wp2
  go_loop [8] (fun v => v = .int .i64 1) (fun _ => 0)
  case atStart => rfl
  case round =>
    subst hrel
    go_wp2
    go_end0
    exact ⟨rfl, rfl⟩

set_option maxHeartbeats 400000 in
theorem stable_nil (A : Option Addr) (cap : Nat) (fv : Value) (w : World) : Calls Try.prog 40 #[.slice A 0 cap, .int .i64 0, fv] w fun e w' => e = .returned (.tuple #[]) ∧ w = w' := by
  go_enter Try.func40, Try.ntmps40
  go_wp2
  go_loop [7, 8] (fun v u => v = .int .i64 0 ∧ u = .int .i64 20) (fun _ _ => 0)
  case atStart => exact ⟨rfl, rfl⟩
  case round =>
    obtain ⟨rfl, rfl⟩ := hrel
    go_wp2_with (go_at_call 42; refine (insertion_nil _ _ _ _).mono ?_; rintro e w' ⟨rfl, rfl⟩)
    go_loop [6] (fun v => v = .int .i64 20) (fun _ => 0)
    case atStart => rfl
    case round =>
      subst hrel
      go_wp2
      first | go_end0 | refine bodyPost_ret (results_none rfl _ _ _) rfl ?_
      exact ⟨rfl, rfl⟩

set_option maxHeartbeats 400000 in
theorem sortStable_nil (A : Option Addr) (cap : Nat) (fv : Value) (w : World) : Calls Try.prog 35 #[.slice A 0 cap, fv] w fun e w' => e = .returned (.tuple #[]) ∧ w = w' := by
  go_enter Try.func35, Try.ntmps35
  go_wp2_with (go_at_call 40; refine (stable_nil _ _ _ _).mono ?_; rintro e w' ⟨rfl, rfl⟩)
  go_end0
  exact ⟨rfl, rfl⟩

set_option maxHeartbeats 400000 in
theorem order_none (A : Option Addr) (cap : Nat) (w : World) : Calls Try.prog 25 #[.slice A 0 cap] w fun e w' => e = .returned (.slice none 0 0) ∧ Below w.heap.size w w' := by
  have hmf : ∀ (fn : Fn) (first cap : Array Value) (w : World), (Instr.makeFunc fn first cap).run Try.prog w = .ok (.func fn first cap) w := fun _ _ _ _ => rfl
  go_enter Try.func25, Try.ntmps25
  go_wp2
  go_loop [3, 7] (fun v u => v = .slice none 0 0 ∧ u = .int .i64 0) (fun _ _ => 0)
  case atStart => exact ⟨rfl, rfl⟩
  case round =>
    obtain ⟨rfl, rfl⟩ := hrel
    go_wp2_with (go_at_call 35; refine (sortStable_nil _ _ _ _).mono ?_; rintro e w' ⟨rfl, rfl⟩)
    go_ret
    exact ⟨rfl, (Below.refl _ _).alloc (Nat.le_refl _) _⟩

/-- The place of the least one of the first k. -/
def leastN (L : Nat → Nat) : Nat → Nat
  | 0 => 0
  | k + 1 => if k = 0 then 0 else if Wgh.cmpW (L k) (L (leastN L k)) < 0 then k else leastN L k
theorem leastN_lt (L : Nat → Nat) (k : Nat) : leastN L (k + 1) < k + 1 := by
  induction k with
  | zero => unfold leastN; simp
  | succ k ih =>
    rw [leastN]
    split
    · omega
    · split
      · omega
      · omega
def leastI (L : Nat → Nat) (n : Nat) : Int := if n = 0 then -1 else (leastN L n : Int)

set_option maxHeartbeats 1000000 in
theorem least_some (L : Nat → Nat) (hL : ∀ k, L k < 18446744073709551616) (b off n cap : Nat) (w : World) (hn : 0 < n) (hn2 : n < 4294967296) (hw : Words w b off n L) :
    Calls Try.prog 27 #[.slice (some ⟨b, off, none⟩) n cap] w fun e w' => e = .returned (.int .i64 (leastI L n)) ∧ w = w' := by
  have HW := Lib.hid hw
  have HLL := Lib.hid hL
  clear hw hL
  go_enter Try.func27, Try.ntmps27
  go_wp2
  go_loop [3, 8] (fun v i => ∃ k : Nat, k ≤ n ∧ i = .int .i64 k ∧ v = .int .i64 (leastI L k)) (fun _ i => n - (intOf i).toNat)
  case atStart => exact ⟨0, by omega, rfl, rfl⟩
  case round =>
    obtain ⟨k, hk, rfl, rfl⟩ := hrel
    by_cases hlt : k < n
    · have hltz : (k : Int) < (n : Int) := by omega
      have c1 := HW.out k hlt
      by_cases h0 : k = 0
      · subst h0
        rw [Nat.add_zero] at c1
        have e : leastI L 0 = -1 := rfl
        rw [e]
        have HE : Hid (leastI L 1 = 0) := rfl
        clear e
        go_wp2
        go_round
        case rel => exact ⟨1, by omega, by go_num, by rw [HE.out]; rfl⟩
        case measure => simp [intOf]; omega
      · obtain ⟨q, hq⟩ : ∃ q, q = leastN L k := ⟨_, rfl⟩
        have hqk : q < k := by rw [hq]; obtain ⟨j, rfl⟩ : ∃ j, k = j + 1 := ⟨k - 1, by omega⟩; exact leastN_lt L j
        have c2 := HW.out q (by omega)
        have e : leastI L k = (q : Int) := by unfold leastI; rw [if_neg h0, hq]
        have HN : Hid (leastI L (k + 1) = if Wgh.cmpW (L k) (L q) < 0 then (k : Int) else (q : Int)) := by
          show _ = _
          unfold leastI
          rw [if_neg (by omega), leastN, if_neg h0, ← hq]
          split <;> rfl
        rw [e]
        have l1 := HLL.out k
        have l2 := HLL.out q
        have hqn : (q : Int) < (n : Int) := by omega
        clear e hq
        generalize L k = X at *
        generalize L q = Y at *
        have hc3 := compare_any X Y w (by omega) (by omega) (by omega) (by omega)
        rw [Int.toNat_natCast, Int.toNat_natCast] at hc3
        have HC := Lib.hid hc3
        clear hc3 l1 l2
        by_cases hc : Wgh.cmpW X Y < 0
        · have HN2 : Hid (leastI L (k + 1) = (k : Int)) := by show _ = _; rw [HN.out, if_pos hc]
          clear HN
          go_wp2_with (go_at_call 13; refine Calls.mono HC.out ?_; rintro e w' ⟨rfl, rfl⟩)
          go_round
          case rel => exact ⟨k + 1, by omega, by go_num, by rw [HN2.out]⟩
          case measure => simp [intOf]; omega
        · have HN2 : Hid (leastI L (k + 1) = (q : Int)) := by show _ = _; rw [HN.out, if_neg hc]
          clear HN
          go_wp2_with (go_at_call 13; refine Calls.mono HC.out ?_; rintro e w' ⟨rfl, rfl⟩)
          go_round
          case rel => exact ⟨k + 1, by omega, by go_num, by rw [HN2.out]⟩
          case measure => simp [intOf]; omega
    · have hltz : ¬ (k : Int) < (n : Int) := by omega
      obtain rfl : k = n := by omega
      go_wp2
      go_ret
      exact ⟨rfl, rfl⟩

set_option maxHeartbeats 400000 in
theorem least_none (A : Option Addr) (cap : Nat) (w : World) : Calls Try.prog 27 #[.slice A 0 cap] w fun e w' => e = .returned (.int .i64 (-1)) ∧ w = w' := by
  go_enter Try.func27, Try.ntmps27
  go_wp2
  go_loop [3, 8] (fun v u => v = .int .i64 (-1) ∧ u = .int .i64 0) (fun _ _ => 0)
  case atStart => exact ⟨rfl, rfl⟩
  case round =>
    obtain ⟨rfl, rfl⟩ := hrel
    go_wp2
    go_ret
    exact ⟨rfl, rfl⟩

end Go.Proofs.Ytpfcdpmpfgdnaaa
