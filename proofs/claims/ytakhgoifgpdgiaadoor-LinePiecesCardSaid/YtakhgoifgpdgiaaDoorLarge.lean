/-
  PROVED HERE: what large of the statements computes.
-/
import Derived.Test.YtakhgoifgpdgiaaDoorStuff
set_option linter.unusedVariables false
namespace Lin
/-- How many bytes texts have together. -/
def tot : List (List UInt8) → Nat
  | [] => 0
  | x :: l => x.length + tot l
theorem tot_append (a b : List (List UInt8)) : tot (a ++ b) = tot a + tot b := by
  induction a with
  | nil => simp [tot]
  | cons x a ih => simp only [List.cons_append, tot, ih]; omega
end Lin
namespace Go.Proofs.YtakhgoifgpdgiaaDoor
open Go.RowKit

theorem tot_succ (l : List (List UInt8)) (k : Nat) (hk : k < l.length) : Lin.tot (l.take (k + 1)) = Lin.tot (l.take k) + (at' l k).length := by
  rw [List.take_add_one, List.getElem?_eq_getElem hk, Lin.tot_append]
  unfold at'
  rw [List.getD_eq_getElem?_getD, List.getElem?_eq_getElem hk]
  simp [Lin.tot]
theorem tot_take_le (l : List (List UInt8)) (k : Nat) : Lin.tot (l.take k) ≤ Lin.tot l := by
  have := Lin.tot_append (l.take k) (l.drop k)
  rw [List.take_append_drop] at this
  omega

set_option maxRecDepth 100000 in
set_option maxHeartbeats 1000000 in
theorem large_many (A : Option Addr) (cap n : Nat) (l : List (List UInt8)) (w : World) (hn : l.length = n) (h : Txs w A l) (hs : n < 4611686018427387904) (hbig : 100 < n) :
    Calls Tryd.prog 10 #[.slice A n cap] w fun e w' => e = .returned (.bool true) ∧ w' = w := by
  have H := Lib.hid h
  have HLN := Lib.hid hn
  clear h hn
  have hbz : (100 : Int) < (n : Int) := by omega
  go_enter Tryd.func10, Tryd.ntmps10
  go_wp2
  go_loop [3, 7] (fun v u => ∃ (k : Nat) (z : Int), u = .int .i64 k ∧ k ≤ n ∧ v = .int .i64 z) (fun _ u => n - (intOf u).toNat)
  case atStart => exact ⟨0, 0, rfl, by omega, rfl⟩
  case round =>
    obtain ⟨k, z, rfl, hk, rfl⟩ := hrel
    by_cases hlt : k < n
    · have hltz : (k : Int) < (n : Int) := by omega
      obtain ⟨b1, o1, rfl, f1⟩ := H.out k (by rw [HLN.out]; exact hlt)
      generalize at' l k = X at *
      go_wp2
      go_round
      case rel => exact ⟨k + 1, _, by go_num, by omega, rfl⟩
      case measure => simp [intOf]; omega
    · have hltz : ¬ (k : Int) < (n : Int) := by omega
      go_wp2
      go_ret
      exact ⟨rfl, rfl⟩

set_option maxRecDepth 100000 in
set_option maxHeartbeats 1000000 in
theorem large_few (A : Option Addr) (cap n : Nat) (l : List (List UInt8)) (w : World) (hn : l.length = n) (h : Txs w A l) (hs : n ≤ 100) (ht : Lin.tot l < 4611686018427387904) :
    Calls Tryd.prog 10 #[.slice A n cap] w fun e w' => e = .returned (.bool (decide (4096 < Lin.tot l))) ∧ w' = w := by
  have H := Lib.hid h
  have HLN := Lib.hid hn
  clear h hn
  have hbz : ¬ (100 : Int) < (n : Int) := by omega
  go_enter Tryd.func10, Tryd.ntmps10
  go_wp2
  go_loop [3, 7] (fun v u => ∃ (k : Nat), u = .int .i64 k ∧ k ≤ n ∧ v = .int .i64 (Lin.tot (l.take k) : Nat)) (fun _ u => n - (intOf u).toNat)
  case atStart => exact ⟨0, rfl, by omega, rfl⟩
  case round =>
    obtain ⟨k, rfl, hk, rfl⟩ := hrel
    by_cases hlt : k < n
    · have hltz : (k : Int) < (n : Int) := by omega
      obtain ⟨b1, o1, rfl, f1⟩ := H.out k (by rw [HLN.out]; exact hlt)
      have HT := Lib.hid (tot_succ l k (by rw [HLN.out]; exact hlt))
      have hb : Lin.tot (l.take k) + (at' l k).length < 4611686018427387904 := by
        have := HT.out
        have := tot_take_le l (k + 1)
        omega
      generalize at' l k = X at *
      generalize Lin.tot (l.take k) = T at *
      have hw : wrap64 ((T : Int) + (X.length : Int)) = ((T + X.length : Nat) : Int) := by unfold wrap64; omega
      go_wp2
      go_round
      case rel => exact ⟨k + 1, by go_num, by omega, by rw [HT.out]; go_num⟩
      case measure => simp [intOf]; omega
    · have hltz : ¬ (k : Int) < (n : Int) := by omega
      obtain rfl : k = n := by omega
      have HT : Hid (l.take k = l) := by show _ = _; rw [← HLN.out]; exact List.take_length
      rw [HT.out]
      by_cases hc : 4096 < Lin.tot l
      · have hcz : (4096 : Int) < (Lin.tot l : Int) := by omega
        go_wp2
        go_ret
        exact ⟨rfl, rfl⟩
      · have hcz : ¬ (4096 : Int) < (Lin.tot l : Int) := by omega
        go_wp2
        go_ret
        refine ⟨?_, rfl⟩
        show Ending.returned (Value.bool (decide ((100 : Int) < (k : Int)))) = _
        rw [decide_eq_false (by omega)]
end Go.Proofs.YtakhgoifgpdgiaaDoor
