/-
  PROVED HERE: what Join of the program and of the answer compute.
-/
import Derived.Test.YtakhgoifgpdgiaaDoorRowT
set_option linter.unusedVariables false
namespace Go.Proofs.YtakhgoifgpdgiaaDoor
open Go.RowKit

theorem joi_succ (l : List (List UInt8)) (k : Nat) (hk : k < l.length) : Lin.joi (l.take (k + 1)) = Lin.joi (l.take k) ++ (at' l k ++ [13, 10]) := by
  rw [List.take_add_one, List.getElem?_eq_getElem hk, Lin.joi_append]
  unfold at'
  rw [List.getD_eq_getElem?_getD, List.getElem?_eq_getElem hk]
  simp [Lin.joi, Lin.E]
theorem joi_take_le (l : List (List UInt8)) (k : Nat) : (Lin.joi (l.take k)).length ≤ (Lin.joi l).length := by
  have := congrArg List.length (Lin.joi_append (l.take k) (l.drop k))
  rw [List.take_append_drop, List.length_append] at this
  omega
theorem mk_append (a b : List UInt8) : (⟨a.toArray⟩ : ByteArray) ++ (⟨b.toArray⟩ : ByteArray) = ⟨(a ++ b).toArray⟩ := by
  apply ByteArray.ext
  simp

set_option maxRecDepth 100000 in
set_option maxHeartbeats 1000000 in
theorem rjoin_any (A : Option Addr) (cap n : Nat) (l : List (List UInt8)) (w : World) (hn : l.length = n) (h : Txs w A l) (hs : n < 4611686018427387904) (hlen : (Lin.joi l).length < 4611686018427387904) :
    Calls Tryd.prog 19 #[.slice A n cap] w fun e w' => e = .returned (.string ⟨(Lin.joi l).toArray⟩) ∧ w' = w := by
  have H := Lib.hid h
  have HLN := Lib.hid hn
  clear h hn
  go_enter Tryd.func19, Tryd.ntmps19
  go_wp2
  go_loop [3, 4] (fun o u => ∃ k : Nat, u = .int .i64 k ∧ k ≤ n ∧ o = .string ⟨(Lin.joi (l.take k)).toArray⟩) (fun _ u => n - (intOf u).toNat)
  case atStart => exact ⟨0, rfl, by omega, rfl⟩
  case round =>
    obtain ⟨k, rfl, hk, rfl⟩ := hrel
    by_cases hlt : k < n
    · have hltz : (k : Int) < (n : Int) := by omega
      obtain ⟨b1, o1, rfl, f1⟩ := H.out k (by rw [HLN.out]; exact hlt)
      have HJ := Lib.hid (joi_succ l k (by rw [HLN.out]; exact hlt))
      have hb : (Lin.joi (l.take k)).length + ((at' l k).length + 2) < 4611686018427387904 := by
        have h1 := congrArg List.length HJ.out
        have h2 := joi_take_le l (k + 1)
        simp only [List.length_append, List.length_cons, List.length_nil] at h1
        omega
      generalize at' l k = X at *
      generalize Lin.joi (l.take k) = Y at *
      have g1 : ¬ 9223372036854775807 < X.length + 2 := by omega
      have g2 : ¬ 9223372036854775807 < Y.length + (X.length + 2) := by omega
      have e1 := mk_append X [13, 10]
      have e2 := mk_append Y (X ++ [13, 10])
      go_wp2
      go_round
      case rel => exact ⟨k + 1, by go_num, by omega, by rw [HJ.out]⟩
      case measure => simp [intOf]; omega
    · have hltz : ¬ (k : Int) < (n : Int) := by omega
      obtain rfl : k = n := by omega
      have HT : Hid (l.take k = l) := by show _ = _; rw [← HLN.out]; exact List.take_length
      rw [HT.out]
      go_wp2
      go_ret
      exact ⟨rfl, rfl⟩
end Go.Proofs.YtakhgoifgpdgiaaDoor
