/-
  PROVED HERE: rows of texts in memory; what Same of the answer computes.
-/
import Derived.Test.YtakhgoifgpdgiaaDoorLf2
import Derived.Deep.QuietTactic
import Derived.BigQuiet
import Derived.WalkKit
import Derived.Lib.Hide
set_option linter.unusedVariables false
namespace Go.Proofs.YtakhgoifgpdgiaaDoor
open Go.RowKit

/-- How a text is laid. -/
def sV (t : List UInt8) : Value := .string ⟨t.toArray⟩
theorem sV_of (s : ByteArray) : sV s.data.toList = .string s := by unfold sV; rw [Lib.mk_data]
/-- The k-th text. -/
def at' (l : List (List UInt8)) (k : Nat) : List UInt8 := l.getD k []
/-- A row of texts in memory. -/
def Txs (w : World) (A : Option Addr) (l : List (List UInt8)) : Prop := ∀ k, k < l.length → ∃ b off, A = some ⟨b, off, none⟩ ∧ w.cell? ⟨b, off + k, none⟩ = some (.string ⟨(at' l k).toArray⟩)

theorem txs_nil (w : World) (A : Option Addr) : Txs w A [] := fun k hk => absurd hk (Nat.not_lt_zero k)
theorem str_beq (x y : List UInt8) : ((⟨x.toArray⟩ : ByteArray).toList == (⟨y.toArray⟩ : ByteArray).toList) = decide (x = y) := by
  rw [ByteArray.toList_eq, ByteArray.toList_eq, Bool.eq_iff_iff, beq_iff_eq, decide_eq_true_iff]
theorem str_bne (x y : List UInt8) : ((⟨x.toArray⟩ : ByteArray).toList != (⟨y.toArray⟩ : ByteArray).toList) = decide (x ≠ y) := by
  unfold bne
  rw [str_beq]
  by_cases h : x = y <;> simp [h]

theorem ext_at {a b : List (List UInt8)} (h : a.length = b.length) (g : ∀ k, k < a.length → at' a k = at' b k) : a = b := by
  refine List.ext_getElem h fun k h1 h2 => ?_
  have := g k h1
  unfold at' at this
  rw [List.getD_eq_getElem?_getD, List.getD_eq_getElem?_getD, List.getElem?_eq_getElem h1, List.getElem?_eq_getElem h2] at this
  exact this

theorem lst_beq (x y : List UInt8) : (x == y) = decide (x = y) := by rw [Bool.eq_iff_iff, beq_iff_eq, decide_eq_true_iff]

set_option maxRecDepth 100000 in
set_option maxHeartbeats 1000000 in
theorem same_eq (A B : Option Addr) (c1 c2 n : Nat) (a b : List (List UInt8)) (w : World) (hla : a.length = n) (hlb : b.length = n) (ha : Txs w A a) (hb : Txs w B b) (hs : n < 4611686018427387904) :
    Calls Tryd.prog 17 #[.slice A n c1, .slice B n c2] w fun e w' => e = .returned (.bool (decide (a = b))) ∧ ∃ m, w' = w.drewN m := by
  have HA := Lib.hid ha
  have HB := Lib.hid hb
  have HE := Lib.hid (fun g => @ext_at a b (hla.trans hlb.symm) g)
  have HN : Hid (∀ k, k < n → at' a k ≠ at' b k → decide (a = b) = false) := fun k _ h => decide_eq_false fun e => h (by rw [e])
  have HLA := Lib.hid hla
  have HLB := Lib.hid hlb
  clear ha hb hla hlb
  generalize hr : decide (a = b) = r at *
  have HR := Lib.hid hr
  clear hr
  go_enter Tryd.func17, Tryd.ntmps17
  go_wp2
  go_loopw [5] (fun u wr => ∃ k m : Nat, u = .int .i64 k ∧ k ≤ n ∧ wr = w.drewN m ∧ Hid (∀ j, j < k → at' a j = at' b j)) (fun u _ => n - (intOf u).toNat)
  case atStart => exact ⟨0, 0, rfl, by omega, rfl, fun j hj => absurd hj (Nat.not_lt_zero j)⟩
  case round =>
    obtain ⟨k, m, rfl, hk, rfl, HK⟩ := hrel
    by_cases hlt : k < n
    · have hltz : (k : Int) < (n : Int) := by omega
      obtain ⟨b1, o1, rfl, f1⟩ := HA.out k (by rw [HLA.out]; exact hlt)
      obtain ⟨b2, o2, rfl, f2⟩ := HB.out k (by rw [HLB.out]; exact hlt)
      have e1 := lst_beq (at' a k) (at' b k)
      by_cases hc : at' a k = at' b k
      · rw [decide_eq_true hc] at e1
        have HK2 : Hid (∀ j, j < k + 1 → at' a j = at' b j) := fun j hj => by
          rcases Nat.lt_or_ge j k with g | g
          · exact HK.out j g
          · rw [show j = k from by omega]; exact hc
        clear hc
        generalize at' a k = X at *
        generalize at' b k = Y at *
        go_wp2_with fail
        go_quiet (fail)
        go_wp2
        go_roundw
        case rel => exact ⟨k + 1, _, by go_num, by omega, by first | rfl | rw [World.drewN_drewN], HK2⟩
        case measure => simp [intOf]; omega
      · rw [decide_eq_false hc] at e1
        have HR2 := Lib.hid (HN.out k hlt hc)
        clear hc HN HE HR HK
        generalize at' a k = X at *
        generalize at' b k = Y at *
        go_wp2_with fail
        go_quiet (fail)
        go_wp2
        go_ret
        exact ⟨by rw [HR2.out]; rfl, _, by first | rfl | rw [World.drewN_drewN]⟩
    · have hltz : ¬ (k : Int) < (n : Int) := by omega
      obtain rfl : k = n := by omega
      have HT : Hid (r = true) := by
        show r = true
        rw [← HR.out]
        exact decide_eq_true (HE.out (by rw [HLA.out]; exact HK.out))
      go_wp2
      go_ret
      exact ⟨by rw [HT.out]; rfl, m, rfl⟩
set_option maxRecDepth 100000 in
theorem same_ne (A B : Option Addr) (c1 c2 n m : Nat) (w : World) (h : n ≠ m) : Calls Tryd.prog 17 #[.slice A n c1, .slice B m c2] w fun e w' => e = .returned (.bool false) ∧ ∃ m, w' = w.drewN m := by
  have hl : ¬ (n : Int) = (m : Int) := by omega
  have hle : ((n : Int) == (m : Int)) = false := beq_eq_false_iff_ne.2 hl
  have hln : ((n : Int) != (m : Int)) = true := by unfold bne; rw [hle]; rfl
  go_enter Tryd.func17, Tryd.ntmps17
  go_wp2
  go_ret
  exact ⟨rfl, 0, rfl⟩
theorem same_any (A B : Option Addr) (c1 c2 : Nat) (a b : List (List UInt8)) (w : World) (ha : Txs w A a) (hb : Txs w B b) (hs : a.length < 4611686018427387904) :
    Calls Tryd.prog 17 #[.slice A a.length c1, .slice B b.length c2] w fun e w' => e = .returned (.bool (decide (a = b))) ∧ ∃ m, w' = w.drewN m := by
  by_cases h : a.length = b.length
  · rw [← h]
    exact same_eq A B c1 c2 a.length a b w rfl h.symm ha hb hs
  · rw [decide_eq_false (fun e => h (by rw [e]))]
    exact same_ne A B c1 c2 _ _ w h
end Go.Proofs.YtakhgoifgpdgiaaDoor
