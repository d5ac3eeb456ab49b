/-
  PROVED HERE: what run of the program's reader of paths computes, at its two closures.
-/
import Derived.Test.YtkchebbolldmbaaGreatDoorRdr
set_option linter.unusedVariables false
namespace Go.Proofs.YtkchebbolldmbaaGreatDoor
open Go.RowKit
variable {m : Int} {w wr : World} {b : Nat} {T : List UInt8}
theorem take_k (T : List UInt8) (k : Nat) : (⟨T.toArray⟩ : ByteArray).extract 0 k = ⟨(T.take k).toArray⟩ := by
  have := Lib.extract_data (⟨T.toArray⟩ : ByteArray) 0 k
  rw [show (⟨T.toArray⟩ : ByteArray).data.toList = T from rfl, List.drop_zero, Nat.sub_zero] at this
  rw [← Lib.mk_data (ByteArray.extract _ _ _), this]
theorem drop_k (T : List UInt8) (k : Nat) : (⟨T.toArray⟩ : ByteArray).extract k T.length = ⟨(T.drop k).toArray⟩ := by
  have := Lib.extract_to_end (⟨T.toArray⟩ : ByteArray) k
  rw [size_mk, show (⟨T.toArray⟩ : ByteArray).data.toList = T from rfl] at this
  rw [← Lib.mk_data (ByteArray.extract _ _ _), this]

set_option maxRecDepth 100000 in
set_option maxHeartbeats 4000000 in
theorem run_61 (h0 : 3 < w.heap.size) (h : Rr m w b wr T) (hs : T.length < 4611686018427387904) : Calls Tryz.prog 117 #[.pointer (some ⟨b, 0, none⟩), .func (.func 118) #[] #[]] wr fun e w' => e = .returned (sV (T.takeWhile Adr.inL)) ∧ Rr m w b w' (T.dropWhile Adr.inL) := by
  obtain ⟨c0, f0⟩ := rr_cell h
  have HR := Lib.hid h
  have HW := Lib.hid (Adr.while_stop Adr.inL T)
  unfold sV
  clear h
  go_enter Tryz.func117, Tryz.ntmps117
  go_wp2
  go_loop [5] (fun u => ∃ k : Nat, u = .int .i64 k ∧ k ≤ T.length ∧ Hid ((T.take k).all Adr.inL = true)) (fun u => T.length - (intOf u).toNat)
  case atStart => exact ⟨0, rfl, by omega, rfl⟩
  case round =>
    obtain ⟨k, rfl, hk, HK⟩ := hrel
    have stop : (∀ h : k < T.length, Adr.inL T[k] = false) → T.takeWhile Adr.inL = T.take k ∧ T.dropWhile Adr.inL = T.drop k := fun g => HW.out k hk HK.out g
    have HST := Lib.hid stop
    have hkz : (k : Int) ≤ (T.length : Int) := by omega
    have hk0 : (0 : Int) ≤ (k : Int) := by omega
    have e1 := take_k T k
    have e2 := drop_k T k
    have HSET := Lib.hid (rr_set h0 HR.out (T.drop k))
    clear stop
    by_cases hlt : k < T.length
    · have hltz : (k : Int) < (T.length : Int) := by omega
      have hsz : k < (⟨T.toArray⟩ : ByteArray).size := by rw [size_mk]; exact hlt
      have HC := Lib.hid (fun W : World => clo_61 (T[k]'hlt) W)
      have hat : (⟨T.toArray⟩ : ByteArray)[k]'hsz = T[k]'hlt := rfl
      cases hp : Adr.inL (T[k]'hlt) with
      | true =>
        rw [hp, ← hat] at HC
        have HM := Lib.hid (Adr.while_more Adr.inL T k hlt HK.out hp)
        clear hp hat e1 e2
        go_wp2_with (go_at_call 118; refine (HC.out _).mono ?_; rintro e w' ⟨rfl, rfl⟩)
        go_round
        case rel => exact ⟨k + 1, by go_num, by omega, HM⟩
        case measure => simp [intOf]; omega
      | false =>
        rw [hp, ← hat] at HC
        have HE := Lib.hid (HST.out (fun _ => hp))
        clear hp hat
        go_wp2_with (go_at_call 118; refine (HC.out _).mono ?_; rintro e w' ⟨rfl, rfl⟩)
        go_ret
        rw [HE.out.1, HE.out.2]
        exact ⟨rfl, HSET.out⟩
    · have hltz : ¬ (k : Int) < (T.length : Int) := by omega
      have HE := Lib.hid (HST.out (fun h => absurd h hlt))
      go_wp2_with fail
      go_ret
      rw [HE.out.1, HE.out.2]
      exact ⟨rfl, HSET.out⟩

set_option maxRecDepth 100000 in
set_option maxHeartbeats 4000000 in
theorem run_62 (h0 : 3 < w.heap.size) (h : Rr m w b wr T) (hs : T.length < 4611686018427387904) : Calls Tryz.prog 117 #[.pointer (some ⟨b, 0, none⟩), .func (.func 119) #[] #[]] wr fun e w' => e = .returned (sV (T.takeWhile Adr.inD)) ∧ Rr m w b w' (T.dropWhile Adr.inD) := by
  obtain ⟨c0, f0⟩ := rr_cell h
  have HR := Lib.hid h
  have HW := Lib.hid (Adr.while_stop Adr.inD T)
  unfold sV
  clear h
  go_enter Tryz.func117, Tryz.ntmps117
  go_wp2
  go_loop [5] (fun u => ∃ k : Nat, u = .int .i64 k ∧ k ≤ T.length ∧ Hid ((T.take k).all Adr.inD = true)) (fun u => T.length - (intOf u).toNat)
  case atStart => exact ⟨0, rfl, by omega, rfl⟩
  case round =>
    obtain ⟨k, rfl, hk, HK⟩ := hrel
    have stop : (∀ h : k < T.length, Adr.inD T[k] = false) → T.takeWhile Adr.inD = T.take k ∧ T.dropWhile Adr.inD = T.drop k := fun g => HW.out k hk HK.out g
    have HST := Lib.hid stop
    have hkz : (k : Int) ≤ (T.length : Int) := by omega
    have hk0 : (0 : Int) ≤ (k : Int) := by omega
    have e1 := take_k T k
    have e2 := drop_k T k
    have HSET := Lib.hid (rr_set h0 HR.out (T.drop k))
    clear stop
    by_cases hlt : k < T.length
    · have hltz : (k : Int) < (T.length : Int) := by omega
      have hsz : k < (⟨T.toArray⟩ : ByteArray).size := by rw [size_mk]; exact hlt
      have HC := Lib.hid (fun W : World => clo_62 (T[k]'hlt) W)
      have hat : (⟨T.toArray⟩ : ByteArray)[k]'hsz = T[k]'hlt := rfl
      cases hp : Adr.inD (T[k]'hlt) with
      | true =>
        rw [hp, ← hat] at HC
        have HM := Lib.hid (Adr.while_more Adr.inD T k hlt HK.out hp)
        clear hp hat e1 e2
        go_wp2_with (go_at_call 119; refine (HC.out _).mono ?_; rintro e w' ⟨rfl, rfl⟩)
        go_round
        case rel => exact ⟨k + 1, by go_num, by omega, HM⟩
        case measure => simp [intOf]; omega
      | false =>
        rw [hp, ← hat] at HC
        have HE := Lib.hid (HST.out (fun _ => hp))
        clear hp hat
        go_wp2_with (go_at_call 119; refine (HC.out _).mono ?_; rintro e w' ⟨rfl, rfl⟩)
        go_ret
        rw [HE.out.1, HE.out.2]
        exact ⟨rfl, HSET.out⟩
    · have hltz : ¬ (k : Int) < (T.length : Int) := by omega
      have HE := Lib.hid (HST.out (fun h => absurd h hlt))
      go_wp2_with fail
      go_ret
      rw [HE.out.1, HE.out.2]
      exact ⟨rfl, HSET.out⟩
end Go.Proofs.YtkchebbolldmbaaGreatDoor
