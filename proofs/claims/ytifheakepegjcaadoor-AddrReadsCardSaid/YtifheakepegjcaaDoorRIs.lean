/-
  PROVED HERE: what is and domainAt of the answer compute.
-/
import Derived.Test.YtifheakepegjcaaDoorRPath
import Derived.Test.YtifheakepegjcaaDoorEq
set_option linter.unusedVariables false
namespace Adr
theorem at_drop (L : List UInt8) (i : Nat) (h : i < L.length) (c : UInt8) : atB c (L.drop i) = (L[i] == c) := by
  rw [List.drop_eq_getElem_cons h]
  rfl
theorem at_far (L : List UInt8) (i : Nat) (h : L.length ≤ i) (c : UInt8) : atB c (L.drop i) = false := by
  rw [List.drop_eq_nil_of_le h]
  rfl
theorem inD_parts (c : UInt8) : inD c = (letB c || ((c == 45) || (c == 46))) := by
  unfold inD labB
  rw [Bool.or_assoc]
end Adr
namespace Go.Proofs.YtifheakepegjcaaDoor
open Go.RowKit

set_option maxRecDepth 100000 in
set_option maxHeartbeats 2000000 in
theorem is_any (S : ByteArray) (i : Nat) (c : UInt8) (v : Int) (hv : v = (c.toNat : Int)) (w : World) (hs : S.size < 4611686018427387904) : Calls Tryd.prog 31 #[.string S, .int .i64 i, .int .u8 v] w fun e w' => e = .returned (.bool (Adr.atB c (S.data.toList.drop i))) ∧ w = w' := by
  have hz := Lib.size_eq S
  by_cases hlt : i < S.size
  · have hltz : (i : Int) < (S.size : Int) := by omega
    have hkl : i < S.data.toList.length := by omega
    have HR := Lib.hid (Adr.at_drop S.data.toList i hkl c)
    have e1 := Adr.u8_beq (S[i]'hlt) c
    rw [← hv, at_data S i hlt hkl, ← HR.out, ← at_data S i hlt hkl] at e1
    generalize Adr.atB c (S.data.toList.drop i) = r at *
    clear hz hv HR
    cases r with
    | true =>
      go_enter Tryd.func31, Tryd.ntmps31
      go_wp2_with fail
      go_ret
      exact ⟨rfl, rfl⟩
    | false =>
      go_enter Tryd.func31, Tryd.ntmps31
      go_wp2_with fail
      go_ret
      exact ⟨rfl, rfl⟩
  · have hltz : ¬ (i : Int) < (S.size : Int) := by omega
    have HR := Adr.at_far S.data.toList i (by omega) c
    rw [HR]
    clear hz hv HR
    go_enter Tryd.func31, Tryd.ntmps31
    go_wp2_with fail
    go_ret
    exact ⟨rfl, rfl⟩

set_option maxRecDepth 100000 in
set_option maxHeartbeats 4000000 in
theorem domAt_any (S : ByteArray) (i : Nat) (w : World) (hi : i ≤ S.size) (hs : S.size < 4294967281) : Calls Tryd.prog 34 #[.string S, .int .i64 i] w fun e w' => e = .returned (.int .i64 (((S.data.toList.drop i).takeWhile Adr.inD).length : Nat)) ∧ w = w' := by
  have HZ := Lib.hid (Lib.size_eq S)
  have HL : Hid ((S.data.toList.drop i).length = S.size - i) := by show _ = _; rw [List.length_drop, ← HZ.out]
  have HG : Hid (∀ (k : Nat) (h : i + k < S.size) (h2 : k < (S.data.toList.drop i).length), (S.data.toList.drop i)[k] = S[i + k]) := by
    intro k h h2
    rw [List.getElem_drop, at_data S (i + k) h (by rw [← HZ.out]; exact h)]
  generalize S.data.toList.drop i = T at *
  have HW := Lib.hid (Adr.while_stop Adr.inD T)
  go_enter Tryd.func34, Tryd.ntmps34
  go_wp2
  go_loop [5] (fun u => ∃ k : Nat, u = .int .i64 k ∧ i + k ≤ S.size ∧ Hid ((T.take k).all Adr.inD = true)) (fun u => S.size - (intOf u).toNat)
  case atStart => exact ⟨0, rfl, by omega, rfl⟩
  case round =>
    obtain ⟨k, rfl, hk, HK⟩ := hrel
    have HST : Hid ((∀ h : k < T.length, Adr.inD T[k] = false) → (T.takeWhile Adr.inD).length = k) := fun g => by
      have := HW.out k (by rw [HL.out]; omega) HK.out g
      rw [this.1, List.length_take, HL.out]
      omega
    have hwr : IntKind.i64.wrap ((i : Int) + (k : Int)) = ((i + k : Nat) : Int) := by rw [IntKind.wrap_i64]; omega
    by_cases hlt : i + k < S.size
    · have hltz : ((i + k : Nat) : Int) < (S.size : Int) := by omega
      have hkl : k < T.length := by rw [HL.out]; omega
      have hat := HG.out k hlt hkl
      have hp := Adr.inD_parts (S[i + k]'hlt)
      have HMORE : Hid (Adr.inD (S[i + k]'hlt) = true → (T.take (k + 1)).all Adr.inD = true) := fun h => Adr.while_more Adr.inD T k hkl HK.out (by rw [hat]; exact h)
      have HEND : Hid (Adr.inD (S[i + k]'hlt) = false → (T.takeWhile Adr.inD).length = k) := fun h => HST.out (fun _ => by rw [hat]; exact h)
      have HLT := Lib.hid (fun W : World => rletter_b (S[i + k]'hlt) W)
      have e1 := Adr.u8_beq (S[i + k]'hlt) 45
      have e2 := Adr.u8_beq (S[i + k]'hlt) 46
      rw [show ((45 : UInt8).toNat : Int) = 45 from rfl] at e1
      rw [show ((46 : UInt8).toNat : Int) = 46 from rfl] at e2
      generalize ((S[i + k]'hlt) == 45) = b1 at *
      generalize ((S[i + k]'hlt) == 46) = b2 at *
      generalize Adr.letB (S[i + k]'hlt) = b0 at *
      clear hat hkl HST HK
      cases b0 with
      | true =>
        have HM := Lib.hid (HMORE.out (by rw [hp]; rfl))
        clear HMORE HEND hp e1 e2
        go_wp2_with (go_at_call 39; refine (HLT.out _).mono ?_; rintro e w' ⟨rfl, rfl⟩)
        go_round
        case rel => exact ⟨k + 1, by go_num, by omega, HM⟩
        case measure => simp [intOf]; omega
      | false =>
        cases b1 with
        | true =>
          have HM := Lib.hid (HMORE.out (by rw [hp]; rfl))
          clear HMORE HEND hp e2
          go_wp2_with (go_at_call 39; refine (HLT.out _).mono ?_; rintro e w' ⟨rfl, rfl⟩)
          go_round
          case rel => exact ⟨k + 1, by go_num, by omega, HM⟩
          case measure => simp [intOf]; omega
        | false =>
          cases b2 with
          | true =>
            have HM := Lib.hid (HMORE.out (by rw [hp]; rfl))
            clear HMORE HEND hp
            go_wp2_with (go_at_call 39; refine (HLT.out _).mono ?_; rintro e w' ⟨rfl, rfl⟩)
            go_round
            case rel => exact ⟨k + 1, by go_num, by omega, HM⟩
            case measure => simp [intOf]; omega
          | false =>
            have HE := Lib.hid (HEND.out (by rw [hp]; rfl))
            clear HMORE HEND hp
            go_wp2_with (go_at_call 39; refine (HLT.out _).mono ?_; rintro e w' ⟨rfl, rfl⟩)
            go_ret
            exact ⟨by rw [HE.out]; rfl, rfl⟩
    · have hltz : ¬ ((i + k : Nat) : Int) < (S.size : Int) := by omega
      have HE := Lib.hid (HST.out (fun h => by rw [HL.out] at h; omega))
      clear HST HK
      go_wp2_with fail
      go_ret
      exact ⟨by rw [HE.out]; rfl, rfl⟩
end Go.Proofs.YtifheakepegjcaaDoor
