/-
  PROVED HERE: what Shown of the answer computes.
-/
import Derived.Test.YtkchebbolldmbaaGreatDoorBs
set_option linter.unusedVariables false
namespace Bnc
theorem shw_step (t : List UInt8) (k : Nat) (h : k < t.length) : (t.take (k + 1)).map shB = (t.take k).map shB ++ [shB t[k]] := by
  rw [List.take_add_one, List.getElem?_eq_getElem h, List.map_append]
  rfl
theorem shw_stop (t : List UInt8) (k : Nat) (h : k = 255 ∨ (k = t.length ∧ k ≤ 255)) : (t.take k).map shB = shw t := by
  unfold shw
  rcases h with rfl | ⟨rfl, h⟩
  · rfl
  · rw [List.take_length, List.take_of_length_le h]
end Bnc
namespace Go.Proofs.YtkchebbolldmbaaGreatDoor
open Go.RowKit
theorem app_data (a b : ByteArray) : (a ++ b).data.toList = a.data.toList ++ b.data.toList := by
  rw [ByteArray.data_append, Array.toList_append]
theorem one_data (s : ByteArray) (k : Nat) (h : k < s.data.toList.length) : (s.extract k (k + 1)).data.toList = [s.data.toList[k]] := by
  rw [Lib.extract_data, List.drop_eq_getElem_cons h, Nat.add_sub_cancel_left]
  rfl

set_option maxRecDepth 100000 in
set_option maxHeartbeats 2000000 in
theorem rshown_any (s : ByteArray) (w : World) (hs : s.size < 4611686018427387904) : Calls Tryz.prog 27 #[.string s] w fun e w' => e = .returned (.string ⟨(Bnc.shw s.data.toList).toArray⟩) ∧ w = w' := by
  have HZ := Lib.hid (Lib.size_eq s)
  have H0 : Hid ((⟨#[]⟩ : ByteArray).data.toList = (s.data.toList.take 0).map Bnc.shB) := rfl
  go_enter Tryz.func27, Tryz.ntmps27
  go_wp2_with fail
  go_loopw [4, 3] (fun u v wr => ∃ (k : Nat) (V : ByteArray), u = .int .i64 k ∧ v = .string V ∧ k ≤ s.size ∧ k ≤ 255 ∧ Hid (V.data.toList = (s.data.toList.take k).map Bnc.shB) ∧ w = wr) (fun u _ _ => 255 - (intOf u).toNat)
  case atStart => exact ⟨0, ⟨#[]⟩, rfl, rfl, by omega, by omega, H0, rfl⟩
  case round =>
    clear H0
    obtain ⟨k, V, rfl, rfl, hk, hk2, HK, rfl⟩ := hrel
    by_cases hlt : k < s.size
    · have hltz : (k : Int) < (s.size : Int) := by omega
      by_cases h255 : k < 255
      · have h255z : (k : Int) < 255 := by omega
        have hkl : k < s.data.toList.length := by rw [← HZ.out]; exact hlt
        have e1 : s[k] = s.data.toList[k] := at_data s k hlt hkl
        have HS := Lib.hid (Bnc.shw_step s.data.toList k hkl)
        have HO := Lib.hid (one_data s k hkl)
        rw [← e1] at HS HO
        obtain ⟨k1, hk1⟩ : ∃ k1, k1 = k + 1 := ⟨_, rfl⟩
        have u1 : IntKind.i64.wrap ((k : Int) + 1) = (k1 : Int) := by rw [IntKind.wrap_i64, hk1]; omega
        have u2 : (k : Int) ≤ (k1 : Int) := by omega
        have u3 : (k1 : Int) ≤ (s.size : Int) := by omega
        rw [← hk1] at HS HO
        have HK1 := Lib.hid hk1
        clear e1
        have HM : Hid (63 = Bnc.shB s[k] → (V ++ ⟨#[63]⟩).data.toList = (s.data.toList.take k1).map Bnc.shB) := fun q => by
          rw [app_data, HS.out, HK.out, ← q]
        have HN : Hid (s[k] = Bnc.shB s[k] → (V ++ s.extract k k1).data.toList = (s.data.toList.take k1).map Bnc.shB) := fun q => by
          rw [app_data, HS.out, HK.out, HO.out, ← q]
        have hV0 : V.size ≤ 255 := by
          have q := congrArg List.length HK.out
          rw [List.length_map, List.length_take, ← Lib.size_eq] at q
          omega
        have hV1 : ¬ 9223372036854775807 < V.size + 1 := by omega
        have hV2 : ¬ 9223372036854775807 < V.size + (min k1 s.size - k) := by omega
        clear HS HO hk1 hV0
        by_cases g1 : s[k].toNat < 32
        · have g1z : ((s[k].toNat : Int)) < 32 := by omega
          have HN2 := Lib.hid (HM.out (Bnc.sh_mark _ (Or.inl g1)).symm)
          clear HM HN
          go_wp2_with fail
          go_roundw
          case rel => exact ⟨k1, _, rfl, rfl, by omega, by have := HK1.out; omega, HN2, by trivial⟩
          case measure => have := HK1.out; simp [intOf]; omega
        · have g1z : ¬ ((s[k].toNat : Int)) < 32 := by omega
          by_cases g2 : 126 < s[k].toNat
          · have g2z : (126 : Int) < (s[k].toNat : Int) := by omega
            have HN2 := Lib.hid (HM.out (Bnc.sh_mark _ (Or.inr g2)).symm)
            clear HM HN
            go_wp2_with fail
            go_roundw
            case rel => exact ⟨k1, _, rfl, rfl, by omega, by have := HK1.out; omega, HN2, by trivial⟩
            case measure => have := HK1.out; simp [intOf]; omega
          · have g2z : ¬ (126 : Int) < (s[k].toNat : Int) := by omega
            have HN2 := Lib.hid (HN.out (Bnc.sh_same _ (by omega)).symm)
            clear HM HN
            go_wp2_with fail
            go_roundw
            case rel => exact ⟨k1, _, rfl, rfl, by omega, by have := HK1.out; omega, HN2, by trivial⟩
            case measure => have := HK1.out; simp [intOf]; omega
      · have h255z : ¬ (k : Int) < 255 := by omega
        have HE := Lib.hid (HK.out.trans (Bnc.shw_stop _ k (Or.inl (by omega))))
        clear HK
        go_wp2_with fail
        go_ret
        exact ⟨by rw [← HE.out, Lib.mk_data]; rfl, rfl⟩
    · have hltz : ¬ (k : Int) < (s.size : Int) := by omega
      have HE := Lib.hid (HK.out.trans (Bnc.shw_stop _ k (Or.inr ⟨by rw [← HZ.out]; omega, hk2⟩)))
      clear HK
      go_wp2_with fail
      go_ret
      exact ⟨by rw [← HE.out, Lib.mk_data]; rfl, rfl⟩
end Go.Proofs.YtkchebbolldmbaaGreatDoor
