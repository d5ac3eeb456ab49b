/-
  PROVED HERE: what Unstuff of the answer and Ends compute.
-/
import Derived.Test.YtakhgoifgpdgiaaDoorLf
set_option linter.unusedVariables false
namespace Go.Proofs.YtakhgoifgpdgiaaDoor
open Go.RowKit

theorem at_data (s : ByteArray) (i : Nat) (h : i < s.size) (h2 : i < s.data.toList.length) : s[i] = s.data.toList[i] := by
  simp [ByteArray.getElem_eq_getElem_data]

theorem head_pre (s : ByteArray) (h : 0 < s.size) : Lib.hasPrefix s.data.toList [46] = ((s[0].toNat : Int) == 46) := by
  have hl : 0 < s.data.toList.length := by simpa using h
  rw [at_data s 0 h hl]
  obtain ⟨b, t, e⟩ : ∃ b t, s.data.toList = b :: t := by
    cases e : s.data.toList with
    | nil => rw [e] at hl; simp at hl
    | cons b t => exact ⟨b, t, rfl⟩
  simp only [e, List.getElem_cons_zero]
  have := Lin.u8_beq b 46
  rw [show ((46 : UInt8).toNat : Int) = 46 from rfl] at this
  rw [this]
  simp only [Lib.hasPrefix, List.isPrefixOf, Bool.and_true]
  rw [Bool.eq_iff_iff, beq_iff_eq, beq_iff_eq]
  exact eq_comm

set_option maxRecDepth 100000 in
theorem runstuff_any (s : ByteArray) (w : World) (hs : s.size < 4611686018427387904) : Calls Tryd.prog 16 #[.string s] w fun e w' => e = .returned (.tuple #[.string ⟨(Lin.uns s.data.toList).1.toArray⟩, .bool (Lin.uns s.data.toList).2]) ∧ w' = w := by
  by_cases h : s.data.toList = [46]
  · have hd : (s.toList == [46]) = true := by rw [dot_beq]; exact decide_eq_true h
    have e : Lin.uns s.data.toList = ([], true) := if_pos h
    rw [e]
    go_enter Tryd.func16, Tryd.ntmps16
    go_wp2
    go_ret2
    exact ⟨rfl, rfl⟩
  · have hd : (s.toList == [46]) = false := by rw [dot_beq]; exact decide_eq_false h
    have e : Lin.uns s.data.toList = (Lib.trimPrefix s.data.toList [46], false) := if_neg h
    rw [e]
    clear e
    by_cases h0 : 0 < s.size
    · have hi0 : (0 : Int) < (s.size : Int) := by omega
      have hi1 : (1 : Int) ≤ (s.size : Int) := by omega
      have hi2 : 1 ≤ s.size := by omega
      have hi3 : ¬ (s.size : Int) < 1 := by omega
      have hp := head_pre s h0
      by_cases hc : (s[0].toNat : Int) = 46
      · have e2 : Lib.trimPrefix s.data.toList [46] = s.data.toList.drop 1 := by
          unfold Lib.trimPrefix
          rw [hp, if_pos (by rw [hc]; rfl)]
          rfl
        rw [e2, ← Lib.extract_to_end, Lib.mk_data]
        clear e2 hp
        go_enter Tryd.func16, Tryd.ntmps16
        go_wp2
        go_ret2
        exact ⟨rfl, rfl⟩
      · have e2 : Lib.trimPrefix s.data.toList [46] = s.data.toList := by
          unfold Lib.trimPrefix
          rw [hp, if_neg (by simpa using hc)]
        rw [e2, Lib.mk_data]
        clear e2 hp
        go_enter Tryd.func16, Tryd.ntmps16
        go_wp2
        go_ret2
        exact ⟨rfl, rfl⟩
    · have hi0 : ¬ (0 : Int) < (s.size : Int) := by omega
      have e2 : Lib.trimPrefix s.data.toList [46] = s.data.toList := by
        have : s.data.toList = [] := by
          rw [← List.length_eq_zero_iff]
          have := Lib.size_eq s
          omega
        rw [this]
        rfl
      rw [e2, Lib.mk_data]
      go_enter Tryd.func16, Tryd.ntmps16
      go_wp2
      go_ret2
      exact ⟨rfl, rfl⟩

set_option maxRecDepth 100000 in
theorem ends_any (s : ByteArray) (i : Nat) (w : World) (hi : i < 4611686018427387904) : Calls Tryd.prog 28 #[.string s, .int .i64 i] w fun e w' => e = .returned (.bool (Lib.occAt s.data.toList Lin.E i)) ∧ w' = w := by
  have hw : wrap64 ((i : Int) + 1) = ((i + 1 : Nat) : Int) := by unfold wrap64; omega
  by_cases h : i + 1 < s.size
  · have hl : i + 1 < s.data.toList.length := by have := Lib.size_eq s; omega
    have hz : ((i + 1 : Nat) : Int) < (s.size : Int) := by omega
    have hz2 : i < s.size := by omega
    rw [Lin.occ_at _ _ hl, ← at_data s i hz2 (by omega), ← at_data s (i + 1) h hl]
    have e1 := Lin.u8_beq s[i] 13
    have e2 := Lin.u8_beq s[i + 1] 10
    rw [← e1, ← e2]
    clear e1 e2
    have hk : ((i + 1 : Nat) : Int).toNat = i + 1 := rfl
    by_cases hc : (s[i].toNat : Int) = 13
    · have hb : ((s[i].toNat : Int) == 13) = true := beq_iff_eq.2 hc
      rw [show ((s[i].toNat : Int) == ((13 : UInt8).toNat : Int)) = true from hb, Bool.true_and]
      go_enter Tryd.func28, Tryd.ntmps28
      go_wp2
      go_ret
      exact ⟨rfl, rfl⟩
    · have hb : ((s[i].toNat : Int) == 13) = false := beq_eq_false_iff_ne.2 hc
      rw [show ((s[i].toNat : Int) == ((13 : UInt8).toNat : Int)) = false from hb, Bool.false_and]
      go_enter Tryd.func28, Tryd.ntmps28
      go_wp2
      go_ret
      exact ⟨rfl, rfl⟩
  · have hz : ¬ ((i + 1 : Nat) : Int) < (s.size : Int) := by omega
    rw [Lin.occ_room _ _ (by have := Lib.size_eq s; omega)]
    go_enter Tryd.func28, Tryd.ntmps28
    go_wp2
    go_ret
    exact ⟨rfl, rfl⟩
end Go.Proofs.YtakhgoifgpdgiaaDoor
