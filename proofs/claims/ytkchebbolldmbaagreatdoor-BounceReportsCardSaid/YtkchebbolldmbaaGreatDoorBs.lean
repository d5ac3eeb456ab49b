/-
  PROVED HERE: what shown of the program computes.
-/
import Derived.Test.YtkchebbolldmbaaGreatDoorBh
set_option linter.unusedVariables false
namespace Bnc
def shB (c : UInt8) : UInt8 := if c.toNat < 32 ∨ 126 < c.toNat then 63 else c
def shw (t : List UInt8) : List UInt8 := (t.take 255).map shB
def shTo (t : List UInt8) (k : Nat) : List UInt8 := (t.take k).map shB ++ t.drop k
theorem shTo_len (t : List UInt8) (k : Nat) : (shTo t k).length = t.length := by unfold shTo; rw [List.length_append, List.length_map, List.length_take, List.length_drop]; omega
theorem shTo_all (t : List UInt8) : shTo t t.length = t.map shB := by unfold shTo; rw [List.take_length, List.drop_length, List.append_nil]
theorem shTo_at (t : List UInt8) (k : Nat) (h : k < t.length) : (shTo t k)[k]'(by rw [shTo_len]; exact h) = t[k] := by
  unfold shTo
  rw [List.getElem_append_right (by rw [List.length_map, List.length_take]; omega)]
  simp only [List.length_map, List.length_take, List.getElem_drop]
  congr 1
  omega
theorem shTo_succ (t : List UInt8) (k : Nat) (h : k < t.length) : shTo t (k + 1) = (shTo t k).set k (shB t[k]) := by
  unfold shTo
  have e : ((t.take k).map shB).length = k := by rw [List.length_map, List.length_take]; omega
  rw [List.take_add_one, List.getElem?_eq_getElem h, List.map_append, List.set_append_right _ _ (by omega), e, Nat.sub_self, List.append_assoc]
  congr 1
  rw [List.drop_eq_getElem_cons h]
  rfl
theorem sh_same (c : UInt8) (h : ¬ (c.toNat < 32 ∨ 126 < c.toNat)) : shB c = c := if_neg h
theorem sh_mark (c : UInt8) (h : c.toNat < 32 ∨ 126 < c.toNat) : shB c = 63 := if_pos h
theorem shw_len (t : List UInt8) : (shw t).length ≤ t.length := by unfold shw; rw [List.length_map, List.length_take]; omega
theorem shw_len2 (t : List UInt8) : (shw t).length ≤ 255 := by unfold shw; rw [List.length_map, List.length_take]; omega
end Bnc
namespace Go.Proofs.YtkchebbolldmbaaGreatDoor
open Go.RowKit

set_option maxRecDepth 100000 in
set_option maxHeartbeats 2000000 in
theorem shown_any (s : ByteArray) (w : World) (hs : s.size < 4611686018427387904) : Calls Tryz.prog 25 #[.string s] w fun e w' => e = .returned (.string ⟨(Bnc.shw s.data.toList).toArray⟩) ∧ Below w.heap.size w w' := by
  have hconv := fun w s => run_bytes_of_string (P := Tryz.prog) w 9 75 5 s Tryz.underlying9 Tryz.underlying75 Tryz.underlying5
  have HZ0 := Lib.hid (Lib.size_eq s)
  obtain ⟨n, hn⟩ : ∃ n : Nat, n = min s.size 255 := ⟨_, rfl⟩
  have hmin : min (s.size : Int) 255 = (n : Int) := by omega
  have hmn : min n s.size = n := by omega
  have hn1 : (n : Int) ≤ (s.size : Int) := by omega
  have HX : Hid ((s.extract 0 n).data.toList = s.data.toList.take 255) := by
    show _ = _
    rw [Lib.extract_data, List.drop_zero, Nat.sub_zero, List.take_eq_take_iff]
    have := HZ0.out
    omega
  have HXS : Hid ((s.extract 0 n).size = n) := by show _ = _; rw [ByteArray.size_extract]; omega
  have HB := Lib.hid (brow_new w (s.extract 0 n))
  rw [HXS.out] at HB
  have HBE : Hid (Below w.heap.size w (w.alloc (.cells (bytesRow (s.extract 0 n) (grownCap w n 0 5)) 5 ((bytesRow (s.extract 0 n) (grownCap w n 0 5)).size, (bytesRow (s.extract 0 n) (grownCap w n 0 5)).size + 1))).drew) := ((Below.refl _ _).alloc (Nat.le_refl _) _).drew
  have HZ : Hid (n = (s.extract 0 n).data.toList.length) := by show _ = _; rw [← Lib.size_eq, HXS.out]
  have HR : Hid (Bnc.shw s.data.toList = (s.extract 0 n).data.toList.map Bnc.shB) := by show _ = _; rw [HX.out]; rfl
  generalize Bnc.shw s.data.toList = R at *
  clear hn HX
  go_enter Tryz.func25, Tryz.ntmps25
  go_wp2_with fail
  clear hconv
  generalize s.extract 0 n = S at *
  generalize grownCap w n 0 5 = cap at *
  generalize (w.alloc (.cells (bytesRow S cap) 5 ((bytesRow S cap).size, (bytesRow S cap).size + 1))).drew = w1 at *
  go_loopw [14] (fun u wr => ∃ k : Nat, u = .int .i64 k ∧ k ≤ n ∧ Hid (BRow wr w.heap.size (Bnc.shTo S.data.toList k)) ∧ Hid (Below w.heap.size w wr)) (fun u _ => n - (intOf u).toNat)
  case atStart => exact ⟨0, rfl, by omega, HB, HBE⟩
  case round =>
    obtain ⟨k, rfl, hk, HK, HKB⟩ := hrel
    by_cases hlt : k < n
    · have hltz : (k : Int) < (n : Int) := by omega
      have hkl : k < S.data.toList.length := by rw [← HZ.out]; exact hlt
      have hkl2 : k < (Bnc.shTo S.data.toList k).length := by rw [Bnc.shTo_len]; exact hkl
      obtain ⟨f1, f2⟩ := HK.out k hkl2
      rw [Bnc.shTo_at _ _ hkl] at f1
      have HSU := Lib.hid (Bnc.shTo_succ S.data.toList k hkl)
      have HSET := Lib.hid (brow_set HK.out k hkl2)
      by_cases hg : (S.data.toList[k]).toNat < 32 ∨ 126 < (S.data.toList[k]).toNat
      · have HL := Lib.hid (Bnc.sh_mark _ hg)
        have HN : Hid (Hid (BRow (wr.setCell ⟨w.heap.size, k, none⟩ (.int .u8 63)) w.heap.size (Bnc.shTo S.data.toList (k + 1)))) := by
          show Hid (BRow _ _ _)
          show BRow _ _ _
          rw [HSU.out, HL.out]
          exact HSET.out 63 63 rfl
        clear hkl2 HSET HSU HL
        generalize S.data.toList[k] = c at *
        by_cases g1 : c.toNat < 32
        · have g1z : ((c.toNat : Int)) < 32 := by omega
          clear hg
          go_wp2_with fail
          go_roundw
          case rel => exact ⟨k + 1, by go_num, by omega, HN.out, HKB.out.setCell (Nat.le_refl _) _⟩
          case measure => simp [intOf]; omega
        · have g1z : ¬ ((c.toNat : Int)) < 32 := by omega
          have g2z : (126 : Int) < (c.toNat : Int) := by omega
          clear hg
          go_wp2_with fail
          go_roundw
          case rel => exact ⟨k + 1, by go_num, by omega, HN.out, HKB.out.setCell (Nat.le_refl _) _⟩
          case measure => simp [intOf]; omega
      · have HSM : Hid (Bnc.shTo S.data.toList (k + 1) = Bnc.shTo S.data.toList k) := by
          show _ = _
          rw [HSU.out, Bnc.sh_same _ hg, ← Bnc.shTo_at _ _ hkl]
          exact List.set_getElem_self hkl2
        clear hkl2
        generalize S.data.toList[k] = c at *
        have g1z : ¬ ((c.toNat : Int)) < 32 := by omega
        have g2z : ¬ (126 : Int) < (c.toNat : Int) := by omega
        clear hg
        go_wp2_with fail
        go_roundw
        case rel => exact ⟨k + 1, by go_num, by omega, by rw [HSM.out]; exact HK, HKB⟩
        case measure => simp [intOf]; omega
    · have hltz : ¬ (k : Int) < (n : Int) := by omega
      obtain rfl : k = n := by omega
      have e1 : Bnc.shTo S.data.toList k = R := (congrArg (Bnc.shTo S.data.toList) HZ.out).trans ((Bnc.shTo_all _).trans HR.out.symm)
      rw [e1] at HK
      have hback : (convert 75 9 (.slice (some ⟨w.heap.size, 0, none⟩) k cap)).run Tryz.prog wr = .ok (.string ⟨R.toArray⟩) wr := by
        have h := run_convert_bytes_back (P := Tryz.prog) wr 75 9 5 ⟨w.heap.size, 0, none⟩ cap R Tryz.underlying75 Tryz.underlying5 Tryz.underlying9 (fun j hj => by
          rw [add_off, Nat.zero_add]
          exact (HK.out j hj).1)
        rw [show R.length = k from by rw [HR.out, List.length_map, ← HZ.out]] at h
        exact h
      clear e1
      go_wp2_with fail
      go_ret
      exact ⟨rfl, HKB.out⟩
end Go.Proofs.YtkchebbolldmbaaGreatDoor
