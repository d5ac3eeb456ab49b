/-
  PROVED HERE: what small of the program computes.
-/
import Derived.Test.YtkchebbolldmbaaGreatDoorParts
import Derived.Laws.IdiomStrings
set_option linter.unusedVariables false
namespace Adr
/-- A small letter. -/
def low (c : UInt8) : UInt8 := if 65 ≤ c.toNat ∧ c.toNat ≤ 90 then (c.toNat + 32).toUInt8 else c
def sml (t : List UInt8) : List UInt8 := t.map low
/-- Small up to a place. -/
def smlTo (t : List UInt8) (k : Nat) : List UInt8 := (t.take k).map low ++ t.drop k
theorem smlTo_len (t : List UInt8) (k : Nat) : (smlTo t k).length = t.length := by unfold smlTo; rw [List.length_append, List.length_map, List.length_take, List.length_drop]; omega
theorem smlTo_zero (t : List UInt8) : smlTo t 0 = t := rfl
theorem smlTo_all (t : List UInt8) : smlTo t t.length = sml t := by unfold smlTo sml; rw [List.take_length, List.drop_length, List.append_nil]
theorem smlTo_at (t : List UInt8) (k : Nat) (h : k < t.length) : (smlTo t k)[k]'(by rw [smlTo_len]; exact h) = t[k] := by
  unfold smlTo
  rw [List.getElem_append_right (by rw [List.length_map, List.length_take]; omega)]
  simp only [List.length_map, List.length_take, List.getElem_drop]
  congr 1
  omega
theorem smlTo_succ (t : List UInt8) (k : Nat) (h : k < t.length) : smlTo t (k + 1) = (smlTo t k).set k (low t[k]) := by
  unfold smlTo
  have e : ((t.take k).map low).length = k := by rw [List.length_map, List.length_take]; omega
  rw [List.take_add_one, List.getElem?_eq_getElem h, List.map_append, List.set_append_right _ _ (by omega), e, Nat.sub_self, List.append_assoc]
  congr 1
  rw [List.drop_eq_getElem_cons h]
  rfl
theorem low_same (c : UInt8) (h : ¬ (65 ≤ c.toNat ∧ c.toNat ≤ 90)) : low c = c := if_neg h
theorem low_great (c : UInt8) (h : 65 ≤ c.toNat ∧ c.toNat ≤ 90) : ((low c).toNat : Int) = (c.toNat : Int) + 32 := by
  unfold low
  rw [if_pos h]
  have : (c.toNat + 32).toUInt8.toNat = (c.toNat + 32) % 256 := UInt8.toNat_ofNat'
  rw [this]
  omega
theorem set_same (t : List UInt8) (k : Nat) (h : k < t.length) : t.set k t[k] = t := List.set_getElem_self h
end Adr
namespace Go.Proofs.YtkchebbolldmbaaGreatDoor
open Go.RowKit

theorem add_off (g k j : Nat) : (⟨g, k, none⟩ : Addr).add j = ⟨g, k + j, none⟩ := by
  unfold Addr.add
  by_cases h : j = 0
  · subst h; simp
  · simp [h]
/-- Bytes in memory, that may be written. -/
def BRow (w : World) (B : Nat) (L : List UInt8) : Prop := ∀ j (hj : j < L.length), w.cell? ⟨B, j, none⟩ = some (.int .u8 (L[j].toNat : Int)) ∧ w.frozen? ⟨B, j, none⟩ = false
theorem brow_set {w : World} {B : Nat} {L : List UInt8} (h : BRow w B L) (i : Nat) (hi : i < L.length) (c : UInt8) (v : Int) (hv : v = (c.toNat : Int)) : BRow (w.setCell ⟨B, i, none⟩ (.int .u8 v)) B (L.set i c) := by
  subst hv
  intro j hj
  rw [List.length_set] at hj
  obtain ⟨h1, h2⟩ := h j hj
  rw [World.frozen?_setCell]
  refine ⟨?_, h2⟩
  by_cases e : i = j
  · subst e
    rw [World.cell?_setCell_same _ _ _ h1, List.getElem_set_self]
  · rw [World.cell?_setCell_other _ _ _ _ (fun q => e (congrArg Addr.off q)), h1, List.getElem_set_ne e]
theorem brow_new (w : World) (S : ByteArray) : BRow (w.alloc (.cells (bytesRow S (grownCap w S.size 0 5)) 5 ((bytesRow S (grownCap w S.size 0 5)).size, (bytesRow S (grownCap w S.size 0 5)).size + 1))).drew w.heap.size S.data.toList := by
  intro j hj
  have hz := Lib.size_eq S
  have hj2 : j < S.data.size := by simpa using hj
  refine ⟨(World.cell?_alloc_mark w _ 5 _ j).trans (bytesRow_at S _ j hj2), (World.frozen?_alloc_mark w _ 5 _ _ j).trans ?_⟩
  have : j < (bytesRow S (grownCap w S.size 0 5)).size := by unfold bytesRow; simp; omega
  rw [decide_eq_false (by omega), Bool.false_and]

set_option maxRecDepth 100000 in
set_option maxHeartbeats 2000000 in
theorem small_any (S : ByteArray) (w : World) (hs : S.size < 4611686018427387904) : Calls Tryz.prog 73 #[.string S] w fun e w' => e = .returned (.string ⟨(Adr.sml S.data.toList).toArray⟩) ∧ Below w.heap.size w w' := by
  have hconv := fun w s => run_bytes_of_string (P := Tryz.prog) w 9 75 5 s Tryz.underlying9 Tryz.underlying75 Tryz.underlying5
  have HB := Lib.hid (brow_new w S)
  have HBE : Hid (Below w.heap.size w (w.alloc (.cells (bytesRow S (grownCap w S.size 0 5)) 5 ((bytesRow S (grownCap w S.size 0 5)).size, (bytesRow S (grownCap w S.size 0 5)).size + 1))).drew) := ((Below.refl _ _).alloc (Nat.le_refl _) _).drew
  have HZ := Lib.hid (Lib.size_eq S)
  go_enter Tryz.func73, Tryz.ntmps73
  go_wp2_with fail
  clear hconv
  generalize grownCap w S.size 0 5 = cap at *
  generalize (w.alloc (.cells (bytesRow S cap) 5 ((bytesRow S cap).size, (bytesRow S cap).size + 1))).drew = w1 at *
  go_loopw [10] (fun u wr => ∃ k : Nat, u = .int .i64 k ∧ k ≤ S.size ∧ Hid (BRow wr w.heap.size (Adr.smlTo S.data.toList k)) ∧ Hid (Below w.heap.size w wr)) (fun u _ => S.size - (intOf u).toNat)
  case atStart => exact ⟨0, rfl, by omega, HB, HBE⟩
  case round =>
    obtain ⟨k, rfl, hk, HK, HKB⟩ := hrel
    by_cases hlt : k < S.size
    · have hltz : (k : Int) < (S.size : Int) := by omega
      have hkl : k < S.data.toList.length := by rw [← HZ.out]; exact hlt
      have hkl2 : k < (Adr.smlTo S.data.toList k).length := by rw [Adr.smlTo_len]; exact hkl
      obtain ⟨f1, f2⟩ := HK.out k hkl2
      rw [Adr.smlTo_at _ _ hkl] at f1
      have HSU := Lib.hid (Adr.smlTo_succ S.data.toList k hkl)
      have HSET := Lib.hid (brow_set HK.out k hkl2)
      by_cases hg : 65 ≤ (S.data.toList[k]).toNat ∧ (S.data.toList[k]).toNat ≤ 90
      · have HL := Lib.hid (Adr.low_great _ hg)
        obtain ⟨g1, g2⟩ := hg
        have g1z : (65 : Int) ≤ ((S.data.toList[k]).toNat : Int) := by omega
        have g2z : ((S.data.toList[k]).toNat : Int) ≤ 90 := by omega
        clear hkl2
        generalize S.data.toList[k] = c at *
        go_wp2_with fail
        go_roundw
        case rel => exact ⟨k + 1, by go_num, by omega, by rw [HSU.out]; exact HSET.out _ _ (by rw [HL.out]; omega), HKB.out.setCell (Nat.le_refl _) _⟩
        case measure => simp [intOf]; omega
      · have HSM : Hid (Adr.smlTo S.data.toList (k + 1) = Adr.smlTo S.data.toList k) := by
          show _ = _
          rw [HSU.out, Adr.low_same _ hg, ← Adr.smlTo_at _ _ hkl]
          exact List.set_getElem_self hkl2
        clear hkl2
        generalize S.data.toList[k] = c at *
        by_cases g1 : 65 ≤ c.toNat
        · have g2 : ¬ c.toNat ≤ 90 := fun h => hg ⟨g1, h⟩
          have g1z : (65 : Int) ≤ (c.toNat : Int) := by omega
          have g2z : ¬ (c.toNat : Int) ≤ 90 := by omega
          clear hg
          go_wp2_with fail
          go_roundw
          case rel => exact ⟨k + 1, by go_num, by omega, by rw [HSM.out]; exact HK, HKB⟩
          case measure => simp [intOf]; omega
        · have g1z : ¬ (65 : Int) ≤ (c.toNat : Int) := by omega
          clear hg
          go_wp2_with fail
          go_roundw
          case rel => exact ⟨k + 1, by go_num, by omega, by rw [HSM.out]; exact HK, HKB⟩
          case measure => simp [intOf]; omega
    · have hltz : ¬ (k : Int) < (S.size : Int) := by omega
      obtain rfl : k = S.size := by omega
      have e1 : Adr.smlTo S.data.toList S.size = Adr.sml S.data.toList := by rw [HZ.out]; exact Adr.smlTo_all _
      rw [e1] at HK
      have hback : (convert 75 9 (.slice (some ⟨w.heap.size, 0, none⟩) S.size cap)).run Tryz.prog wr = .ok (.string ⟨(Adr.sml S.data.toList).toArray⟩) wr := by
        have h := run_convert_bytes_back (P := Tryz.prog) wr 75 9 5 ⟨w.heap.size, 0, none⟩ cap (Adr.sml S.data.toList) Tryz.underlying75 Tryz.underlying5 Tryz.underlying9 (fun j hj => by
          rw [add_off, Nat.zero_add]
          exact (HK.out j hj).1)
        rw [show (Adr.sml S.data.toList).length = S.size from by unfold Adr.sml; rw [List.length_map, ← HZ.out]] at h
        exact h
      clear e1
      go_wp2_with fail
      go_ret
      exact ⟨rfl, HKB.out⟩
end Go.Proofs.YtkchebbolldmbaaGreatDoor
