/-
  PROVED HERE: what Join of the program computes (by a strings.Builder).
-/
import Derived.Test.YtakhgoifgpdgiaaDoorJoi
set_option linter.unusedVariables false
namespace Go.Proofs.YtakhgoifgpdgiaaDoor
open Go.RowKit

theorem size_mk (x : List UInt8) : (⟨x.toArray⟩ : ByteArray).size = x.length := by rw [Lib.size_eq]
theorem size_end : (⟨#[13, 10]⟩ : ByteArray).size = 2 := rfl
theorem cells_more (a b : List UInt8) : Lib.byteCells a ++ Lib.strCells ⟨b.toArray⟩ = Lib.byteCells (a ++ b) := by
  simp [Lib.byteCells, Lib.strCells]

set_option maxRecDepth 100000 in
set_option maxHeartbeats 1000000 in
theorem join_any (A : Option Addr) (cap n : Nat) (l : List (List UInt8)) (w : World) (hn : l.length = n) (h : Txs w A l) (hs : n < 4611686018427387904) (hlen : (Lin.joi l).length ≤ 140737488355328) :
    Calls Tryd.prog 18 #[.slice A n cap] w fun e w' => e = .returned (.string ⟨(Lin.joi l).toArray⟩) ∧ Below w.heap.size w w' := by
  have H := Lib.hid h
  have HLN := Lib.hid hn
  clear h hn
  go_enter Tryd.func18, Tryd.ntmps18
  go_wp2
  go_loopw [8] (fun u wr => ∃ k : Nat, u = .int .i64 k ∧ k ≤ n ∧ Lib.IsBuilderF 58 5 w.heap.size w.heap.size (Lib.byteCells (Lin.joi (l.take k))) wr ∧ Below w.heap.size w wr) (fun u _ => n - (intOf u).toNat)
  case atStart => exact ⟨0, rfl, by omega, Lib.IsBuilderF.of (Lib.fresh_isBuilder 58 5 w), (Below.refl _ _).alloc (Nat.le_refl _) _⟩
  case round =>
    obtain ⟨k, rfl, hk, hbld, hbel⟩ := hrel
    have hsz := hbel.size
    by_cases hlt : k < n
    · have hltz : (k : Int) < (n : Int) := by omega
      obtain ⟨b1, o1, rfl, f1⟩ := H.out k (by rw [HLN.out]; exact hlt)
      have hb1 := World.block_lt_of_cell? _ _ f1
      have f2 : wr.cell? ⟨b1, o1 + k, none⟩ = some (.string ⟨(at' l k).toArray⟩) := by rw [hbel.cell (p := ⟨b1, o1 + k, none⟩) hb1]; exact f1
      have HJ := Lib.hid (joi_succ l k (by rw [HLN.out]; exact hlt))
      have hb : (Lin.joi (l.take k)).length + ((at' l k).length + 2) ≤ 140737488355328 := by
        have h1 := congrArg List.length HJ.out
        have h2 := joi_take_le l (k + 1)
        simp only [List.length_append, List.length_cons, List.length_nil] at h1
        omega
      generalize at' l k = X at *
      generalize Lin.joi (l.take k) = Y at *
      have HBL := Lib.hid hbld
      have HBE := Lib.hid hbel
      clear hbld hbel f1
      go_wp2_with fail
      refine (writeString_k w.heap.size w.heap.size (Lib.byteCells Y) ⟨X.toArray⟩ wr HBL.out (by rw [size_mk, Lib.byteCells_length]; omega) hsz).mono ?_
      rintro e w1 ⟨rfl, h1, hbw1, _⟩
      have hsz1 := hbw1.size
      have HB1 := Lib.hid h1
      have HW1 := Lib.hid hbw1
      clear h1 hbw1
      go_wp2_with fail
      refine (writeString_k w.heap.size w.heap.size _ ⟨#[13, 10]⟩ w1 (.inr HB1.out) (by rw [size_end, List.length_append, Lib.byteCells_length, Lib.strCells_length, size_mk]; omega) (by omega)).mono ?_
      rintro e w2 ⟨rfl, h2, hbw2, _⟩
      have HB2 := Lib.hid h2
      have HW2 := Lib.hid hbw2
      clear h2 hbw2
      go_wp2
      go_roundw
      case rel =>
        refine ⟨k + 1, by go_num, by omega, ?_, HBE.out.trans (HW1.out.trans HW2.out)⟩
        rw [HJ.out]
        have := HB2.out
        rw [cells_more, show (#[13, 10] : Array UInt8) = [13, 10].toArray from rfl, cells_more, List.append_assoc] at this
        exact .inr this
      case measure => simp [intOf]; omega
    · have hltz : ¬ (k : Int) < (n : Int) := by omega
      obtain rfl : k = n := by omega
      have HT : Hid (l.take k = l) := by show _ = _; rw [← HLN.out]; exact List.take_length
      rw [HT.out] at hbld
      have HBL := Lib.hid hbld
      have HBE := Lib.hid hbel
      clear hbld hbel
      go_wp2_with fail
      refine (Tryd.Builder_String_any_f w.heap.size w.heap.size (Lin.joi l) wr HBL.out hsz).mono ?_
      rintro e w1 ⟨rfl, _, hbw1⟩
      have HW1 := Lib.hid hbw1
      clear hbw1
      go_wp2
      go_ret
      exact ⟨rfl, HBE.out.trans HW1.out⟩
end Go.Proofs.YtakhgoifgpdgiaaDoor
