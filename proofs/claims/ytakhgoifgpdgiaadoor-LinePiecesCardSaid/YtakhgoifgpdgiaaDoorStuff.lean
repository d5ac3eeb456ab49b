/-
  PROVED HERE: what Stuff of the program computes (by a strings.Builder).
-/
import Derived.Test.YtakhgoifgpdgiaaDoorJoi2
set_option linter.unusedVariables false
namespace Lin
open Go.Lib
/-- A line with a dot ahead, if it begins with one. -/
def stf (x : List UInt8) : List UInt8 := if hasPrefix x [46] then 46 :: x else x
def stu (l : List (List UInt8)) : List UInt8 := joi (l.map stf) ++ [46, 13, 10]
end Lin
namespace Go.Proofs.YtakhgoifgpdgiaaDoor
open Go.RowKit

theorem at_map (f : List UInt8 → List UInt8) (l : List (List UInt8)) (k : Nat) (hk : k < l.length) : at' (l.map f) k = f (at' l k) := by
  unfold at'
  rw [List.getD_eq_getElem?_getD, List.getD_eq_getElem?_getD, List.getElem?_map, List.getElem?_eq_getElem hk]
  rfl
theorem size_dot : (⟨#[46]⟩ : ByteArray).size = 1 := rfl
theorem size_dotend : (⟨#[46, 13, 10]⟩ : ByteArray).size = 3 := rfl

set_option maxRecDepth 100000 in
set_option maxHeartbeats 2000000 in
theorem stuff_any (A : Option Addr) (cap n : Nat) (l : List (List UInt8)) (w : World) (hn : l.length = n) (h : Txs w A l) (hs : n < 4611686018427387904) (hlen : (Lin.stu l).length ≤ 140737488355328) :
    Calls Tryd.prog 20 #[.slice A n cap] w fun e w' => e = .returned (.string ⟨(Lin.stu l).toArray⟩) ∧ Below w.heap.size w w' := by
  have hlen2 : (Lin.joi (l.map Lin.stf)).length + 3 ≤ 140737488355328 := by
    have e : (Lin.stu l).length = (Lin.joi (l.map Lin.stf)).length + 3 := by unfold Lin.stu; rw [List.length_append]; rfl
    omega
  have H := Lib.hid h
  have HLN := Lib.hid hn
  clear h hn hlen
  go_enter Tryd.func20, Tryd.ntmps20
  go_wp2
  go_loopw [8] (fun u wr => ∃ k : Nat, u = .int .i64 k ∧ k ≤ n ∧ Lib.IsBuilderF 58 5 w.heap.size w.heap.size (Lib.byteCells (Lin.joi ((l.map Lin.stf).take k))) wr ∧ Below w.heap.size w wr) (fun u _ => n - (intOf u).toNat)
  case atStart => exact ⟨0, rfl, by omega, Lib.IsBuilderF.of (Lib.fresh_isBuilder 58 5 w), (Below.refl _ _).alloc (Nat.le_refl _) _⟩
  case round =>
    obtain ⟨k, rfl, hk, hbld, hbel⟩ := hrel
    have hsz := hbel.size
    by_cases hlt : k < n
    · have hltz : (k : Int) < (n : Int) := by omega
      have hkl : k < l.length := by rw [HLN.out]; exact hlt
      obtain ⟨b1, o1, rfl, f1⟩ := H.out k hkl
      have hb1 := World.block_lt_of_cell? _ _ f1
      have f2 : wr.cell? ⟨b1, o1 + k, none⟩ = some (.string ⟨(at' l k).toArray⟩) := by rw [hbel.cell (p := ⟨b1, o1 + k, none⟩) hb1]; exact f1
      have HJ := Lib.hid (joi_succ (l.map Lin.stf) k (by rw [List.length_map]; exact hkl))
      rw [at_map _ _ _ hkl] at HJ
      have hb : (Lin.joi ((l.map Lin.stf).take k)).length + ((Lin.stf (at' l k)).length + 2) ≤ 140737488355328 := by
        have h1 := congrArg List.length HJ.out
        have h2 := joi_take_le (l.map Lin.stf) (k + 1)
        simp only [List.length_append, List.length_cons, List.length_nil] at h1
        omega
      clear hkl
      generalize at' l k = X at *
      generalize Lin.joi ((l.map Lin.stf).take k) = Y at *
      have HBL := Lib.hid hbld
      have HBE := Lib.hid hbel
      clear hbld hbel f1
      have HP : Hid (∀ W : World, Calls Tryd.prog 33 #[.string ⟨X.toArray⟩, .string ⟨#[46]⟩] W fun e w' => e = .returned (.bool (Lib.hasPrefix X [46])) ∧ W = w') := fun W => (Tryd.strings_HasPrefix ⟨X.toArray⟩ ⟨#[46]⟩ W).mono fun _ _ h => ⟨h.1, h.2.symm⟩
      cases hp : Lib.hasPrefix X [46] with
      | true =>
        rw [hp] at HP
        have e1 : Lin.stf X = 46 :: X := by unfold Lin.stf; rw [if_pos hp]
        rw [e1] at hb HJ
        rw [List.length_cons] at hb
        clear e1 hp
        go_wp2_with (go_at_call 33; refine Calls.mono (HP.out _) ?_; rintro e w' ⟨rfl, rfl⟩)
        refine (writeString_k w.heap.size w.heap.size (Lib.byteCells Y) ⟨#[46]⟩ wr HBL.out (by rw [size_dot, Lib.byteCells_length]; omega) hsz).mono ?_
        rintro e w0 ⟨rfl, h0, hbw0, _⟩
        have hsz0 := hbw0.size
        have HB0 := Lib.hid h0
        have HW0 := Lib.hid hbw0
        clear h0 hbw0
        go_wp2_with fail
        refine (writeString_k w.heap.size w.heap.size _ ⟨X.toArray⟩ w0 (.inr HB0.out) (by rw [size_mk, List.length_append, Lib.byteCells_length, Lib.strCells_length, size_dot]; omega) (by omega)).mono ?_
        rintro e w1 ⟨rfl, h1, hbw1, _⟩
        have hsz1 := hbw1.size
        have HB1 := Lib.hid h1
        have HW1 := Lib.hid hbw1
        clear h1 hbw1
        go_wp2_with fail
        refine (writeString_k w.heap.size w.heap.size _ ⟨#[13, 10]⟩ w1 (.inr HB1.out) (by rw [size_end, List.length_append, List.length_append, Lib.byteCells_length, Lib.strCells_length, Lib.strCells_length, size_mk, size_mk, List.length_singleton]; omega) (by omega)).mono ?_
        rintro e w2 ⟨rfl, h2, hbw2, _⟩
        have HB2 := Lib.hid h2
        have HW2 := Lib.hid hbw2
        clear h2 hbw2
        go_wp2
        go_roundw
        case rel =>
          refine ⟨k + 1, by go_num, by omega, ?_, HBE.out.trans (HW0.out.trans (HW1.out.trans HW2.out))⟩
          rw [HJ.out]
          have := HB2.out
          rw [show (#[46] : Array UInt8) = [46].toArray from rfl, cells_more, cells_more, show (#[13, 10] : Array UInt8) = [13, 10].toArray from rfl, cells_more] at this
          rw [show Y ++ (46 :: X ++ [13, 10]) = Y ++ [46] ++ X ++ [13, 10] by simp]
          exact .inr this
        case measure => simp [intOf]; omega
      | false =>
        rw [hp] at HP
        have e1 : Lin.stf X = X := by unfold Lin.stf; rw [if_neg (by rw [hp]; simp)]
        rw [e1] at hb HJ
        clear e1 hp
        go_wp2_with (go_at_call 33; refine Calls.mono (HP.out _) ?_; rintro e w' ⟨rfl, rfl⟩)
        refine (writeString_k w.heap.size w.heap.size (Lib.byteCells Y) ⟨X.toArray⟩ wr HBL.out (by rw [size_mk, Lib.byteCells_length]; omega) hsz).mono ?_
        rintro e w1 ⟨rfl, h1, hbw1, _⟩
        have hsz1 := hbw1.size
        have HB1 := Lib.hid h1
        have HW1 := Lib.hid hbw1
        clear h1 hbw1
        go_wp2_with fail
        refine (writeString_k w.heap.size w.heap.size _ ⟨#[13, 10]⟩ w1 (.inr HB1.out) (by rw [size_end, List.length_append, Lib.byteCells_length, Lib.strCells_length, size_mk]; omega) (by omega)).mono ?_
        rintro e w2 ⟨rfl, h2, hbw2, _⟩
        have HB2 := Lib.hid h2
        have HW2 := Lib.hid hbw2
        clear h2 hbw2
        go_wp2
        go_roundw
        case rel =>
          refine ⟨k + 1, by go_num, by omega, ?_, HBE.out.trans (HW1.out.trans HW2.out)⟩
          rw [HJ.out]
          have := HB2.out
          rw [cells_more, show (#[13, 10] : Array UInt8) = [13, 10].toArray from rfl, cells_more, List.append_assoc] at this
          exact .inr this
        case measure => simp [intOf]; omega
    · have hltz : ¬ (k : Int) < (n : Int) := by omega
      obtain rfl : k = n := by omega
      have HT : Hid ((l.map Lin.stf).take k = l.map Lin.stf) := by show _ = _; rw [← HLN.out, ← List.length_map (f := Lin.stf)]; exact List.take_length
      rw [HT.out] at hbld
      have HBL := Lib.hid hbld
      have HBE := Lib.hid hbel
      clear hbld hbel
      go_wp2_with fail
      refine (writeString_k w.heap.size w.heap.size _ ⟨#[46, 13, 10]⟩ wr HBL.out (by rw [size_dotend, Lib.byteCells_length]; omega) (by omega)).mono ?_
      rintro e w2 ⟨rfl, h2, hbw2, _⟩
      have hsz2 := hbw2.size
      rw [show (#[46, 13, 10] : Array UInt8) = [46, 13, 10].toArray from rfl, cells_more] at h2
      have HB2 := Lib.hid h2
      have HW2 := Lib.hid hbw2
      clear h2 hbw2
      go_wp2_with fail
      refine (Tryd.Builder_String_any_f w.heap.size w.heap.size (Lin.stu l) w2 (.inr HB2.out) (by omega)).mono ?_
      rintro e w1 ⟨rfl, _, hbw1⟩
      have HW1 := Lib.hid hbw1
      clear hbw1
      go_wp2
      go_ret
      exact ⟨rfl, HBE.out.trans (HW2.out.trans HW1.out)⟩
end Go.Proofs.YtakhgoifgpdgiaaDoor
