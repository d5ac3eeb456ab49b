/-
  PROVED HERE: what Num of the answer computes.
-/
import Derived.Test.YtkchebbolldmbaaGreatDoorZs
import Derived.Test.YtkchebbolldmbaaGreatDoorBd
import Derived.Lib.Hide
set_option linter.unusedVariables false
namespace Go.Proofs.YtkchebbolldmbaaGreatDoor
open Go.RowKit
theorem conv_one (W : World) (g : Nat) (d : UInt8) (h : W.cell? ⟨g, 0, none⟩ = some (.int .u8 (d.toNat : Int))) : (convert 75 9 (.slice (some ⟨g, 0, none⟩) 1 1)).run Tryz.prog W = .ok (.string ⟨#[d]⟩) W := by
  have q := run_convert_bytes_back (P := Tryz.prog) W 75 9 5 ⟨g, 0, none⟩ 1 [d] Tryz.underlying75 Tryz.underlying5 Tryz.underlying9 (fun j hj => by
    obtain rfl : j = 0 := by have : j < 1 := hj; omega
    rw [add_off, Nat.zero_add]
    exact h)
  exact q

/-- All that was is as it was. -/
def Bq0 (w W : World) : Prop := Below w.heap.size w W
theorem bq0_next {w W W1 : World} (h : Bq0 w W) (g : Below W.heap.size W W1) : Bq0 w W1 := h.trans (g.mono h.size)

set_option maxRecDepth 100000 in
set_option maxHeartbeats 800000 in
theorem rnum10_any (u : Nat) : u < 9223372036854775808 → ∀ (w : World), Calls Tryz.prog 54 #[.int .i64 u] w fun e w' => e = .returned (.string ⟨(Lib.decDigits u).toArray⟩) ∧ Below w.heap.size w w' := by
  induction u using Nat.strongRecOn with
  | _ u ih =>
    intro hu w
    by_cases h : u < 10
    · have hz : (u : Int) < 10 := by omega
      have HD : Hid (Lib.decDigits u = [UInt8.ofNat (48 + u)]) := Lib.decDigits_one h
      obtain ⟨d, hd⟩ : ∃ d, d = UInt8.ofNat (48 + u) := ⟨_, rfl⟩
      have hdn : (d.toNat : Int) = 48 + (u : Int) := by rw [hd, UInt8.toNat_ofNat']; omega
      have u1 : IntKind.i64.wrap (48 + (u : Int)) = (d.toNat : Int) := by rw [IntKind.wrap_i64, hdn]; omega
      have u2 : IntKind.u8.wrap (d.toNat : Int) = (d.toNat : Int) := by
        have := UInt8.toNat_lt d
        first | (rw [IntKind.wrap_u8]; omega) | (simp [IntKind.wrap]; omega)
      rw [← hd] at HD
      have HB0 : Hid (Below w.heap.size w (w.alloc (.cells #[.int .u8 (d.toNat : Int)] 5))) := (Below.refl _ _).alloc (Nat.le_refl _) _
      have hc := conv_one (w.alloc (.cells #[.int .u8 (d.toNat : Int)] 5)) w.heap.size d (by rw [World.cell?_alloc_new]; rfl)
      clear hdn hd ih
      go_enter Tryz.func54, Tryz.ntmps54
      go_wp2_with fail
      go_ret
      exact ⟨by rw [HD.out]; rfl, HB0.out⟩
    · have hz : ¬ (u : Int) < 10 := by omega
      obtain ⟨q, hq⟩ : ∃ q, q = u / 10 := ⟨_, rfl⟩
      have HI := Lib.hid (ih q (by omega) (by omega))
      have HD : Hid (Lib.decDigits u = Lib.decDigits q ++ [UInt8.ofNat (48 + u % 10)]) := by
        show _ = _
        rw [hq, Lib.decDigits, dif_neg h]
      obtain ⟨d, hd⟩ : ∃ d, d = UInt8.ofNat (48 + u % 10) := ⟨_, rfl⟩
      obtain ⟨r, hr⟩ : ∃ r, r = u % 10 := ⟨_, rfl⟩
      have hdn : (d.toNat : Int) = 48 + (r : Int) := by rw [hd, UInt8.toNat_ofNat']; omega
      have u0b : (u : Int).tdiv 10 = (q : Int) := by rw [Int.tdiv_eq_ediv_of_nonneg (by omega)]; omega
      have u0 : IntKind.i64.wrap (q : Int) = (q : Int) := by rw [IntKind.wrap_i64]; omega
      have u1b : (u : Int).tmod 10 = (r : Int) := by rw [Int.tmod_eq_emod_of_nonneg (by omega)]; omega
      have u1c : IntKind.i64.wrap (r : Int) = (r : Int) := by rw [IntKind.wrap_i64]; omega
      have u1 : IntKind.i64.wrap (48 + (r : Int)) = (d.toNat : Int) := by rw [IntKind.wrap_i64, hdn]; omega
      have hDl : ¬ 9223372036854775807 < (Lib.decDigits q).length + 1 := by
        have z := num_len q (by omega)
        unfold Bnc.num at z
        omega
      have u2 : IntKind.u8.wrap (d.toNat : Int) = (d.toNat : Int) := by
        have := UInt8.toNat_lt d
        first | (rw [IntKind.wrap_u8]; omega) | (simp [IntKind.wrap]; omega)
      rw [← hd] at HD
      generalize Lib.decDigits q = D at *
      clear hdn hd ih hq hr h hu
      go_enter Tryz.func54, Tryz.ntmps54
      go_wp2_with fail
      have HB0 : Hid (Bq0 w w) := Below.refl _ _
      have hcA : ∀ W : World, (convert 75 9 (.slice (some ⟨W.heap.size, 0, none⟩) 1 1)).run Tryz.prog (W.alloc (.cells #[.int .u8 (d.toNat : Int)] 5)) = .ok (.string ⟨#[d]⟩) (W.alloc (.cells #[.int .u8 (d.toNat : Int)] 5)) := fun W => conv_one (W.alloc (.cells #[.int .u8 (d.toNat : Int)] 5)) W.heap.size d (by show (W.alloc (.cells #[.int .u8 (d.toNat : Int)] 5)).cell? ⟨W.heap.size, 0, none⟩ = _; rw [World.cell?_alloc_new]; rfl)
      have hcB : ∀ W : World, (convert 75 9 (.slice (some ⟨W.heap.size, 0, none⟩) 1 1)).run Tryz.prog ((W.alloc (.cells #[.int .u8 (d.toNat : Int)] 5)).drew) = .ok (.string ⟨#[d]⟩) ((W.alloc (.cells #[.int .u8 (d.toNat : Int)] 5)).drew) := fun W => conv_one ((W.alloc (.cells #[.int .u8 (d.toNat : Int)] 5)).drew) W.heap.size d (by show (W.alloc (.cells #[.int .u8 (d.toNat : Int)] 5)).cell? ⟨W.heap.size, 0, none⟩ = _; rw [World.cell?_alloc_new]; rfl)
      have hcC : ∀ W : World, (convert 75 9 (.slice (some ⟨W.heap.size, 0, none⟩) 1 1)).run Tryz.prog (W.drew.alloc (.cells #[.int .u8 (d.toNat : Int)] 5)) = .ok (.string ⟨#[d]⟩) (W.drew.alloc (.cells #[.int .u8 (d.toNat : Int)] 5)) := fun W => conv_one (W.drew.alloc (.cells #[.int .u8 (d.toNat : Int)] 5)) W.heap.size d (by show (W.drew.alloc (.cells #[.int .u8 (d.toNat : Int)] 5)).cell? ⟨W.drew.heap.size, 0, none⟩ = _; rw [World.cell?_alloc_new]; rfl)
      have hcD : ∀ W : World, (convert 75 9 (.slice (some ⟨W.heap.size, 0, none⟩) 1 1)).run Tryz.prog ((W.drew.alloc (.cells #[.int .u8 (d.toNat : Int)] 5)).drew) = .ok (.string ⟨#[d]⟩) ((W.drew.alloc (.cells #[.int .u8 (d.toNat : Int)] 5)).drew) := fun W => conv_one ((W.drew.alloc (.cells #[.int .u8 (d.toNat : Int)] 5)).drew) W.heap.size d (by show (W.drew.alloc (.cells #[.int .u8 (d.toNat : Int)] 5)).cell? ⟨W.drew.heap.size, 0, none⟩ = _; rw [World.cell?_alloc_new]; rfl)
      have hgen : ∀ (X w6 : World), Below X.heap.size X w6 → X.heap = (w.alloc (.cells #[.int .u8 (d.toNat : Int)] 5)).heap → w6.cell? ⟨w.heap.size, 0, none⟩ = some (.int .u8 (d.toNat : Int)) := fun X w6 hb e => by
        have k : X.heap[w.heap.size]? = some (.cells #[.int .u8 (d.toNat : Int)] 5 (0, 0)) := by
          rw [e]
          show (w.heap.push _)[w.heap.size]? = _
          rw [Array.getElem?_push_size]
        rw [Lib.cell_of_heap ((hb.block _ (Array.getElem?_eq_some_iff.1 k).1).trans k)]
        rfl
      go_region_held (fun W => Bq0 w W) (first | assumption | exact HB0.out | exact bq0_next HB0.out (Below.refl _ _).drew | exact bq0_next (by assumption) (Below.refl _ _).drew | exact bq0_next (by assumption) ((Below.refl _ _).alloc (Nat.le_refl _) _)) (first
        | (go_at_call 54; refine (HI.out _).mono ?_; rintro e w6 ⟨rfl, h6⟩; have g6 := bq0_next (by assumption) h6
           first | (have C6 := conv_one _ _ _ (hgen _ _ h6 rfl)) | skip))
      all_goals go_wp2
      all_goals go_ret
      all_goals refine ⟨congrArg (fun z => Ending.returned (Value.string z)) ((mk_append D [d]).trans (by rw [HD.out])), ?_⟩
      all_goals first | exact g6 | exact bq0_next g6 ((Below.refl _ _).alloc (Nat.le_refl _) _) | assumption
end Go.Proofs.YtkchebbolldmbaaGreatDoor
