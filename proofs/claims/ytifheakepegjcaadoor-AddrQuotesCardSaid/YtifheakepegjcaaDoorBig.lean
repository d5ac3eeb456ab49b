/-
  PROVED HERE: which texts the laws do not look at.
-/
import Derived.Test.YtifheakepegjcaaDoorAwk
set_option linter.unusedVariables false
namespace Adr
def lgB (Ts : List (List UInt8)) : Bool := Ts.any fun T => decide (2048 < T.length)
theorem lg_more {Ts : List (List UInt8)} {k : Nat} (hk : k < Ts.length) (h : lgB (Ts.take k) = false) (g : ¬ 2048 < (Ts[k]).length) : lgB (Ts.take (k + 1)) = false := by
  unfold lgB at *
  rw [List.take_succ_eq_append_getElem hk, List.any_append, h]
  simpa using g
theorem lg_yes {Ts : List (List UInt8)} {k : Nat} (hk : k < Ts.length) (g : 2048 < (Ts[k]).length) : lgB Ts = true := by
  unfold lgB
  rw [List.any_eq_true]
  exact ⟨Ts[k], List.getElem_mem hk, by simpa using g⟩
theorem lg_no {Ts : List (List UInt8)} (h : lgB Ts = false) {T : List UInt8} (hT : T ∈ Ts) : T.length ≤ 2048 := by
  unfold lgB at h
  rw [List.any_eq_false] at h
  have := h T hT
  simpa using this
end Adr
namespace Go.Proofs.YtifheakepegjcaaDoor
open Go.RowKit

set_option maxRecDepth 100000 in
set_option maxHeartbeats 2000000 in
theorem large_any (Ts : List (List UInt8)) (b : Nat) (w : World) (hn : Ts.length < 1000) (hc : ∀ i : Nat, ∀ h : i < Ts.length, w.cell? ⟨b, i, none⟩ = some (.string ⟨(Ts[i]).toArray⟩)) (hl : ∀ T ∈ Ts, T.length ≤ 9223372036854775807) :
    Calls Tryd.prog 11 #[.slice (some ⟨b, 0, none⟩) Ts.length Ts.length] w fun e w' => e = .returned (.bool (Adr.lgB Ts)) ∧ w = w' := by
  have HC := Lib.hid hc
  have HL := Lib.hid hl
  have hnz : (Ts.length : Int) < 1000 := by omega
  clear hc hl
  go_enter Tryd.func11, Tryd.ntmps11
  go_wp2
  go_loop [6] (fun u => ∃ k : Nat, u = .int .i64 k ∧ k ≤ Ts.length ∧ Hid (Adr.lgB (Ts.take k) = false)) (fun u => Ts.length - (intOf u).toNat)
  case atStart => exact ⟨0, rfl, by omega, rfl⟩
  case round =>
    obtain ⟨k, rfl, hk, HK⟩ := hrel
    have hkz : (k : Int) ≤ (Ts.length : Int) := by omega
    have hk0 : (0 : Int) ≤ (k : Int) := by omega
    by_cases hlt : k < Ts.length
    · have hltz : (k : Int) < (Ts.length : Int) := by omega
      have c1 := HC.out k hlt
      have hmem : Ts[k] ∈ Ts := List.getElem_mem hlt
      have hsz := HL.out _ hmem
      clear hmem
      by_cases hbig : 2048 < (Ts[k]).length
      · have HY := Lib.hid (Adr.lg_yes hlt hbig)
        have hbz : (2048 : Int) < ((Ts[k]).length : Int) := by omega
        generalize Ts[k] = T at *
        go_wp2
        go_ret
        rw [HY.out]
        exact ⟨rfl, rfl⟩
      · have HY := Lib.hid (Adr.lg_more hlt HK.out hbig)
        have hbz : ¬ (2048 : Int) < ((Ts[k]).length : Int) := by omega
        generalize Ts[k] = T at *
        go_wp2
        go_round
        case rel => exact ⟨k + 1, by go_num, by omega, HY⟩
        case measure => simp [intOf]; omega
    · have hltz : ¬ (k : Int) < (Ts.length : Int) := by omega
      have HE : Hid (Adr.lgB Ts = false) := by have := HK.out; rwa [List.take_of_length_le (by omega)] at this
      go_wp2
      go_ret
      rw [HE.out]
      exact ⟨rfl, rfl⟩
end Go.Proofs.YtifheakepegjcaaDoor
