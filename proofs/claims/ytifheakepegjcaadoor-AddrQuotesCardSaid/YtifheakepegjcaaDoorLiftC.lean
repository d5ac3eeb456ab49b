/-
  PROVED HERE: a slice of bools that came in.
-/
import Derived.Test.YtifheakepegjcaaDoorLiftB
import Derived.Test.YtifheakepegjcaaDoorGr
import Derived.Deep.Grids
set_option linter.unusedVariables false
namespace Go.Proofs.YtifheakepegjcaaDoor
open Go.ChangeShapes Go.WideShapes Go.ChangeAt Go.RowKit
theorem bools_in {H : Type} {enc : TypeId × Value → H} {W : World} {a : Option Addr} {len cap : Nat} {d : DataW H} {p : List MemPlace}
    (h0 : ∃ fuel, DataW.trod enc Tryd.prog W 0 (fun _ => true) true fuel 45 (Value.slice a len cap).cells.toList = some (d, p)) : ∃ f, Bos W a len f ∧ len ≤ maxLen := by
  obtain ⟨fuel, hf⟩ := h0
  rcases Go.Deep.open_bools Tryd.underlying45 Tryd.underlying4 (by kernel_rfl) hf with ⟨hcs, _⟩ | ⟨x, l, c, B, hcs, _, hl, hm, _, hcell⟩
  · simp [Value.cells] at hcs
    obtain ⟨rfl, rfl, rfl⟩ := hcs
    exact ⟨fun _ => false, ⟨fun k hk => absurd hk (Nat.not_lt_zero _), fun _ _ => rfl⟩, Nat.zero_le _⟩
  · simp [Value.cells] at hcs
    obtain ⟨rfl, rfl, rfl⟩ := hcs
    refine ⟨fun k => decide (k < len) && B k, ⟨fun k hk => ?_, fun k hk => ?_⟩, by omega⟩
    · obtain ⟨b, off, hx, hb⟩ := plain_addr (hcell 0 (by omega))
      have hx2 : x = ⟨b, off, none⟩ := by
        have e : x.add 0 = x := by unfold Addr.add; simp
        rw [← e, hx]
      subst hx2
      have h1 := hcell k (by omega)
      rw [add_off] at h1
      refine ⟨b, off, rfl, ?_⟩
      rw [h1]
      simp [hk]
    · simp only [Bool.and_eq_false_iff, decide_eq_false_iff_not]
      exact .inl (by omega)
end Go.Proofs.YtifheakepegjcaaDoor
