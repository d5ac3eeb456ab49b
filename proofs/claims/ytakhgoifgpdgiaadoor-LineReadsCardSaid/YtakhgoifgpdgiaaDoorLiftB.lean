/-
  PROVED HERE: a slice of bytes that came in.
-/
import Derived.Test.YtakhgoifgpdgiaaDoorLift
import Derived.Test.YtakhgoifgpdgiaaDoorReadsW
set_option linter.unusedVariables false
namespace Go.Proofs.YtakhgoifgpdgiaaDoor
open Go.ChangeShapes Go.WideShapes Go.ChangeAt Go.RowKit

theorem ints_in_u8 {H : Type} {enc : TypeId × Value → H} {W : World} {a : Option Addr} {len cap : Nat} {d : DataW H} {p : List MemPlace}
    (h0 : ∃ fuel, DataW.trod enc Tryd.prog W 0 (fun _ => true) true fuel 34 (Value.slice a len cap).cells.toList = some (d, p)) : ∃ zs, IsBytes W a len zs := by
  obtain ⟨fuel, hf⟩ := h0
  rcases open_ints Tryd.underlying34 Tryd.underlying5 (by kernel_rfl) hf with ⟨hcs, _⟩ | ⟨x, l, c, zs, hcs, _, hl, hm, hz, _, hcell, hwz⟩
  · simp [Value.cells] at hcs
    obtain ⟨rfl, rfl, rfl⟩ := hcs
    exact ⟨[], fun k hk => absurd hk (Nat.not_lt_zero _)⟩
  · simp [Value.cells] at hcs
    obtain ⟨rfl, rfl, rfl⟩ := hcs
    have hz2 : zs.length = cap := by simpa using hz
    refine ⟨zs, fun k hk => ?_⟩
    obtain ⟨b, off, hx, hb⟩ := plain_addr (hcell 0 (by omega))
    have hx2 : x = ⟨b, off, none⟩ := by
      have e : x.add 0 = x := by unfold Addr.add; simp
      rw [← e, hx]
    subst hx2
    have h1 := hcell k (by omega)
    rw [add_off] at h1
    have h2 := hwz (zs.getD k 0) (by rw [List.getD_eq_getElem?_getD, List.getElem?_eq_getElem (by omega)]; exact List.getElem_mem _)
    have h3 : 0 ≤ zs.getD k 0 ∧ zs.getD k 0 ≤ 255 := by simpa [Lit.wf, IntKind.min, IntKind.max, IntKind.signed, IntKind.bits] using h2
    exact ⟨b, off, rfl, h1, h3.1, by omega⟩
end Go.Proofs.YtakhgoifgpdgiaaDoor
