/-
  PROVED HERE: an entry that came in.
-/
import Derived.Test.YtkchebbolldmbaaGreatDoorLift
import Derived.Lib.SmallJoins
import Derived.ChangeArms
import Derived.Deep.Slices
import Derived.Deep.Strs
set_option linter.unusedVariables false
namespace Go.Proofs.YtkchebbolldmbaaGreatDoor
open Go.ChangeShapes Go.WideShapes Go.ChangeAt Go.RowKit Go.Deep
instance : Inhabited To3 := ⟨⟨[], [], 0⟩⟩
theorem cells9 : Tryz.prog.cellsOf 9 = 1 := by kernel_rfl
theorem cells3 : Tryz.prog.cellsOf 3 = 1 := by kernel_rfl
theorem list3 {α : Type} {l : List α} (h : l.length = 3) : ∃ a b c, l = [a, b, c] := by
  match l, h with
  | [a, b, c], _ => exact ⟨a, b, c, rfl⟩
theorem cells22 : Tryz.prog.cellsOf 22 = 1 := by kernel_rfl
theorem cells29 : Tryz.prog.cellsOf 29 = 2 := by kernel_rfl
theorem cells30 : Tryz.prog.cellsOf 30 = 1 := by kernel_rfl
theorem cells46 : Tryz.prog.cellsOf 46 = 3 := by kernel_rfl
theorem cells32 : Tryz.prog.cellsOf 32 = 10 := by kernel_rfl
section
variable {H : Type} {enc : TypeId × Value → H} {W : World} {base : Nat} {spare : Nat → Bool} {held : Bool} {n : Nat} {cs : List Value} {y : DataW H × List MemPlace}
theorem box_cells {v0 v1 : Value} (h : DataW.trod enc Tryz.prog W base spare held n 29 [v0, v1] = some y) : ∃ a b : List UInt8, v0 = .string ⟨a.toArray⟩ ∧ v1 = .string ⟨b.toArray⟩ := by
  obtain ⟨y0, y1, k, _, _, h0, h1⟩ := trod_struct2 Tryz.underlying29 h
  dsimp only at h0 h1
  rw [cells9] at h0 h1
  simp only [List.drop_zero, List.drop_succ_cons, List.take_succ_cons, List.take_zero] at h0 h1
  obtain ⟨s, f0, _, _⟩ := DataW.trod_string Tryz.underlying9 h0
  obtain ⟨t, f1, _, _⟩ := DataW.trod_string Tryz.underlying9 h1
  simp only [List.cons.injEq, and_true] at f0 f1
  refine ⟨s.data.toList, t.data.toList, ?_, ?_⟩
  · rw [f0, Lib.mk_data]
  · rw [f1, Lib.mk_data]
theorem to_cells (h : DataW.trod enc Tryz.prog W base spare held n 46 cs = some y) : ∃ q : To3, cs = [.string ⟨q.lo.toArray⟩, .string ⟨q.dm.toArray⟩, .int .i64 q.st] := by
  obtain ⟨y0, y1, k, _, hlen, h0, h1⟩ := trod_struct2 Tryz.underlying46 h
  rw [cells46] at hlen
  obtain ⟨v0, v1, v2, rfl⟩ := list3 hlen
  dsimp only at h0 h1
  rw [cells29] at h0
  rw [cells3] at h1
  simp only [List.drop_zero, List.drop_succ_cons, List.take_succ_cons, List.take_zero] at h0 h1
  obtain ⟨a, b, rfl, rfl⟩ := box_cells h0
  obtain ⟨c, f1, _, _⟩ := DataW.trod_int Tryz.underlying3 h1
  simp only [List.cons.injEq, and_true] at f1
  subst f1
  exact ⟨⟨a, b, c⟩, rfl⟩
theorem tos_in {v : Value} (h : DataW.trod enc Tryz.prog W base spare held n 30 [v] = some y) : ∃ (A : Option Addr) (len cap : Nat) (g : Nat → To3), v = .slice A len cap ∧ Tos W A len g := by
  rcases open_slice Tryz.underlying30 h with ⟨hcs, _⟩ | ⟨x, l, c, mm, k, D, Pl, hcs, _, hl, hm, hmm, hx, hel⟩
  · simp only [List.cons.injEq, and_true] at hcs
    exact ⟨none, 0, 0, fun _ => ⟨[], [], 0⟩, hcs, fun k hk => absurd hk (Nat.not_lt_zero _)⟩
  · simp only [List.cons.injEq, and_true] at hcs
    subst hcs
    have hlm : l ≤ mm := by rw [hmm]; split <;> omega
    have each : ∀ i, i < l → ∃ q : To3, (W.cell? (x.add (i * 3)) = some (.string ⟨q.lo.toArray⟩) ∧ W.cell? (x.add (i * 3 + 1)) = some (.string ⟨q.dm.toArray⟩)) ∧ W.cell? (x.add (i * 3 + 2)) = some (.int .i64 q.st) := fun i hi => by
      obtain ⟨cs', h1, h2⟩ := hel i (by omega)
      rw [cells46] at h1
      obtain ⟨q, rfl⟩ := to_cells h2
      obtain ⟨_, _, hcell⟩ := World.cells?_some h1
      have e0 := hcell 0 (by simp)
      have e1 := hcell 1 (by simp)
      have e2 := hcell 2 (by simp)
      rw [add_add] at e0 e1 e2
      exact ⟨q, ⟨e0, e1⟩, e2⟩
    obtain ⟨f, hf2⟩ := choose_lt each
    refine ⟨some x, l, c, f, rfl, fun k hk => ?_⟩
    obtain ⟨⟨c0, c1⟩, c2⟩ := hf2 k hk
    obtain ⟨⟨z0, _⟩, _⟩ := hf2 0 (by omega)
    obtain ⟨b, off, hx2, hb2⟩ := plain_addr z0
    have hx3 : x = ⟨b, off, none⟩ := by
      have e : x.add (0 * 3) = x := by unfold Addr.add; simp
      rw [← e, hx2]
    subst hx3
    rw [Go.Proofs.YtkchebbolldmbaaGreatDoor.add_off] at c0 c1 c2
    exact ⟨b, off, rfl, ⟨c0, c1⟩, c2⟩
theorem list10 {α : Type} {l : List α} (h : l.length = 10) : ∃ a0 a1 a2 a3 a4 a5 a6 a7 a8 a9, l = [a0, a1, a2, a3, a4, a5, a6, a7, a8, a9] := by
  match l, h with
  | [a0, a1, a2, a3, a4, a5, a6, a7, a8, a9], _ => exact ⟨a0, a1, a2, a3, a4, a5, a6, a7, a8, a9, rfl⟩
theorem list9 {α : Type} {l : List α} (h : l.length = 9) : ∃ a0 a1 a2 a3 a4 a5 a6 a7 a8, l = [a0, a1, a2, a3, a4, a5, a6, a7, a8] := by
  match l, h with
  | [a0, a1, a2, a3, a4, a5, a6, a7, a8], _ => exact ⟨a0, a1, a2, a3, a4, a5, a6, a7, a8, rfl⟩
theorem entry_cells (h : DataW.trod enc Tryz.prog W base spare held n 32 cs = some y) : ∃ (x : En) (g : Nat → To3), cs = (enA x).toList ∧ Tos W x.A x.n g := by
  obtain ⟨xs, k, _, _, hl, hlen, hf⟩ := DataW.trod_struct Tryz.underlying32 h
  rw [cells32] at hl
  obtain ⟨v0, v1, v2, v3, v4, v5, v6, v7, v8, v9, rfl⟩ := list10 hl
  obtain ⟨y0, y1, y2, y3, y4, y5, y6, y7, y8, rfl⟩ := list9 hlen
  have h0 := hf 0 (Field.mk "Id" 22 0 false "" "" 0) rfl
  have h1 := hf 1 (Field.mk "Domain" 9 1 false "" "" 8) rfl
  have h2 := hf 2 (Field.mk "Epoch" 22 2 false "" "" 24) rfl
  have h3 := hf 3 (Field.mk "Count" 22 3 false "" "" 32) rfl
  have h4 := hf 4 (Field.mk "From" 29 4 false "" "" 40) rfl
  have h5 := hf 5 (Field.mk "To" 30 6 false "" "" 72) rfl
  have h6 := hf 6 (Field.mk "Born" 22 7 false "" "" 96) rfl
  have h7 := hf 7 (Field.mk "Next" 22 8 false "" "" 104) rfl
  have h8 := hf 8 (Field.mk "Tries" 3 9 false "" "" 112) rfl
  try dsimp only at h0 h1 h2 h3 h4 h5 h6 h7 h8
  rw [cells22] at h0 h2 h3 h6 h7
  rw [cells9] at h1
  rw [cells29] at h4
  rw [cells30] at h5
  rw [cells3] at h8
  simp only [List.drop_zero, List.drop_succ_cons, List.take_succ_cons, List.take_zero, List.getElem?_cons_zero, List.getElem?_cons_succ] at h0 h1 h2 h3 h4 h5 h6 h7 h8
  obtain ⟨n0, f0, _, _⟩ := DataW.trod_int Tryz.underlying22 h0
  obtain ⟨s1, f1, _, _⟩ := DataW.trod_string Tryz.underlying9 h1
  obtain ⟨n2, f2, _, _⟩ := DataW.trod_int Tryz.underlying22 h2
  obtain ⟨n3, f3, _, _⟩ := DataW.trod_int Tryz.underlying22 h3
  obtain ⟨a4, b4, rfl, rfl⟩ := box_cells h4
  obtain ⟨A, len, cap, g, rfl, hT⟩ := tos_in h5
  obtain ⟨n6, f6, _, _⟩ := DataW.trod_int Tryz.underlying22 h6
  obtain ⟨n7, f7, _, _⟩ := DataW.trod_int Tryz.underlying22 h7
  obtain ⟨n8, f8, _, _⟩ := DataW.trod_int Tryz.underlying3 h8
  simp only [List.cons.injEq, and_true] at f0 f1 f2 f3 f6 f7 f8
  subst f0 f1 f2 f3 f6 f7 f8
  refine ⟨⟨n0, s1.data.toList, n2, n3, a4, b4, A, len, cap, n6, n7, n8⟩, g, ?_, hT⟩
  show _ = [_, Value.string ⟨s1.data.toList.toArray⟩, _, _, _, _, _, _, _, _]
  rw [Lib.mk_data]
end
set_option maxRecDepth 100000 in
theorem entry_in {H : Type} {enc : TypeId × Value → H} {W : World} {base b0 : Nat} {spare : Nat → Bool} {held : Bool} {r : Reach} {v : Value} {d : DataW H} {p : List MemPlace} (hv : Value.okWide Tryz.prog W r b0 32 v) (h : DataW.Trod enc Tryz.prog W base spare held 32 v d p) :
    ∃ (x : En) (g : Nat → To3), v = .agg (enA x) ∧ Tos W x.A x.n g := by
  obtain ⟨cs, rfl, hsz⟩ := okWide_struct Tryz.underlying32 hv
  obtain ⟨fuel, hf⟩ := h
  obtain ⟨x, g, hx, hT⟩ := entry_cells hf
  have e : cs = enA x := Array.toList_inj.1 hx
  exact ⟨x, g, congrArg Value.agg e, hT⟩
end Go.Proofs.YtkchebbolldmbaaGreatDoor
