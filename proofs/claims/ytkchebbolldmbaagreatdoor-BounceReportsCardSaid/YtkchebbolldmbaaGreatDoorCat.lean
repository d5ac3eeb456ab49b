/-
  PROVED HERE: what the program's Read does with a panic of its reader: the deferred closure's two contracts.
-/
import Derived.Test.YtkchebbolldmbaaGreatDoorRdP
import Derived.Tactics
import Derived.Tactics2
import Derived.Defers
import Derived.Recover
import Derived.Laws.Pointers
set_option linter.unusedVariables false
namespace Go.Proofs.YtkchebbolldmbaaGreatDoor
open Go.RowKit
theorem z51 : (Tryz.prog.info? 103).map (·.zero) = some (some (.agg #[])) := by kernel_rfl
theorem ta_no (w : World) : (Instr.typeAssert .nilIface 20 103 true).run Tryz.prog w = .ok (.tuple #[.agg #[], .bool false]) w := by
  obtain ⟨j, hj, hz⟩ := Option.map_eq_some_iff.1 z51
  simp [Instr.typeAssert, run_underlying Tryz.underlying103, zeroValue, typeInfo, hj, hz]
theorem ta_yes (w : World) : (Instr.typeAssert (.iface 103 (.agg #[])) 20 103 true).run Tryz.prog w = .ok (.tuple #[.agg #[], .bool true]) w := by
  simp [Instr.typeAssert, run_underlying Tryz.underlying103]
theorem wpOpsS_ok {P : Program} {ops : Array Oper} {Q : Exit → Act → List Frame → World → Prop} {i : Nat} {rest : List Nat} {a : Act} {cs : List Frame} {w w' : World} {o : Oper} {v : Value}
    (ho : ops[i]? = some o) (hg : o.guard = none) (hx : (execOp a.eval o).run P w = .ok (.value v) w') (h : wpOpsS P ops Q rest (a.put o.dst v) cs w') : wpOpsS P ops Q (i :: rest) a cs w := by
  simp only [wpOpsS, ho, Region.wanted, hg, hx]
  simpa [Oper.upon] using h
set_option maxRecDepth 100000 in
set_option maxHeartbeats 400000 in
theorem catch_no (A B C : Nat) (w : World) :
    CallsD Tryz.prog 84 #[.pointer (some ⟨A, 0, none⟩), .pointer (some ⟨B, 0, none⟩), .pointer (some ⟨C, 0, none⟩)] .returning w fun e u' w' =>
      e = .returned (.tuple #[]) ∧ u' = .returning ∧ w.alloc (.cells #[] 103) = w' := by
  refine callsD_of_wpS Tryz.func84 rfl fun c₀ cs hu => ?_
  apply wpS_seq
  apply wpS_region
  simp [wpOpsS, go_sem, recoverD, hu, ta_no, Tryz.ntmps84, Exit.thenS]
  apply wpS_seq
  apply wpS_region
  simp [wpOpsS, go_sem, Exit.thenS]
  refine wpS_cond (t := false) (by simp [Act.eval, Array.replicate]) ?_
  simp only [Bool.false_eq_true, if_false]
  refine wpS_of_wp (wp_skip ?_)
  cases c₀
  simp_all [bodyPostS, results, Tryz.results84]
set_option maxRecDepth 100000 in
set_option maxHeartbeats 400000 in
theorem catch_yes (n : Nat) (w W : World) (older : List PanicEntry) (hW : W = w.alloc (.cells #[] 103)) (x y z : Value) (i : Int)
    (cA : W.cell? ⟨n, 0, none⟩ = some x) (cA1 : W.cell? ⟨n, 1, none⟩ = some y) (cB : W.cell? ⟨n + 1, 0, none⟩ = some z) (cC : W.cell? ⟨n + 2, 0, none⟩ = some (.int .i64 i))
    (fA : W.frozen? ⟨n, 0, none⟩ = false) (fA1 : W.frozen? ⟨n, 1, none⟩ = false) (fB : W.frozen? ⟨n + 1, 0, none⟩ = false) (fC : W.frozen? ⟨n + 2, 0, none⟩ = false) :
    CallsD Tryz.prog 84 #[.pointer (some ⟨n, 0, none⟩), .pointer (some ⟨n + 1, 0, none⟩), .pointer (some ⟨n + 2, 0, none⟩)] (.panicking ({ v := .iface 103 (.agg #[]), recovered := false } :: older)) w fun e u' w' =>
      e = .returned (.tuple #[]) ∧ u' = .panicking ({ v := .iface 103 (.agg #[]), recovered := true } :: older) ∧ (((W.setCell ⟨n, 0, none⟩ (.string ⟨#[]⟩)).setCell ⟨n, 1, none⟩ (.string ⟨#[]⟩)).setCell ⟨n + 1, 0, none⟩ (.string ⟨#[]⟩)).setCell ⟨n + 2, 0, none⟩ (.int .i64 2) = w' := by
  refine callsD_of_wpS Tryz.func84 rfl fun c₀ cs hu => ?_
  apply wpS_seq
  apply wpS_region
  simp [wpOpsS, go_sem, recoverD, hu, ta_yes, Tryz.ntmps84, Exit.thenS]
  rw [← hW]
  apply wpS_seq
  apply wpS_region
  simp [wpOpsS, go_sem, Exit.thenS]
  refine wpS_cond (t := true) (by simp [Act.eval, Array.replicate]) ?_
  simp only [if_true]
  apply wpS_region
  simp [wpOpsS, go_sem, cA, cA1, cB, cC, fA, fA1, fB, fC, bodyPostS, results, Tryz.results84]
end Go.Proofs.YtkchebbolldmbaaGreatDoor
