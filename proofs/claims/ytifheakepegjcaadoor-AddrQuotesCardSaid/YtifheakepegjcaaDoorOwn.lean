/-
  PROVED HERE: a mailbox of the program's, turned into one of the answer's.
-/
import Derived.Test.YtifheakepegjcaaDoorTellsW
set_option linter.unusedVariables false
namespace Go.Proofs.YtifheakepegjcaaDoor
open Go.RowKit
variable {m : Int} {w W : World} {A : Nat} {x y : List UInt8}
theorem info29 : (Tryd.prog.info? 29).map (·.size) = some 2 := by kernel_rfl
/-- A mailbox handed in: the block that it is laid into. -/
theorem bx_first (hm : w.cell? ⟨0, 0, none⟩ = some (.int .i64 m)) (x y : List UInt8) : Bx m w w.heap.size x y (w.alloc (.cells #[.string ⟨x.toArray⟩, .string ⟨y.toArray⟩] 25)) := bx_new (at_refl hm) x y

set_option maxRecDepth 100000 in
set_option maxHeartbeats 2000000 in
theorem own_any (l d : List UInt8) (w : World) : Calls Tryd.prog 16 #[bxV l d] w fun e w' => e = .returned (bxV l d) ∧ Below w.heap.size w w' := by
  have HB : Hid (Below w.heap.size w ((w.alloc (.cells #[.string ⟨l.toArray⟩, .string ⟨d.toArray⟩] 25)).alloc (.cells #[.string ⟨l.toArray⟩, .string ⟨d.toArray⟩] 29))) := ((Below.refl _ _).alloc (Nat.le_refl _) _).alloc (by simp) _
  obtain ⟨c1, c2⟩ := cell_two w (.string ⟨l.toArray⟩) (.string ⟨d.toArray⟩) 25
  unfold bxV
  go_enter Tryd.func16, Tryd.ntmps16
  go_wp2_with fail
  refine bodyPost_ret (results_cell_row rfl _ _ (w.heap.size + 1) 29 #[.string ⟨l.toArray⟩, .string ⟨d.toArray⟩] (0, 0) _ rfl ?_ Tryd.underlying29 rfl info29) rfl ⟨rfl, HB.out⟩
  show ((w.heap.push _).push _)[w.heap.size + 1]? = _
  rw [Array.getElem?_push]
  simp only [Array.size_push]
  rw [if_pos trivial]
end Go.Proofs.YtifheakepegjcaaDoor
