/-
  No cell of these rows narrows 'for every input' (looked for: loops, veiled, ifaces, maps, wideKeys, modest, calm, conditions, laid).
  DERIVED. THE GIVEN ROWS OF THIS SEAT. 7 by the template 'for every input the law returns true; each argument reads behind the call as it read before'; 0 by the template 'total and deterministic' (their statements: YtpfcdpmpfgdnaaaTotals.lean).
  GIVEN WITH THE SEED: the statements are not yours to turn. If you find one false, say at which input.
  Laid BY PROGRAM, IN A SANDBOX (cutbox-rows.mjs): the forced cells as the released guide's own fill.sh prints them over the translation ea693e473381c90d… (all of the seat's roots in one cut). By AI agents, Wed Nov 11 2026. No macro, syntax, notation, axiom, sorry.
-/
import Derived.Test.YtpfcdpmpfgdnaaaChecked
import GoSem.Claim
import GoSem.ClaimJoined
import GoSem.ClaimMapViews
import Derived.JoinedTies
import Derived.KernelRfl
namespace Go.Proofs.Ytpfcdpmpfgdnaaa
/- THE CELL 'sum', in the pinned program and in every row, IS THE sha256 OF THE DUMP (.gsa) THAT YtpfcdpmpfgdnaaaProg.lean LOADS. Nothing in Lean hashes anything: it is a label: what it is worth is what the hold of that sum in a sandbox is worth. -/
noncomputable def Try.pinned : Pinned := { name := "ytpfcdpmpfgdnaaa", sum := "ea693e473381c90dda61df44f275f0ecea7bd3a3ef3de2f4dab2653c6aa878ed", checked := Try.checked }
namespace Rows
def none {H : Type} : Left H := { results := [], args := [] }

/-- 'posthornlaw17.WeighTells': WHATEVER THE INPUT: true; the input reads as it did. -/
def weighTellsSpec : ChangeSpec := { name := "weighTells", fn := fun _ => fun
  | [d1, d2, d3] => { results := [.lit (.bool true)], args := [d1, d2, d3] }
  | _ => none }
def weighTellsRow : OpenClaim := { program := "ytpfcdpmpfgdnaaa", sum := "ea693e473381c90dda61df44f275f0ecea7bd3a3ef3de2f4dab2653c6aa878ed", func := "posthorn/posthornlaw17.WeighTells", spec := "weighTells", inPlace := ["math.Float64frombits", "math.Float64bits", "math.archTrunc"], unfollowed := true, recurses := true, apart := false }
def WeighTellsSaid : Prop := weighTellsRow.holds Try.pinned (OpenSpec.ofChange weighTellsSpec)

/-- ITS FALSE NEIGHBOUR: 'it returns false'. Refute it at one input. -/
def weighTellsWrong : ChangeSpec := { name := "weighTells", fn := fun _ => fun
  | [d1, d2, d3] => { results := [.lit (.bool false)], args := [d1, d2, d3] }
  | _ => none }
def WeighTellsWrongFalsely : Prop := weighTellsRow.holds Try.pinned (OpenSpec.ofChange weighTellsWrong)

/-- 'posthornlaw17.WeighWhole': WHATEVER THE INPUT: true; the input reads as it did. -/
def weighWholeSpec : ChangeSpec := { name := "weighWhole", fn := fun _ => fun
  | [d1, d2] => { results := [.lit (.bool true)], args := [d1, d2] }
  | _ => none }
def weighWholeRow : OpenClaim := { program := "ytpfcdpmpfgdnaaa", sum := "ea693e473381c90dda61df44f275f0ecea7bd3a3ef3de2f4dab2653c6aa878ed", func := "posthorn/posthornlaw17.WeighWhole", spec := "weighWhole", inPlace := ["math.Float64frombits", "math.Float64bits", "math.archTrunc"], unfollowed := true, recurses := true, apart := false }
def WeighWholeSaid : Prop := weighWholeRow.holds Try.pinned (OpenSpec.ofChange weighWholeSpec)

/-- ITS FALSE NEIGHBOUR: 'it returns false'. Refute it at one input. -/
def weighWholeWrong : ChangeSpec := { name := "weighWhole", fn := fun _ => fun
  | [d1, d2] => { results := [.lit (.bool false)], args := [d1, d2] }
  | _ => none }
def WeighWholeWrongFalsely : Prop := weighWholeRow.holds Try.pinned (OpenSpec.ofChange weighWholeWrong)

/-- 'posthornlaw17.WeighOrders': WHATEVER THE INPUT: true; the input reads as it did. -/
def weighOrdersSpec : ChangeSpec := { name := "weighOrders", fn := fun _ => fun
  | [d] => { results := [.lit (.bool true)], args := [d] }
  | _ => none }
def weighOrdersRow : OpenClaim := { program := "ytpfcdpmpfgdnaaa", sum := "ea693e473381c90dda61df44f275f0ecea7bd3a3ef3de2f4dab2653c6aa878ed", func := "posthorn/posthornlaw17.WeighOrders", spec := "weighOrders", inPlace := ["math.Float64frombits", "math.Float64bits", "math.archTrunc"], unfollowed := true, recurses := true, apart := false }
def WeighOrdersSaid : Prop := weighOrdersRow.holds Try.pinned (OpenSpec.ofChange weighOrdersSpec)

/-- ITS FALSE NEIGHBOUR: 'it returns false'. Refute it at one input. -/
def weighOrdersWrong : ChangeSpec := { name := "weighOrders", fn := fun _ => fun
  | [d] => { results := [.lit (.bool false)], args := [d] }
  | _ => none }
def WeighOrdersWrongFalsely : Prop := weighOrdersRow.holds Try.pinned (OpenSpec.ofChange weighOrdersWrong)

/-- 'posthornlaw17.WeighOne': WHATEVER THE INPUT: true; the input reads as it did. -/
def weighOneSpec : ChangeSpec := { name := "weighOne", fn := fun _ => fun
  | [d1, d2, d3] => { results := [.lit (.bool true)], args := [d1, d2, d3] }
  | _ => none }
def weighOneRow : OpenClaim := { program := "ytpfcdpmpfgdnaaa", sum := "ea693e473381c90dda61df44f275f0ecea7bd3a3ef3de2f4dab2653c6aa878ed", func := "posthorn/posthornlaw17.WeighOne", spec := "weighOne", inPlace := ["math.Float64frombits", "math.Float64bits", "math.archTrunc"], unfollowed := true, recurses := true, apart := false }
def WeighOneSaid : Prop := weighOneRow.holds Try.pinned (OpenSpec.ofChange weighOneSpec)

/-- ITS FALSE NEIGHBOUR: 'it returns false'. Refute it at one input. -/
def weighOneWrong : ChangeSpec := { name := "weighOne", fn := fun _ => fun
  | [d1, d2, d3] => { results := [.lit (.bool false)], args := [d1, d2, d3] }
  | _ => none }
def WeighOneWrongFalsely : Prop := weighOneRow.holds Try.pinned (OpenSpec.ofChange weighOneWrong)

/-- 'posthornlaw17.WeighSorted': WHATEVER THE INPUT: true; the input reads as it did. -/
def weighSortedSpec : ChangeSpec := { name := "weighSorted", fn := fun _ => fun
  | [d] => { results := [.lit (.bool true)], args := [d] }
  | _ => none }
def weighSortedRow : OpenClaim := { program := "ytpfcdpmpfgdnaaa", sum := "ea693e473381c90dda61df44f275f0ecea7bd3a3ef3de2f4dab2653c6aa878ed", func := "posthorn/posthornlaw17.WeighSorted", spec := "weighSorted", inPlace := ["math.Float64frombits", "math.Float64bits", "math.archTrunc"], unfollowed := true, recurses := true, apart := false }
def WeighSortedSaid : Prop := weighSortedRow.holds Try.pinned (OpenSpec.ofChange weighSortedSpec)

/-- ITS FALSE NEIGHBOUR: 'it returns false'. Refute it at one input. -/
def weighSortedWrong : ChangeSpec := { name := "weighSorted", fn := fun _ => fun
  | [d] => { results := [.lit (.bool false)], args := [d] }
  | _ => none }
def WeighSortedWrongFalsely : Prop := weighSortedRow.holds Try.pinned (OpenSpec.ofChange weighSortedWrong)

/-- 'posthornlaw17.WeighTurns': WHATEVER THE INPUT: true; the input reads as it did. -/
def weighTurnsSpec : ChangeSpec := { name := "weighTurns", fn := fun _ => fun
  | [d1, d2] => { results := [.lit (.bool true)], args := [d1, d2] }
  | _ => none }
def weighTurnsRow : OpenClaim := { program := "ytpfcdpmpfgdnaaa", sum := "ea693e473381c90dda61df44f275f0ecea7bd3a3ef3de2f4dab2653c6aa878ed", func := "posthorn/posthornlaw17.WeighTurns", spec := "weighTurns", inPlace := ["math.Float64frombits", "math.Float64bits", "math.archTrunc"], unfollowed := true, recurses := true, apart := false }
def WeighTurnsSaid : Prop := weighTurnsRow.holds Try.pinned (OpenSpec.ofChange weighTurnsSpec)

/-- ITS FALSE NEIGHBOUR: 'it returns false'. Refute it at one input. -/
def weighTurnsWrong : ChangeSpec := { name := "weighTurns", fn := fun _ => fun
  | [d1, d2] => { results := [.lit (.bool false)], args := [d1, d2] }
  | _ => none }
def WeighTurnsWrongFalsely : Prop := weighTurnsRow.holds Try.pinned (OpenSpec.ofChange weighTurnsWrong)

/-- 'posthornlaw17.WeighBack': WHATEVER THE INPUT: true; the input reads as it did. -/
def weighBackSpec : ChangeSpec := { name := "weighBack", fn := fun _ => fun
  | [d1, d2, d3] => { results := [.lit (.bool true)], args := [d1, d2, d3] }
  | _ => none }
def weighBackRow : OpenClaim := { program := "ytpfcdpmpfgdnaaa", sum := "ea693e473381c90dda61df44f275f0ecea7bd3a3ef3de2f4dab2653c6aa878ed", func := "posthorn/posthornlaw17.WeighBack", spec := "weighBack", inPlace := ["math.Float64frombits", "math.Float64bits", "math.archTrunc"], unfollowed := true, recurses := true, apart := false }
def WeighBackSaid : Prop := weighBackRow.holds Try.pinned (OpenSpec.ofChange weighBackSpec)

/-- ITS FALSE NEIGHBOUR: 'it returns false'. Refute it at one input. -/
def weighBackWrong : ChangeSpec := { name := "weighBack", fn := fun _ => fun
  | [d1, d2, d3] => { results := [.lit (.bool false)], args := [d1, d2, d3] }
  | _ => none }
def WeighBackWrongFalsely : Prop := weighBackRow.holds Try.pinned (OpenSpec.ofChange weighBackWrong)

/- THE SECOND FORM. 'bulk': how many values and letters a reading holds, each counted each time it is reached (what is shared counts as often as it is met; a slice's spare places count too). A statement '..UptoSaid' is the law's where the arguments, and the package variables that the reading takes, are together of bulk at most 1048576: NARROWER than '..Said'. Prove '..Said' where nothing that the law and all that it calls make is longer than what came in: it says more and counts as full. Else prove '..UptoSaid'. A law counts once. -/
mutual
def uptoBulk {H : Type} : DataW H → Nat
  | .lit (.string bytes) => bytes.length + 1
  | .lit _ => 1
  | .nil => 1
  | .ptr d => uptoBulk d + 1
  | .slice elems spare => uptoBulkAll elems + uptoBulkAll spare + 1
  | .agg parts => uptoBulkAll parts + 1
  | .iface _ d => uptoBulk d + 1
  | .map entries => uptoBulkEntries entries + 1
  | .held _ => 1
def uptoBulkAll {H : Type} : List (DataW H) → Nat
  | [] => 0
  | d :: r => uptoBulk d + uptoBulkAll r
def uptoBulkEntries {H : Type} : List (Lit × DataW H) → Nat
  | [] => 0
  | x :: r => uptoBulkEntry x + uptoBulkEntries r
def uptoBulkEntry {H : Type} : Lit × DataW H → Nat
  | (.string bytes, d) => bytes.length + uptoBulk d + 1
  | (_, d) => uptoBulk d + 1
 end
def uptoSmall : (H : Type) → List (DataW H) → Bool := fun _ ds => decide (uptoBulkAll ds ≤ 1048576)
def OpenSpec.upto (s : _root_.Go.ChangeSpec) : _root_.Go.OpenSpec := { _root_.Go.OpenSpec.ofChange s with cond := some uptoSmall }

/-- 'posthornlaw17.WeighTells', WHERE WHAT IT READS IS OF BULK AT MOST 1048576: true; the input reads as it did. -/
def weighTellsUptoRow : OpenClaim := { program := "ytpfcdpmpfgdnaaa", sum := "ea693e473381c90dda61df44f275f0ecea7bd3a3ef3de2f4dab2653c6aa878ed", func := "posthorn/posthornlaw17.WeighTells", spec := "weighTells", inPlace := ["math.Float64frombits", "math.Float64bits", "math.archTrunc"], unfollowed := true, recurses := true, apart := false, narrowed := true }
def WeighTellsUptoSaid : Prop := weighTellsUptoRow.holds Try.pinned (OpenSpec.upto weighTellsSpec)

/-- 'posthornlaw17.WeighWhole', WHERE WHAT IT READS IS OF BULK AT MOST 1048576: true; the input reads as it did. -/
def weighWholeUptoRow : OpenClaim := { program := "ytpfcdpmpfgdnaaa", sum := "ea693e473381c90dda61df44f275f0ecea7bd3a3ef3de2f4dab2653c6aa878ed", func := "posthorn/posthornlaw17.WeighWhole", spec := "weighWhole", inPlace := ["math.Float64frombits", "math.Float64bits", "math.archTrunc"], unfollowed := true, recurses := true, apart := false, narrowed := true }
def WeighWholeUptoSaid : Prop := weighWholeUptoRow.holds Try.pinned (OpenSpec.upto weighWholeSpec)

/-- 'posthornlaw17.WeighOrders', WHERE WHAT IT READS IS OF BULK AT MOST 1048576: true; the input reads as it did. -/
def weighOrdersUptoRow : OpenClaim := { program := "ytpfcdpmpfgdnaaa", sum := "ea693e473381c90dda61df44f275f0ecea7bd3a3ef3de2f4dab2653c6aa878ed", func := "posthorn/posthornlaw17.WeighOrders", spec := "weighOrders", inPlace := ["math.Float64frombits", "math.Float64bits", "math.archTrunc"], unfollowed := true, recurses := true, apart := false, narrowed := true }
def WeighOrdersUptoSaid : Prop := weighOrdersUptoRow.holds Try.pinned (OpenSpec.upto weighOrdersSpec)

/-- 'posthornlaw17.WeighOne', WHERE WHAT IT READS IS OF BULK AT MOST 1048576: true; the input reads as it did. -/
def weighOneUptoRow : OpenClaim := { program := "ytpfcdpmpfgdnaaa", sum := "ea693e473381c90dda61df44f275f0ecea7bd3a3ef3de2f4dab2653c6aa878ed", func := "posthorn/posthornlaw17.WeighOne", spec := "weighOne", inPlace := ["math.Float64frombits", "math.Float64bits", "math.archTrunc"], unfollowed := true, recurses := true, apart := false, narrowed := true }
def WeighOneUptoSaid : Prop := weighOneUptoRow.holds Try.pinned (OpenSpec.upto weighOneSpec)

/-- 'posthornlaw17.WeighSorted', WHERE WHAT IT READS IS OF BULK AT MOST 1048576: true; the input reads as it did. -/
def weighSortedUptoRow : OpenClaim := { program := "ytpfcdpmpfgdnaaa", sum := "ea693e473381c90dda61df44f275f0ecea7bd3a3ef3de2f4dab2653c6aa878ed", func := "posthorn/posthornlaw17.WeighSorted", spec := "weighSorted", inPlace := ["math.Float64frombits", "math.Float64bits", "math.archTrunc"], unfollowed := true, recurses := true, apart := false, narrowed := true }
def WeighSortedUptoSaid : Prop := weighSortedUptoRow.holds Try.pinned (OpenSpec.upto weighSortedSpec)

/-- 'posthornlaw17.WeighTurns', WHERE WHAT IT READS IS OF BULK AT MOST 1048576: true; the input reads as it did. -/
def weighTurnsUptoRow : OpenClaim := { program := "ytpfcdpmpfgdnaaa", sum := "ea693e473381c90dda61df44f275f0ecea7bd3a3ef3de2f4dab2653c6aa878ed", func := "posthorn/posthornlaw17.WeighTurns", spec := "weighTurns", inPlace := ["math.Float64frombits", "math.Float64bits", "math.archTrunc"], unfollowed := true, recurses := true, apart := false, narrowed := true }
def WeighTurnsUptoSaid : Prop := weighTurnsUptoRow.holds Try.pinned (OpenSpec.upto weighTurnsSpec)

/-- 'posthornlaw17.WeighBack', WHERE WHAT IT READS IS OF BULK AT MOST 1048576: true; the input reads as it did. -/
def weighBackUptoRow : OpenClaim := { program := "ytpfcdpmpfgdnaaa", sum := "ea693e473381c90dda61df44f275f0ecea7bd3a3ef3de2f4dab2653c6aa878ed", func := "posthorn/posthornlaw17.WeighBack", spec := "weighBack", inPlace := ["math.Float64frombits", "math.Float64bits", "math.archTrunc"], unfollowed := true, recurses := true, apart := false, narrowed := true }
def WeighBackUptoSaid : Prop := weighBackUptoRow.holds Try.pinned (OpenSpec.upto weighBackSpec)

end Rows
end Go.Proofs.Ytpfcdpmpfgdnaaa
