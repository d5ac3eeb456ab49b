/-
  PROVED HERE: a mailbox that came in, opened and shut.
-/
import Derived.Test.YtifheakepegjcaaDoorLift
import Derived.Test.YtifheakepegjcaaDoorWritesW
import Derived.Lib.SmallJoins
import Derived.ChangeArms
import Derived.Deep.Slices
set_option linter.unusedVariables false
namespace Go.Proofs.YtifheakepegjcaaDoor
open Go.ChangeShapes Go.WideShapes Go.ChangeAt Go.RowKit
section
variable {H : Type} {enc : TypeId × Value → H} {w : World} {base : Nat} {spare : Nat → Bool} {held : Bool}
theorem open_box {r : Reach} {b0 : Nat} {v : Value} {d : DataW H} {p : List MemPlace} (hv : Value.okWide Tryd.prog w r b0 25 v) (h : DataW.Trod enc Tryd.prog w base spare held 25 v d p) :
    ∃ a b : ByteArray, v = .agg #[.string a, .string b] ∧ d = .agg [.lit (.string a.data.toList), .lit (.string b.data.toList)] ∧ p = [] ∧ a.size ≤ maxLen ∧ b.size ≤ maxLen := by
  obtain ⟨v0, v1, y0, y1, n, rfl, rfl, rfl, h0, h1⟩ := Joins.open_agg2 Tryd.underlying25 (by kernel_rfl) (by kernel_rfl) hv h
  obtain ⟨a, ha, rfl, hza⟩ := DataW.trod_string Tryd.underlying9 h0
  obtain ⟨b, hb, rfl, hzb⟩ := DataW.trod_string Tryd.underlying9 h1
  simp only [List.cons.injEq, and_true] at ha hb
  subst ha hb
  exact ⟨a, b, rfl, rfl, rfl, hza, hzb⟩
theorem shut_box {a b : ByteArray} (ha : a.size ≤ maxLen) (hb : b.size ≤ maxLen) :
    DataW.Trod enc Tryd.prog w base spare held 25 (.agg #[.string a, .string b]) (.agg [.lit (.string a.data.toList), .lit (.string b.data.toList)]) [] :=
  Joins.shut_agg2 (y0 := (.lit (.string a.data.toList), [])) (y1 := (.lit (.string b.data.toList), [])) Tryd.underlying25 (by kernel_rfl) (by kernel_rfl) (Go.Deep.shut_string_cell Tryd.underlying9 ha) (Go.Deep.shut_string_cell Tryd.underlying9 hb)
end
theorem addrWrites_any (m : Int) (l d : List UInt8) (w : World) (hm : w.cell? ⟨0, 0, none⟩ = some (.int .i64 m)) (hl : l.length ≤ maxLen) (hd : d.length ≤ maxLen) :
    Calls Tryd.prog 5 #[.agg #[.string ⟨l.toArray⟩, .string ⟨d.toArray⟩]] w fun e w' => e = .returned (.bool true) ∧ Below w.heap.size w w' := writes_any l d m w hl hd hm
end Go.Proofs.YtifheakepegjcaaDoor
