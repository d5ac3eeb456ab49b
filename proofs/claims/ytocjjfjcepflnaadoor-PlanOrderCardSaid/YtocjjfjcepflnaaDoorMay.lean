/-
  PROVED HERE: small facts on worlds and strings.
-/
import Derived.Test.YtocjjfjcepflnaaDoorDom
import Derived.Deep.RegionHeld3
set_option linter.unusedVariables false
namespace Go.Proofs.YtocjjfjcepflnaaDoor
open Go.RowKit
theorem mixed : Tryd.prog.follows .mixedOrders = true := by kernel_rfl
theorem info5 : (Tryd.prog.info? 5).map (fun i => (i.zero, i.size, i.bytes)) = some (some (.int .u8 0), 1, 1) := by kernel_rfl
theorem cells_one (a : List UInt8) (c : UInt8) : Lib.byteCells a ++ [.int .u8 (c.toNat : Int)] = Lib.byteCells (a ++ [c]) := by
  simp [Lib.byteCells]
theorem mk_append (a b : List UInt8) : (⟨a.toArray⟩ : ByteArray) ++ (⟨b.toArray⟩ : ByteArray) = ⟨(a ++ b).toArray⟩ := by
  apply ByteArray.ext
  simp
theorem str_beq (x y : List UInt8) : ((⟨x.toArray⟩ : ByteArray).toList == (⟨y.toArray⟩ : ByteArray).toList) = (x == y) := by
  rw [ByteArray.toList_eq, ByteArray.toList_eq]
/-- What a walk's world keeps. -/
structure At (m : Int) (w w' : World) : Prop where
  below : Below w.heap.size w w'
  cell : w'.cell? ⟨0, 0, none⟩ = some (.int .i64 m)
theorem At.next {m : Int} {w w1 w2 : World} (h : At m w w1) (hb : Below w1.heap.size w1 w2) : At m w w2 :=
  ⟨h.below.trans (hb.mono h.below.size), by rw [hb.cell (World.block_lt_of_cell? _ _ h.cell)]; exact h.cell⟩
theorem at_alloc {m : Int} {w : World} (hm : w.cell? ⟨0, 0, none⟩ = some (.int .i64 m)) (o : Obj) : At m w (w.alloc o) :=
  have hb : Below w.heap.size w (w.alloc o) := (Below.refl _ _).alloc (Nat.le_refl _) _
  ⟨hb, by rw [hb.cell (World.block_lt_of_cell? _ _ hm)]; exact hm⟩
theorem cell_two (w : World) (a b : Value) (t : TypeId) : (w.alloc (.cells #[a, b] t)).cell? ⟨w.heap.size, 0, none⟩ = some a ∧ (w.alloc (.cells #[a, b] t)).cell? ⟨w.heap.size, 1, none⟩ = some b := by
  rw [World.cell?_alloc_new, World.cell?_alloc_new]
  exact ⟨rfl, rfl⟩
theorem two_keep {w1 w2 : World} {g : Nat} {a b : Value} (h : w1.cell? ⟨g, 0, none⟩ = some a ∧ w1.cell? ⟨g, 1, none⟩ = some b) (hb : Below w1.heap.size w1 w2) : w2.cell? ⟨g, 0, none⟩ = some a ∧ w2.cell? ⟨g, 1, none⟩ = some b :=
  ⟨by rw [hb.cell (World.block_lt_of_cell? _ _ h.1)]; exact h.1, by rw [hb.cell (World.block_lt_of_cell? _ _ h.2)]; exact h.2⟩

end Go.Proofs.YtocjjfjcepflnaaDoor
