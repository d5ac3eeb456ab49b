/-
  PROVED HERE: what New, Add and Len of the program's reader compute.
-/
import Derived.Test.YtakhgoifgpdgiaaDoorLarge
set_option linter.unusedVariables false
namespace Go.Proofs.YtakhgoifgpdgiaaDoor
open Go.RowKit

set_option maxRecDepth 100000 in
theorem new_in (n : Int) (w : World) (h1 : 1 ≤ n) (h2 : n ≤ 1000) : Calls Tryd.prog 22 #[.int .i64 n] w fun e w' => e = .returned (.pointer (some ⟨w.heap.size, 0, none⟩)) ∧ w.alloc (.cells #[.int .i64 n, .string ⟨#[]⟩, .int .i64 0] 66) = w' := by
  have g1 : ¬ n < 1 := by omega
  have g2 : ¬ 1000 < n := by omega
  go_enter Tryd.func22, Tryd.ntmps22
  go_wp2
  go_ret
  exact ⟨rfl, rfl⟩
set_option maxRecDepth 100000 in
theorem new_low (n : Int) (w : World) (h1 : n < 1) : Calls Tryd.prog 22 #[.int .i64 n] w fun e w' => e = .returned (.pointer none) ∧ w = w' := by
  go_enter Tryd.func22, Tryd.ntmps22
  go_wp2
  go_ret
  exact ⟨rfl, rfl⟩
set_option maxRecDepth 100000 in
theorem new_high (n : Int) (w : World) (h1 : 1000 < n) : Calls Tryd.prog 22 #[.int .i64 n] w fun e w' => e = .returned (.pointer none) ∧ w = w' := by
  have g1 : ¬ n < 1 := by omega
  go_enter Tryd.func22, Tryd.ntmps22
  go_wp2
  go_ret
  exact ⟨rfl, rfl⟩

/-- A reader in memory: the most, what came, up to where there is no end. -/
def Rd (w : World) (b : Nat) (n : Int) (t : List UInt8) (f : Nat) : Prop := w.heap[b]? = some (.cells #[.int .i64 n, .string ⟨t.toArray⟩, .int .i64 (f : Int)] 66 (0, 0))

theorem rd_cells {w : World} {b : Nat} {n : Int} {t : List UInt8} {f : Nat} (h : Rd w b n t f) :
    w.cell? ⟨b, 0, none⟩ = some (.int .i64 n) ∧ w.cell? ⟨b, 1, none⟩ = some (.string ⟨t.toArray⟩) ∧ w.cell? ⟨b, 2, none⟩ = some (.int .i64 (f : Int)) ∧ w.frozen? ⟨b, 1, none⟩ = false ∧ w.frozen? ⟨b, 2, none⟩ = false :=
  ⟨by rw [Lib.cell_of_heap h]; rfl, by rw [Lib.cell_of_heap h]; rfl, by rw [Lib.cell_of_heap h]; rfl, Lib.frozen_of_heap h 1, Lib.frozen_of_heap h 2⟩

set_option maxRecDepth 100000 in
theorem len_any (b : Nat) (n : Int) (t : List UInt8) (f : Nat) (w : World) (h : Rd w b n t f) : Calls Tryd.prog 26 #[.pointer (some ⟨b, 0, none⟩)] w fun e w' => e = .returned (.int .i64 (t.length : Int)) ∧ w = w' := by
  obtain ⟨c0, c1, c2, f1, f2⟩ := rd_cells h
  have e : ((⟨t.toArray⟩ : ByteArray).size : Int) = (t.length : Int) := by rw [size_mk]
  clear h
  go_enter Tryd.func26, Tryd.ntmps26
  go_wp2
  go_ret
  exact ⟨rfl, rfl⟩

set_option maxRecDepth 100000 in
theorem add_any (b : Nat) (n : Int) (t x : List UInt8) (f : Nat) (w : World) (h : Rd w b n t f) (hl : t.length + x.length < 4611686018427387904) : Calls Tryd.prog 23 #[.pointer (some ⟨b, 0, none⟩), .string ⟨x.toArray⟩] w fun e w' => e = .returned (.tuple #[]) ∧ w.setCell ⟨b, 1, none⟩ (.string ⟨(t ++ x).toArray⟩) = w' := by
  obtain ⟨c0, c1, c2, f1, f2⟩ := rd_cells h
  have g1 : ¬ 9223372036854775807 < t.length + x.length := by omega
  have e1 := mk_append t x
  clear h
  go_enter Tryd.func23, Tryd.ntmps23
  go_wp2
  go_end0
  exact ⟨rfl, rfl⟩
end Go.Proofs.YtakhgoifgpdgiaaDoor
