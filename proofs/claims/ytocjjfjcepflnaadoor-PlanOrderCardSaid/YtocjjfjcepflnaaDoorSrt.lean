/-
  PROVED HERE: the library's stable sort at the entries that are due: the comparing function's contract, and that it is an order.
-/
import Derived.Test.YtocjjfjcepflnaaDoorKh
set_option linter.unusedVariables false
namespace Go.Proofs.YtocjjfjcepflnaaDoor
open Go.Shelf Go.RowKit Go.Lib Go.Sort
/-- An entry that is due; its weight is a word. -/
structure Dw where
  wt : UInt64
  nx : Int
  id : Int
deriving Inhabited
def dwD (x : Dw) : Du := ⟨(x.wt.toNat : Int), x.nx, x.id⟩
def dwL (x : Dw) : List Value := [.int .u64 (x.wt.toNat : Int), .int .u64 x.nx, .int .u64 x.id]
def cmpDw (x y : Dw) : Int := cmpD (dwD x) (dwD y)
theorem cmpI_lt (a b : Int) : Pln.cmpI a b < 0 ↔ a < b := by
  unfold Pln.cmpI
  split
  · simp; omega
  · split <;> simp <;> omega
theorem cmpI_zero (a b : Int) : Pln.cmpI a b = 0 ↔ a = b := by
  unfold Pln.cmpI
  split
  · simp; omega
  · split
    · simp; omega
    · simp; omega
theorem cmpW_cmpI (x y : Nat) : Wgh.cmpW x y = Pln.cmpI (Wgh.wt x) (Wgh.wt y) := rfl
/-- Which one comes first. -/
theorem dw_less (x y : Dw) : ltOf cmpDw x y = true ↔ (Wgh.wt x.wt.toNat < Wgh.wt y.wt.toNat ∨ (Wgh.wt x.wt.toNat = Wgh.wt y.wt.toNat ∧ (x.nx < y.nx ∨ (x.nx = y.nx ∧ x.id < y.id)))) := by
  unfold ltOf cmpDw cmpD Pln.orI dwD
  rw [decide_eq_true_iff]
  simp only [Int.toNat_natCast]
  rw [cmpW_cmpI]
  have a1 := cmpI_lt (Wgh.wt x.wt.toNat) (Wgh.wt y.wt.toNat)
  have a2 := cmpI_zero (Wgh.wt x.wt.toNat) (Wgh.wt y.wt.toNat)
  have b1 := cmpI_lt x.nx y.nx
  have b2 := cmpI_zero x.nx y.nx
  have c1 := cmpI_lt x.id y.id
  split
  · rename_i h
    omega
  · rename_i h
    split
    · rename_i g
      omega
    · rename_i g
      omega
theorem dw_swo : Stb.Swo (ltOf cmpDw) := by
  refine ⟨fun x => ?_, fun x y z h1 h2 => ?_, fun x y z h => ?_⟩
  · cases h : ltOf cmpDw x x with
    | false => rfl
    | true => rw [dw_less] at h; omega
  · rw [dw_less] at *
    omega
  · rw [dw_less] at h
    rw [dw_less, dw_less]
    omega
/-- What is asked of the comparing function. -/
theorem dw_lays (blk off size : Nat) (w : World) : CmpLays Tryd.prog 38 #[] dwL 3 cmpDw blk off size w := by
  intro m os dk hs x y
  have h1 := UInt64.toNat_lt x.wt
  have h2 := UInt64.toNat_lt y.wt
  have h := compareD_any (dwD x) (dwD y) (sortWorldK dwL 3 w blk off m dk os) (by show 0 ≤ ((x.wt.toNat : Nat) : Int) ∧ _; unfold dwD; simp only; omega) (by unfold dwD; simp only; omega)
  exact h
end Go.Proofs.YtocjjfjcepflnaaDoor
