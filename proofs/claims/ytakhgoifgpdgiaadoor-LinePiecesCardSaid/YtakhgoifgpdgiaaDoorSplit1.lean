/-
  PROVED HERE: what Split of the program computes.
-/
import Derived.Test.YtakhgoifgpdgiaaDoorRowT
set_option linter.unusedVariables false
namespace Lin
open Go.Lib
theorem count_spl : ∀ (f : Nat) (s : List UInt8), s.length < f → countFrom E f s = (spl s).1.length
  | 0, s, h => by omega
  | f + 1, s, h => by
    rcases idx s with ⟨h1, h2⟩ | ⟨k, h1, h2, h3, h4⟩
    · rw [countFrom, h1, if_pos (by rfl), spl_none s h2]
      rfl
    · have hne : ¬ ((k : Int) == -1) = true := by rw [beq_iff_eq]; omega
      rw [countFrom, h1, if_neg hne, spl_hit s k h3 h4]
      have e : ((k : Int).toNat + E.length) = k + 2 := by simp [E]
      rw [e, count_spl f _ (by rw [List.length_drop]; omega), List.length_cons]
      omega
theorem joi_len (l : List (List UInt8)) : 2 * l.length ≤ (joi l).length := by
  induction l with
  | nil => exact Nat.le_refl _
  | cons x l ih => simp only [joi, E, List.length_append, List.length_cons, List.length_nil]; omega
theorem spl_len (s : List UInt8) : 2 * (spl s).1.length + (spl s).2.length ≤ s.length := by
  have h := congrArg List.length (joi_spl s)
  rw [List.length_append] at h
  have := joi_len (spl s).1
  omega
end Lin
namespace Go.Proofs.YtakhgoifgpdgiaaDoor
open Go.RowKit

theorem below_drewN {B : Nat} {w w1 : World} (h : Below B w w1) (q : Nat) : Below B w (w1.drewN q) := ⟨h.os, h.tape, h.output, h.size, h.block⟩
theorem countB_spl (s : ByteArray) : Lib.countB s ⟨#[13, 10]⟩ = (Lin.spl s.data.toList).1.length := Lin.count_spl _ _ (by omega)
theorem splitB_spl (s : ByteArray) : (Lib.splitB ⟨#[13, 10]⟩ 0 (Lib.countB s ⟨#[13, 10]⟩) s).map Value.string = ((Lin.spl s.data.toList).1 ++ [(Lin.spl s.data.toList).2]).map sV := by
  have h := Lib.splitB_data ⟨#[13, 10]⟩ 0 (Lib.countB s ⟨#[13, 10]⟩) s
  have e : Lib.splitK (⟨#[13, 10]⟩ : ByteArray).data.toList 0 (Lib.countB s ⟨#[13, 10]⟩) s.data.toList = (Lin.spl s.data.toList).1 ++ [(Lin.spl s.data.toList).2] := Lin.split_spl s.data.toList
  rw [← e, ← h, List.map_map]
  refine List.map_congr_left fun x _ => ?_
  exact (sV_of x).symm

set_option maxRecDepth 100000 in
set_option maxHeartbeats 1000000 in
theorem split_any (s : ByteArray) (m : Int) (w : World) (hs : s.size < 4294967281) (hm : w.cell? ⟨0, 0, none⟩ = some (.int .i64 m)) :
    Calls Tryd.prog 11 #[.string s] w fun e w' => (∃ c, e = .returned (.tuple #[.slice (some ⟨w.heap.size, 0, none⟩) (Lin.spl s.data.toList).1.length c, sV (Lin.spl s.data.toList).2])) ∧ Txs w' (some ⟨w.heap.size, 0, none⟩) (Lin.spl s.data.toList).1 ∧ Below w.heap.size w w' := by
  have hc := countB_spl s
  have hp := splitB_spl s
  have hlen : (Lin.spl s.data.toList).1.length ≤ s.data.toList.length := by
    have := Lin.spl_len s.data.toList
    omega
  have hsz := Lib.size_eq s
  have HS := Tryd.strings_Split s ⟨#[13, 10]⟩ m w hs hm (by decide)
  rw [hp, hc] at HS
  clear hc hp
  generalize Lin.spl s.data.toList = p at *
  obtain ⟨l, r⟩ := p
  generalize hn : l.length = n at *
  have HH := Lib.hid HS
  clear HS
  go_enter Tryd.func11, Tryd.ntmps11
  go_wp2_with fail
  refine Calls.mono HH.out ?_
  rintro e w' ⟨rfl, rfl⟩
  have f1 : (w.alloc (.cells ((l ++ [r]).map sV).toArray 9)).cell? ⟨w.heap.size, n, none⟩ = some (.string ⟨r.toArray⟩) := by
    simp [← hn, sV]
  have hw : ((n + 1 : Nat) : Int) - 1 = (n : Int) := by omega
  have f2 : Txs (w.alloc (.cells ((l ++ [r]).map sV).toArray 9)) (some ⟨w.heap.size, 0, none⟩) l := by
    intro k hk
    refine ⟨_, _, rfl, ?_⟩
    rw [World.cell?_alloc_new, Nat.zero_add, List.getElem?_toArray, List.getElem?_map, List.getElem?_append_left hk, List.getElem?_eq_getElem hk]
    unfold at' sV
    rw [List.getD_eq_getElem?_getD, List.getElem?_eq_getElem hk]
    rfl
  have f3 : Below w.heap.size w (w.alloc (.cells ((l ++ [r]).map sV).toArray 9)) := (Below.refl _ _).alloc (Nat.le_refl _) _
  generalize w.alloc (.cells ((l ++ [r]).map sV).toArray 9) = W at *
  go_wp2_with fail
  go_quiet (fail)
  go_wp2
  go_ret2
  exact ⟨⟨n + 1, rfl⟩, f2, below_drewN f3 _⟩
end Go.Proofs.YtakhgoifgpdgiaaDoor
