/-
  PROVED HERE: a row of entries that are due, made by the call, sorted.
-/
import Derived.Test.YtocjjfjcepflnaaDoorSrt
set_option linter.unusedVariables false
namespace Go.Proofs.YtocjjfjcepflnaaDoor
open Go.Shelf Go.RowKit Go.Lib Go.Sort
theorem dw_len (x : Dw) : (dwL x).length = 3 := rfl
theorem dw_one (x : Dw) : ∀ v ∈ dwL x, v.oneCell' = true := by
  intro v hv
  unfold dwL at hv
  simp only [List.mem_cons, List.not_mem_nil, or_false] at hv
  rcases hv with rfl | rfl | rfl <;> rfl
theorem flat_len (l : List Dw) : (l.flatMap dwL).length = l.length * 3 := by
  induction l with
  | nil => rfl
  | cons x l ih => rw [List.flatMap_cons, List.length_append, ih, dw_len, List.length_cons]; omega
theorem flat_get : ∀ (l : List Dw) (t : Nat), t < l.length * 3 → (l.flatMap dwL)[t]? = some ((dwL (l.getD (t / 3) default))[t % 3]!)
  | [], t, h => by simp at h
  | x :: l, t, h => by
    rw [List.flatMap_cons]
    by_cases c : t < 3
    · rw [List.getElem?_append_left (by rw [dw_len]; exact c)]
      have h3 : t = 0 ∨ t = 1 ∨ t = 2 := by omega
      rcases h3 with rfl | rfl | rfl <;> rfl
    · rw [List.getElem?_append_right (by rw [dw_len]; omega), dw_len, flat_get l (t - 3) (by rw [List.length_cons] at h; omega)]
      have e1 : t / 3 = (t - 3) / 3 + 1 := by omega
      have e2 : t % 3 = (t - 3) % 3 := by omega
      rw [e1, e2, List.getD_cons_succ]
/-- A row of the call's own, seen as the sort's. -/
theorem own_holds {w : World} {base g n cap : Nat} {l : List Dw} (h : w.ownsRow base 75 3 (.slice (some ⟨g, 0, none⟩) n cap) n (l.flatMap dwL)) (hl : l.length = n) : HoldsK dwL 3 w g 0 l.toArray := by
  subst hl
  intro t ht
  rw [size_flatK] at ht
  have ht2 : t < l.length * 3 := by simpa using ht
  refine ⟨?_, by rw [Nat.zero_add]; exact h.frozenAt t⟩
  rw [Nat.zero_add, h.cellAt t ht2, flat_get l t ht2]
  show _ = some ((flatK dwL 3 l.toArray)[t]!)
  have hs : t < (flatK dwL 3 l.toArray).size := by rw [size_flatK]; simpa using ht2
  rw [getElem!_pos _ t hs]
  simp only [flatK, Array.getElem_map, Array.getElem_range]
  congr 1
  have hq : t / 3 < l.length := by omega
  rw [List.getD_eq_getElem?_getD, List.getElem?_eq_getElem hq]
  rw [getElem!_pos l.toArray (t / 3) (by simpa using hq)]
  rfl
theorem own_row {w : World} {base g n cap : Nat} {l : List Dw} (h : w.ownsRow base 75 3 (.slice (some ⟨g, 0, none⟩) n cap) n (l.flatMap dwL)) (hl : l.length = n) : RowK dwL 3 w g 0 l.toArray := by
  have hb : g < w.heap.size := (h.lt g rfl).2
  exact ⟨dw_len, dw_one, own_holds h hl, hb⟩
theorem swk_below {w0 W : World} {blk off : Nat} {d : Array Dw} (h : SWK dwL 3 w0 blk off d W) (B : Nat) (hB : B ≤ blk) (hb : blk < w0.heap.size) : Below B w0 W := by
  obtain ⟨n, os, rfl⟩ := h
  refine ⟨rfl, rfl, rfl, ?_, fun k h1 => ?_⟩
  · show _ ≤ (grow (putRowK dwL 3 (Sort.ahead w0 n) blk off d) os).heap.size
    rw [size_grow, size_putRowK]
    exact Nat.le_add_right _ _
  · show (grow (putRowK dwL 3 (Sort.ahead w0 n) blk off d) os).heap[k]? = _
    rw [heap_grow_old _ _ (by rw [size_putRowK]; show k < w0.heap.size; omega)]
    unfold putRowK putRow mapBlock
    show (w0.heap.modify blk _)[k]? = _
    rw [Array.getElem?_modify, if_neg (by omega)]
/-- The cells of a sorted row. -/
theorem holds_cells {W : World} {g : Nat} {d : Array Dw} (h : HoldsK dwL 3 W g 0 d) (i : Nat) (hi : i < d.size) :
    (W.cell? ⟨g, i * 3, none⟩ = some (.int .u64 (d[i]!.wt.toNat : Int)) ∧ W.cell? ⟨g, i * 3 + 1, none⟩ = some (.int .u64 d[i]!.nx)) ∧ W.cell? ⟨g, i * 3 + 2, none⟩ = some (.int .u64 d[i]!.id) := by
  have k := HoldsK.cells h dw_len hi
  have a0 := k 0 _ rfl
  have a1 := k 1 _ rfl
  have a2 := k 2 _ rfl
  rw [add_off] at a0 a1 a2
  simp only [Nat.zero_add, Nat.add_zero] at a0 a1 a2
  exact ⟨⟨a0, a1⟩, a2⟩
theorem run_call38 (args : Array Value) (w : World) : (callFunc 38 args).run Tryd.prog w = .ok (.enter 38 args) w := by
  have h1 : (Tryd.f38.name == "runtime.NumGoroutine") = false := by kernel_rfl
  have h2 : Tryd.f38.name ≠ "runtime.NumGoroutine" := by simpa using h1
  have h3 : Tryd.f38.body.isSome = true := by kernel_rfl
  obtain ⟨c, hc⟩ := Option.isSome_iff_exists.1 h3
  simp [callFunc, Tryd.func38, h2, hc]
/-- SortStableFunc at a row of the call's own. -/
theorem sortDue_any {w : World} {base g n cap : Nat} {l : List Dw} (h : w.ownsRow base 75 3 (.slice (some ⟨g, 0, none⟩) n cap) n (l.flatMap dwL)) (hl : l.length = n) (hn : n < 1152921504606846976) (hb : base ≤ g) :
    Calls Tryd.prog 37 #[.slice (some ⟨g, 0, none⟩) n cap, .func (.func 38) #[] #[]] w fun e w' => e = .returned (.tuple #[]) ∧ (∃ d' : Array Dw, d'.size = n ∧ Stb.seg (Gd d') 0 n = Stb.isort (ltOf cmpDw) (Stb.seg (Gd l.toArray) 0 n) ∧ HoldsK dwL 3 w' g 0 d') ∧ Below base w w' := by
  have R := own_row h hl
  have hs : l.toArray.size = n := by simpa using hl
  refine (sortStable_s env dwL cmpDw 38 #[] g 0 cap n l.toArray w run_call38 (dw_lays _ _ _ _) R hs hn dw_swo).mono ?_
  rintro e w' ⟨rfl, d', hd, hq, hS⟩
  exact ⟨rfl, ⟨d', hd, hq, hS.holds R.hblk R.hH (by rw [hd, hs])⟩, swk_below hS base hb R.hblk⟩
end Go.Proofs.YtocjjfjcepflnaaDoor
