/-
  PROVED HERE: plain facts on lines, heads and hops, as layer 20 has them.
-/
import Derived.Test.YtkchebbolldmbaaGreatDoorLns
import Derived.Lib.SlicesS
set_option linter.unusedVariables false
namespace Bnc

/-- A text's lines. -/
def lns (t : List UInt8) : List (List UInt8) := (Lin.spl t).1 ++ (if (Lin.spl t).2 = [] then [] else [(Lin.spl t).2])
/-- The lines ahead of the first empty one. -/
def hdl : List (List UInt8) → List (List UInt8)
  | [] => []
  | x :: l => if x = [] then [] else x :: hdl l
def rcv : List UInt8 := [114, 101, 99, 101, 105, 118, 101, 100, 58]
def hopB (s : List UInt8) : Bool := decide (9 ≤ s.length) && decide ((s.take 9).map Adr.low = rcv)
def hops (t : List UInt8) : Nat := ((hdl (lns t)).filter hopB).length
theorem hdl_len : ∀ l : List (List UInt8), (hdl l).length ≤ l.length
  | [] => Nat.le_refl _
  | x :: l => by
    rw [hdl]
    split
    · exact Nat.zero_le _
    · have := hdl_len l
      simp only [List.length_cons]
      omega
/-- Either no line is empty, or the head ends at the first that is. -/
theorem hdl_at : ∀ l : List (List UInt8), ((∀ j, j < l.length → l.getD j [] ≠ []) ∧ hdl l = l) ∨ (∃ k, k < l.length ∧ l.getD k [] = [] ∧ (∀ j, j < k → l.getD j [] ≠ []) ∧ hdl l = l.take k)
  | [] => Or.inl ⟨fun j hj => absurd hj (Nat.not_lt_zero _), rfl⟩
  | x :: l => by
    by_cases hx : x = []
    · refine Or.inr ⟨0, Nat.succ_pos _, hx, fun j hj => absurd hj (Nat.not_lt_zero _), ?_⟩
      rw [hdl, if_pos hx]; rfl
    · rcases hdl_at l with ⟨h1, h2⟩ | ⟨k, h1, h2, h3, h4⟩
      · refine Or.inl ⟨fun j hj => ?_, ?_⟩
        · cases j with
          | zero => exact hx
          | succ j => exact h1 j (by simpa using hj)
        · rw [hdl, if_neg hx, h2]
      · refine Or.inr ⟨k + 1, by simpa using h1, h2, fun j hj => ?_, ?_⟩
        · cases j with
          | zero => exact hx
          | succ j => exact h3 j (by omega)
        · rw [hdl, if_neg hx, h4]; rfl
theorem lns_len (t : List UInt8) : (lns t).length ≤ t.length := by
  have h := Lin.spl_len t
  unfold lns
  rw [List.length_append]
  split
  · simp only [List.length_nil]; omega
  · rename_i h2
    have : 0 < (Lin.spl t).2.length := List.length_pos_iff.2 h2
    simp only [List.length_cons, List.length_nil]; omega
/-- A byte of a line against one of the letters. -/
theorem hop_more (s : List UInt8) (k : Nat) (hk : k < rcv.length) (hk9 : k < 9) (hs : 9 ≤ s.length) (h : (s.take k).map Adr.low = rcv.take k) (h2 : Adr.low (s[k]'(by omega)) = (rcv[k]'hk)) : (s.take (k + 1)).map Adr.low = rcv.take (k + 1) := by
  rw [List.take_succ_eq_append_getElem (by omega : k < s.length), List.take_succ_eq_append_getElem hk, List.map_append, h, List.map_cons, List.map_nil, h2]
theorem hop_stop (s : List UInt8) (k : Nat) (hk : k < rcv.length) (hk9 : k < 9) (hs : 9 ≤ s.length) (h2 : Adr.low (s[k]'(by omega)) ≠ (rcv[k]'hk)) : hopB s = false := by
  unfold hopB
  rw [Bool.and_eq_false_iff]
  refine Or.inr (decide_eq_false (fun e => h2 ?_))
  have e2 := congrArg (fun l => l[k]?) e
  simp only [List.getElem?_map, List.getElem?_take, hk9, if_true] at e2
  rw [List.getElem?_eq_getElem (by omega : k < s.length), List.getElem?_eq_getElem hk] at e2
  simpa using e2
theorem hop_end (s : List UInt8) (hs : 9 ≤ s.length) (h : (s.take 9).map Adr.low = rcv.take 9) : hopB s = true := by
  unfold hopB
  rw [decide_eq_true hs, Bool.true_and]
  exact decide_eq_true h
theorem hop_short (s : List UInt8) (hs : ¬ 9 ≤ s.length) : hopB s = false := by
  unfold hopB
  rw [decide_eq_false hs, Bool.false_and]
end Bnc
