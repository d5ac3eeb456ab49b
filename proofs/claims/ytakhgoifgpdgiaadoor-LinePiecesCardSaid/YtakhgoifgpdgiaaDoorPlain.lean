/-
  PROVED HERE: plain facts: lines that are joined are split again; stuffed lines come back. No program in sight.
-/
import Derived.Test.YtakhgoifgpdgiaaDoorTellsW
set_option linter.unusedVariables false
namespace Lin
open Go.Lib
/-- A line that is one, with an end behind it. -/
def Cl (x : List UInt8) : Prop := (spl (x ++ [13, 10])).1 = [x]
theorem occ_left (a b : List UInt8) (j : Nat) (h : j + 1 < a.length) : occAt (a ++ b) E j = occAt a E j := by
  rw [occ_at a j h, occ_at (a ++ b) j (by rw [List.length_append]; omega), List.getElem_append_left (by omega), List.getElem_append_left h]
theorem occ_end (x y : List UInt8) : occAt (x ++ (E ++ y)) E x.length = true := by
  unfold occAt
  rw [List.drop_left]
  simp [E, List.isPrefixOf]
theorem cl_first {x : List UInt8} (h : Cl x) : ∀ j, j < x.length → occAt (x ++ E) E j = false := by
  unfold Cl at h
  rw [show ([13, 10] : List UInt8) = E from rfl] at h
  rcases idx (x ++ E) with ⟨h1, h2⟩ | ⟨k, h1, h2, h3, h4⟩
  · rw [spl_none _ h2] at h
    cases h
  · rw [spl_hit _ k h3 h4] at h
    have h5 := (List.cons.inj h).1
    have h6 := congrArg List.length h5
    rw [List.length_take, List.length_append] at h6
    rw [List.length_append] at h2
    have : k = x.length := by omega
    subst this
    exact h4
theorem cl_of {x : List UInt8} (h : ∀ j, j < x.length → occAt (x ++ E) E j = false) : Cl x := by
  unfold Cl
  have h0 := occ_end x []
  rw [List.append_nil] at h0
  rw [show ([13, 10] : List UInt8) = E from rfl, spl_hit (x ++ E) x.length h0 h, List.take_left]
  have : (x ++ E).drop (x.length + 2) = [] := by
    rw [List.drop_eq_nil_iff, List.length_append]
    simp [E]
  rw [this]
  rfl
theorem spl_cl {x : List UInt8} (h : Cl x) (y : List UInt8) : spl (x ++ (E ++ y)) = (x :: (spl y).1, (spl y).2) := by
  rw [spl_hit _ x.length (occ_end x y) (fun j hj => by
    rw [← List.append_assoc, occ_left (x ++ E) y j (by rw [List.length_append]; simp [E]; omega)]
    exact cl_first h j hj)]
  rw [List.take_left]
  have : (x ++ (E ++ y)).drop (x.length + 2) = y := by
    rw [← List.append_assoc, List.drop_left' (by rw [List.length_append]; rfl)]
  rw [this]
theorem spl_joi {l : List (List UInt8)} (h : ∀ x ∈ l, Cl x) (y : List UInt8) : spl (joi l ++ y) = (l ++ (spl y).1, (spl y).2) := by
  induction l with
  | nil => rfl
  | cons x l ih =>
    rw [joi, List.append_assoc, List.append_assoc, spl_cl (h x (List.mem_cons_self ..)), ih (fun z hz => h z (List.mem_cons_of_mem _ hz))]
    rfl
theorem spl_rest {r : List UInt8} (h : (spl r).1 = []) : spl r = ([], r) := by
  have h1 := joi_spl r
  rw [h] at h1
  rw [Prod.ext_iff]
  exact ⟨h, h1⟩
theorem cl_dot {x : List UInt8} (h : Cl x) : Cl (46 :: x) := cl_of fun j hj => by
  cases j with
  | zero =>
    rw [List.cons_append]
    cases hx : x ++ E with
    | nil => exact occ_one _ _
    | cons c t => rw [occ_zero]; exact decide_eq_false (fun e => by have := e.1; revert this; decide)
  | succ j =>
    rw [List.cons_append, occ_succ]
    exact cl_first h j (by simp only [List.length_cons] at hj; omega)
theorem cl_stf {x : List UInt8} (h : Cl x) : Cl (stf x) := by
  unfold stf
  split
  · exact cl_dot h
  · exact h
theorem cl_one : Cl [46] := by unfold Cl; decide
theorem uns_stf (x : List UInt8) : uns (stf x) = (x, false) := by
  cases x with
  | nil => rfl
  | cons c r =>
    by_cases hc : c = 46
    · subst hc
      exact Go.Proofs.YtakhgoifgpdgiaaDoor.uns_dot 46 r
    · rw [Go.Proofs.YtakhgoifgpdgiaaDoor.stf_plain c r hc, Go.Proofs.YtakhgoifgpdgiaaDoor.uns_plain c r hc]
theorem usd_stf (l : List (List UInt8)) (r : List (List UInt8)) : usd (l.map stf ++ r) = put l (joi (l.map stf)).length (usd r) := by
  induction l with
  | nil => rw [List.map_nil, List.nil_append]; exact (put_nil _).symm
  | cons x l ih =>
    rw [List.map_cons, List.cons_append, usd, if_neg (by rw [uns_stf]; simp), ih, uns_stf]
    cases usd r with
    | none => rfl
    | some p =>
      simp only [put, Option.map_some, joi, List.length_append, E, List.length_cons, List.length_nil, List.cons_append]
      congr 2
      omega
theorem stu_spl {l : List (List UInt8)} (h : ∀ x ∈ l, Cl x) (b : List UInt8) : usd (spl (stu l ++ b)).1 = some (l, (stu l).length) := by
  have h1 : stu l ++ b = joi (l.map stf ++ [[46]]) ++ b := by rw [joi_append]; rfl
  have h2 : ∀ x ∈ l.map stf ++ [[46]], Cl x := fun x hx => by
    rcases List.mem_append.1 hx with hx | hx
    · obtain ⟨y, hy, rfl⟩ := List.mem_map.1 hx
      exact cl_stf (h y hy)
    · rw [List.mem_singleton.1 hx]; exact cl_one
  rw [h1, spl_joi h2, List.append_assoc, usd_stf]
  rw [List.singleton_append, usd, if_pos (by rfl)]
  unfold put stu
  simp
theorem stu_early {l : List (List UInt8)} (h : ∀ x ∈ l, Cl x) : usd (spl ((stu l).take ((stu l).length - 1))).1 = none := by
  have h1 : (stu l).take ((stu l).length - 1) = joi (l.map stf) ++ [46, 13] := by
    have e : stu l = (joi (l.map stf) ++ [46, 13]) ++ [10] := by unfold stu; rw [List.append_assoc]; rfl
    rw [e]
    exact List.take_left' (by simp)
  have h2 : ∀ x ∈ l.map stf, Cl x := fun x hx => by
    obtain ⟨y, hy, rfl⟩ := List.mem_map.1 hx
    exact cl_stf (h y hy)
  rw [h1, spl_joi h2, show spl [46, 13] = ([], [46, 13]) from by decide, List.append_nil]
  have := usd_stf l []
  rw [List.append_nil] at this
  rw [this]
  rfl
end Lin
