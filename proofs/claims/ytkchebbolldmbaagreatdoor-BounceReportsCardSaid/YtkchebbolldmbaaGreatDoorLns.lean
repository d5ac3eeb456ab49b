/-
  PROVED HERE: (*strings.Builder).copyCheck and WriteString in this dump (whose copyCheck ends in a place that the loader refuses, so that the shelf's own contracts do not lie on it). The proofs are the shelf's, turned to this program. plain facts on lines that end in bytes 13 and 10. No program in sight. what the small functions on one line compute: Unstuff of the program and of the answer, Ends. what Unstuff of the answer and Ends compute. rows of texts in memory; what Same of the answer computes. what Join of the program and of the answer compute. what Join of the program computes (by a strings.Builder). what Split of the program computes. what Split of the answer computes. what Split of the answer computes (the walk).
-/
import Derived.Test.YtkchebbolldmbaaGreatDoorParse
import Derived.Lib.Split
import Derived.Lib.IndexMore
import Derived.Lib.CutLaws
import Derived.Deep.QuietTactic
import Derived.BigQuiet
import Derived.WalkKit
import Derived.Lib.Hide
import Derived.Deep.DeepMust
namespace Go.Proofs.YtkchebbolldmbaaGreatDoor
open Go.RowKit

theorem X58 : (Tryz.prog.info? 82).map (·.size) = some 2 := by kernel_rfl
theorem lies58 : liesAt Tryz.prog Tryz.prog.depth 82 (2 / Tryz.prog.cellsOf 82) 0 82 1 = true := by kernel_rfl
set_option maxHeartbeats 2000000 in
set_option maxRecDepth 100000 in
theorem writeString_k (B b : Nat) (bs : List Value) (s : ByteArray) (w : World) (h : Lib.IsBuilderF 82 5 B b bs w) (hlen : bs.length + s.size ≤ 140737488355328) (hBw : B ≤ w.heap.size) :
    Calls Tryz.prog 58 #[.pointer (some ⟨b, 0, none⟩), .string s] w fun e w' => e = .returned (.tuple #[.int .i64 s.size, .nilIface]) ∧ (Lib.BuilderAtF 82 5 B b (.pointer (some ⟨b, 0, none⟩)) (bs ++ Lib.strCells s) w' ∧ Below B w w' ∧ Lib.OthersKept 5 (some b) w w') := by
  obtain ⟨i0, hi, hz0, hz1, hz2⟩ := info_parts info5
  have e38 : ∀ args w, (callFunc 76 args).run Tryz.prog w = .ok (.enter 76 args) w := enters_of Tryz.func76 (by kernel_rfl) rfl
  go_enter Tryz.func58, Tryz.ntmps58
  go_wp2_with (go_at_call 76; refine (copyCheck_k B b bs _ h).mono ?_)
  rintro e w1 ⟨rfl, h1, hb1, hk1⟩
  obtain ⟨hB, v, hbk, hown, hne⟩ := h1
  have c0 : w1.cell? ⟨b, 0, none⟩ = some (.pointer (some ⟨b, 0, none⟩)) := by rw [Lib.cell_of_heap hbk]; rfl
  have c1 : w1.cell? ⟨b, 1, none⟩ = some v := by rw [Lib.cell_of_heap hbk]; rfl
  go_wp2_with (at_builtin; refine Lib.wpList_append_own_stringF _ rfl _ _ 75 9 rfl B 5 i0 Tryz.underlying75 Tryz.underlying9 hi hz0 hz1 hz2 _ _ _ rfl hown s rfl ?c3 ?c4 ?c5 ?_)
  case c3 => unfold maxLen; omega
  case c4 => omega
  case c5 => have := hb1.size; omega
  intro v' w2 hown' hgrow _
  have hlt : b < w1.heap.size := by
    rcases Nat.lt_or_ge b w1.heap.size with h' | h'
    · exact h'
    · simp [Array.getElem?_eq_none h'] at hbk
  have hb2 : w2.heap[b]? = some (.cells #[.pointer (some ⟨b, 0, none⟩), v] 82 (0, 0)) := by
    rw [hgrow.block b hlt (fun e => hne e.symm)]
    exact hbk
  have d0 : w2.cell? ⟨b, 0, none⟩ = some (.pointer (some ⟨b, 0, none⟩)) := by rw [Lib.cell_of_heap hb2]; rfl
  have d1 : w2.cell? ⟨b, 1, none⟩ = some v := by rw [Lib.cell_of_heap hb2]; rfl
  have f1 : w2.frozen? ⟨b, 1, none⟩ = false := Lib.frozen_of_heap hb2 1
  obtain ⟨ao, n', cap, rfl⟩ : ∃ ao n' cap, v' = .slice ao n' cap := by
    rcases hown'.2 with ⟨hv, _⟩ | ⟨g, cap, cur, fz, hv, _⟩
    · exact ⟨_, _, _, hv⟩
    · exact ⟨_, _, _, hv⟩
  go_wp2
  go_ret2
  refine ⟨rfl, ?_, ?_, (hk1.grown hgrow (Lib.ownsRowF_kind hown)).setCell ⟨b, 1, none⟩ rfl _⟩
  · exact Lib.BuilderAtF.put (T := 82) (e := 5) hB hb2 (bs' := bs ++ Lib.strCells s) (by simpa [Lib.strCells_length] using hown') (by decide)
  · exact (hb1.grown hgrow (by have := hb1.size; omega) (fun k hk => (hown.lt k hk).1)).setCell (p := ⟨b, 1, none⟩) hB _
end Go.Proofs.YtkchebbolldmbaaGreatDoor
set_option linter.unusedVariables false
namespace Lin
open Go.Lib

/-- A line's end. -/
def E : List UInt8 := [13, 10]
def pre (b : UInt8) : List (List UInt8) × List UInt8 → List (List UInt8) × List UInt8
  | ([], r) => ([], b :: r)
  | (x :: xs, r) => ((b :: x) :: xs, r)
/-- Lines, and what stands behind. -/
def spl : List UInt8 → List (List UInt8) × List UInt8
  | [] => ([], [])
  | [b] => ([], [b])
  | b :: c :: t => if b = 13 ∧ c = 10 then ([] :: (spl t).1, (spl t).2) else pre b (spl (c :: t))

theorem occ_succ (b : UInt8) (t : List UInt8) (j : Nat) : occAt (b :: t) E (j + 1) = occAt t E j := by simp [occAt]
theorem beq_d (a b : UInt8) : (a == b) = decide (b = a) := by rw [Bool.eq_iff_iff, beq_iff_eq, decide_eq_true_iff]; exact eq_comm
theorem occ_zero (b c : UInt8) (t : List UInt8) : occAt (b :: c :: t) E 0 = decide (b = 13 ∧ c = 10) := by
  simp only [occAt, List.drop_zero, E, List.isPrefixOf, Bool.and_true, Bool.decide_and]
  rw [beq_d, beq_d]
theorem occ_nil (j : Nat) : occAt [] E j = false := by simp [occAt, E]
theorem occ_one (b : UInt8) (j : Nat) : occAt [b] E j = false := by
  cases j with
  | zero => simp [occAt, E, List.isPrefixOf]
  | succ j => rw [occ_succ, occ_nil]

theorem spl_none : ∀ (t : List UInt8), (∀ j, occAt t E j = false) → spl t = ([], t)
  | [], _ => rfl
  | [_], _ => rfl
  | b :: c :: t, h => by
    have h0 := h 0
    rw [occ_zero] at h0
    unfold spl
    rw [if_neg (by simpa using h0), spl_none (c :: t) (fun j => by rw [← occ_succ b]; exact h (j + 1))]
    rfl
theorem spl_hit : ∀ (t : List UInt8) (k : Nat), occAt t E k = true → (∀ j, j < k → occAt t E j = false) → spl t = (t.take k :: (spl (t.drop (k + 2))).1, (spl (t.drop (k + 2))).2)
  | [], k, h, _ => by rw [occ_nil] at h; cases h
  | [_], k, h, _ => by rw [occ_one] at h; cases h
  | b :: c :: t, 0, h, _ => by
    rw [occ_zero] at h
    rw [spl, if_pos (by simpa using h)]
    rfl
  | b :: c :: t, k + 1, h, hn => by
    have h0 := hn 0 (by omega)
    rw [occ_zero] at h0
    rw [occ_succ] at h
    rw [spl, if_neg (by simpa using h0), spl_hit (c :: t) k h (fun j hj => by rw [← occ_succ b]; exact hn (j + 1) (by omega))]
    rfl

/-- What is known of the first end. -/
theorem idx (t : List UInt8) : (index t E = -1 ∧ ∀ j, occAt t E j = false) ∨ ∃ k : Nat, index t E = k ∧ k + 2 ≤ t.length ∧ occAt t E k = true ∧ ∀ j, j < k → occAt t E j = false := by
  rcases index_spec t E with ⟨h1, h2⟩ | ⟨i, h1, _, h3, h4⟩
  · refine .inl ⟨h1, fun j => ?_⟩
    rcases Nat.lt_or_ge t.length j with g | g
    · cases e : occAt t E j with
      | false => rfl
      | true => rcases occAt_room e with r | r
                · simp [E] at r; omega
                · simp [E] at r
    · exact h2 j g
  · refine .inr ⟨i, h1, ?_, h3, h4⟩
    rcases occAt_room h3 with r | r
    · simpa [E] using r
    · simp [E] at r

theorem splitK_spl : ∀ (f : Nat) (s : List UInt8), s.length < f → splitK E 0 (countFrom E f s) s = (spl s).1 ++ [(spl s).2]
  | 0, s, h => by omega
  | f + 1, s, h => by
    rcases idx s with ⟨h1, h2⟩ | ⟨k, h1, h2, h3, h4⟩
    · rw [countFrom, h1, if_pos (by rfl), spl_none s h2]
      rfl
    · have hne : ¬ ((k : Int) == -1) = true := by rw [beq_iff_eq]; omega
      rw [countFrom, h1, if_neg hne, Nat.add_comm 1, splitK, h1, if_neg hne, spl_hit s k h3 h4]
      have e : ((k : Int).toNat + E.length) = k + 2 := by simp [E]
      rw [e, splitK_spl f _ (by rw [List.length_drop]; omega)]
      simp
theorem split_spl (s : List UInt8) : split s E = (spl s).1 ++ [(spl s).2] := splitK_spl _ s (by omega)

/-- What is joined: each line, and an end. -/
def joi : List (List UInt8) → List UInt8
  | [] => []
  | x :: l => x ++ E ++ joi l
theorem joi_append (a b : List (List UInt8)) : joi (a ++ b) = joi a ++ joi b := by
  induction a with
  | nil => rfl
  | cons x a ih => simp [joi, ih]
theorem joi_pre (b : UInt8) (p : List (List UInt8) × List UInt8) : joi (pre b p).1 ++ (pre b p).2 = b :: (joi p.1 ++ p.2) := by
  obtain ⟨l, r⟩ := p
  cases l <;> simp [pre, joi]
/-- What is split is joined to the same. -/
theorem joi_spl : ∀ (t : List UInt8), joi (spl t).1 ++ (spl t).2 = t
  | [] => rfl
  | [_] => rfl
  | b :: c :: t => by
    unfold spl
    split
    · rename_i h
      obtain ⟨rfl, rfl⟩ := h
      simp [joi, E, joi_spl t]
    · rw [joi_pre, joi_spl (c :: t)]
end Lin
set_option linter.unusedVariables false
namespace Lin
open Go.Lib
/-- A line that is unstuffed; is it the end? -/
def uns (t : List UInt8) : List UInt8 × Bool := if t = [46] then ([], true) else (trimPrefix t [46], false)
theorem occ_room (t : List UInt8) (i : Nat) (h : t.length ≤ i + 1) : occAt t E i = false := by
  cases e : occAt t E i with
  | false => rfl
  | true =>
    rcases occAt_room e with r | r
    · simp [E] at r; omega
    · simp [E] at r
theorem occ_at (t : List UInt8) (i : Nat) (h : i + 1 < t.length) : occAt t E i = (t[i] == 13 && t[i + 1] == 10) := by
  unfold occAt
  rw [List.drop_eq_getElem_cons (by omega), List.drop_eq_getElem_cons (by omega)]
  simp only [E, List.isPrefixOf, Bool.and_true]
  rw [beq_d, beq_d]
  rfl
theorem u8_beq (a b : UInt8) : ((a.toNat : Int) == (b.toNat : Int)) = (a == b) := by
  rw [Bool.eq_iff_iff, beq_iff_eq, beq_iff_eq]
  constructor
  · intro h
    exact UInt8.toNat_inj.1 (by omega)
  · rintro rfl; rfl
end Lin
namespace Go.Proofs.YtkchebbolldmbaaGreatDoor
open Go.RowKit

theorem dot_beq (s : ByteArray) : (s.toList == [46]) = decide (s.data.toList = [46]) := by
  rw [ByteArray.toList_eq, Bool.eq_iff_iff, beq_iff_eq, decide_eq_true_iff]

end Go.Proofs.YtkchebbolldmbaaGreatDoor
set_option linter.unusedVariables false
namespace Go.Proofs.YtkchebbolldmbaaGreatDoor
open Go.RowKit

theorem head_pre (s : ByteArray) (h : 0 < s.size) : Lib.hasPrefix s.data.toList [46] = ((s[0].toNat : Int) == 46) := by
  have hl : 0 < s.data.toList.length := by simpa using h
  rw [at_data s 0 h hl]
  obtain ⟨b, t, e⟩ : ∃ b t, s.data.toList = b :: t := by
    cases e : s.data.toList with
    | nil => rw [e] at hl; simp at hl
    | cons b t => exact ⟨b, t, rfl⟩
  simp only [e, List.getElem_cons_zero]
  have := Lin.u8_beq b 46
  rw [show ((46 : UInt8).toNat : Int) = 46 from rfl] at this
  rw [this]
  simp only [Lib.hasPrefix, List.isPrefixOf, Bool.and_true]
  rw [Bool.eq_iff_iff, beq_iff_eq, beq_iff_eq]
  exact eq_comm

set_option maxRecDepth 100000 in
theorem ends_any (s : ByteArray) (i : Nat) (w : World) (hi : i < 4611686018427387904) : Calls Tryz.prog 69 #[.string s, .int .i64 i] w fun e w' => e = .returned (.bool (Lib.occAt s.data.toList Lin.E i)) ∧ w' = w := by
  have hw : wrap64 ((i : Int) + 1) = ((i + 1 : Nat) : Int) := by unfold wrap64; omega
  by_cases h : i + 1 < s.size
  · have hl : i + 1 < s.data.toList.length := by have := Lib.size_eq s; omega
    have hz : ((i + 1 : Nat) : Int) < (s.size : Int) := by omega
    have hz2 : i < s.size := by omega
    rw [Lin.occ_at _ _ hl, ← at_data s i hz2 (by omega), ← at_data s (i + 1) h hl]
    have e1 := Lin.u8_beq s[i] 13
    have e2 := Lin.u8_beq s[i + 1] 10
    rw [← e1, ← e2]
    clear e1 e2
    have hk : ((i + 1 : Nat) : Int).toNat = i + 1 := rfl
    by_cases hc : (s[i].toNat : Int) = 13
    · have hb : ((s[i].toNat : Int) == 13) = true := beq_iff_eq.2 hc
      rw [show ((s[i].toNat : Int) == ((13 : UInt8).toNat : Int)) = true from hb, Bool.true_and]
      go_enter Tryz.func69, Tryz.ntmps69
      go_wp2
      go_ret
      exact ⟨rfl, rfl⟩
    · have hb : ((s[i].toNat : Int) == 13) = false := beq_eq_false_iff_ne.2 hc
      rw [show ((s[i].toNat : Int) == ((13 : UInt8).toNat : Int)) = false from hb, Bool.false_and]
      go_enter Tryz.func69, Tryz.ntmps69
      go_wp2
      go_ret
      exact ⟨rfl, rfl⟩
  · have hz : ¬ ((i + 1 : Nat) : Int) < (s.size : Int) := by omega
    rw [Lin.occ_room _ _ (by have := Lib.size_eq s; omega)]
    go_enter Tryz.func69, Tryz.ntmps69
    go_wp2
    go_ret
    exact ⟨rfl, rfl⟩
end Go.Proofs.YtkchebbolldmbaaGreatDoor
set_option linter.unusedVariables false
namespace Go.Proofs.YtkchebbolldmbaaGreatDoor
open Go.RowKit

theorem str_bne (x y : List UInt8) : ((⟨x.toArray⟩ : ByteArray).toList != (⟨y.toArray⟩ : ByteArray).toList) = decide (x ≠ y) := by
  unfold bne
  rw [str_beq]
  by_cases h : x = y <;> simp [h]

theorem ext_at {a b : List (List UInt8)} (h : a.length = b.length) (g : ∀ k, k < a.length → at' a k = at' b k) : a = b := by
  refine List.ext_getElem h fun k h1 h2 => ?_
  have := g k h1
  unfold at' at this
  rw [List.getD_eq_getElem?_getD, List.getD_eq_getElem?_getD, List.getElem?_eq_getElem h1, List.getElem?_eq_getElem h2] at this
  exact this

theorem lst_beq (x y : List UInt8) : (x == y) = decide (x = y) := by rw [Bool.eq_iff_iff, beq_iff_eq, decide_eq_true_iff]

end Go.Proofs.YtkchebbolldmbaaGreatDoor
set_option linter.unusedVariables false
namespace Go.Proofs.YtkchebbolldmbaaGreatDoor
open Go.RowKit

theorem joi_succ (l : List (List UInt8)) (k : Nat) (hk : k < l.length) : Lin.joi (l.take (k + 1)) = Lin.joi (l.take k) ++ (at' l k ++ [13, 10]) := by
  rw [List.take_add_one, List.getElem?_eq_getElem hk, Lin.joi_append]
  unfold at'
  rw [List.getD_eq_getElem?_getD, List.getElem?_eq_getElem hk]
  simp [Lin.joi, Lin.E]
theorem joi_take_le (l : List (List UInt8)) (k : Nat) : (Lin.joi (l.take k)).length ≤ (Lin.joi l).length := by
  have := congrArg List.length (Lin.joi_append (l.take k) (l.drop k))
  rw [List.take_append_drop, List.length_append] at this
  omega
set_option maxRecDepth 100000 in
set_option maxHeartbeats 1000000 in
theorem rjoin_any (A : Option Addr) (cap n : Nat) (l : List (List UInt8)) (w : World) (hn : l.length = n) (h : Txs w A l) (hs : n < 4611686018427387904) (hlen : (Lin.joi l).length < 4611686018427387904) :
    Calls Tryz.prog 43 #[.slice A n cap] w fun e w' => e = .returned (.string ⟨(Lin.joi l).toArray⟩) ∧ w' = w := by
  have H := Lib.hid h
  have HLN := Lib.hid hn
  clear h hn
  go_enter Tryz.func43, Tryz.ntmps43
  go_wp2
  go_loop [3, 4] (fun o u => ∃ k : Nat, u = .int .i64 k ∧ k ≤ n ∧ o = .string ⟨(Lin.joi (l.take k)).toArray⟩) (fun _ u => n - (intOf u).toNat)
  case atStart => exact ⟨0, rfl, by omega, rfl⟩
  case round =>
    obtain ⟨k, rfl, hk, rfl⟩ := hrel
    by_cases hlt : k < n
    · have hltz : (k : Int) < (n : Int) := by omega
      obtain ⟨b1, o1, rfl, f1⟩ := H.out k (by rw [HLN.out]; exact hlt)
      have HJ := Lib.hid (joi_succ l k (by rw [HLN.out]; exact hlt))
      have hb : (Lin.joi (l.take k)).length + ((at' l k).length + 2) < 4611686018427387904 := by
        have h1 := congrArg List.length HJ.out
        have h2 := joi_take_le l (k + 1)
        simp only [List.length_append, List.length_cons, List.length_nil] at h1
        omega
      generalize at' l k = X at *
      generalize Lin.joi (l.take k) = Y at *
      have g1 : ¬ 9223372036854775807 < X.length + 2 := by omega
      have g2 : ¬ 9223372036854775807 < Y.length + (X.length + 2) := by omega
      have e1 := mk_append X [13, 10]
      have e2 := mk_append Y (X ++ [13, 10])
      go_wp2
      go_round
      case rel => exact ⟨k + 1, by go_num, by omega, by rw [HJ.out]⟩
      case measure => simp [intOf]; omega
    · have hltz : ¬ (k : Int) < (n : Int) := by omega
      obtain rfl : k = n := by omega
      have HT : Hid (l.take k = l) := by show _ = _; rw [← HLN.out]; exact List.take_length
      rw [HT.out]
      go_wp2
      go_ret
      exact ⟨rfl, rfl⟩
end Go.Proofs.YtkchebbolldmbaaGreatDoor
set_option linter.unusedVariables false
namespace Go.Proofs.YtkchebbolldmbaaGreatDoor
open Go.RowKit

theorem size_end : (⟨#[13, 10]⟩ : ByteArray).size = 2 := rfl
theorem cells_more (a b : List UInt8) : Lib.byteCells a ++ Lib.strCells ⟨b.toArray⟩ = Lib.byteCells (a ++ b) := by
  simp [Lib.byteCells, Lib.strCells]

set_option maxRecDepth 100000 in
set_option maxHeartbeats 1000000 in
theorem join_any (A : Option Addr) (cap n : Nat) (l : List (List UInt8)) (w : World) (hn : l.length = n) (h : Txs w A l) (hs : n < 4611686018427387904) (hlen : (Lin.joi l).length ≤ 140737488355328) :
    Calls Tryz.prog 35 #[.slice A n cap] w fun e w' => e = .returned (.string ⟨(Lin.joi l).toArray⟩) ∧ Below w.heap.size w w' := by
  have H := Lib.hid h
  have HLN := Lib.hid hn
  clear h hn
  go_enter Tryz.func35, Tryz.ntmps35
  go_wp2
  go_loopw [8] (fun u wr => ∃ k : Nat, u = .int .i64 k ∧ k ≤ n ∧ Lib.IsBuilderF 82 5 w.heap.size w.heap.size (Lib.byteCells (Lin.joi (l.take k))) wr ∧ Below w.heap.size w wr) (fun u _ => n - (intOf u).toNat)
  case atStart => exact ⟨0, rfl, by omega, Lib.IsBuilderF.of (Lib.fresh_isBuilder 82 5 w), (Below.refl _ _).alloc (Nat.le_refl _) _⟩
  case round =>
    obtain ⟨k, rfl, hk, hbld, hbel⟩ := hrel
    have hsz := hbel.size
    by_cases hlt : k < n
    · have hltz : (k : Int) < (n : Int) := by omega
      obtain ⟨b1, o1, rfl, f1⟩ := H.out k (by rw [HLN.out]; exact hlt)
      have hb1 := World.block_lt_of_cell? _ _ f1
      have f2 : wr.cell? ⟨b1, o1 + k, none⟩ = some (.string ⟨(at' l k).toArray⟩) := by rw [hbel.cell (p := ⟨b1, o1 + k, none⟩) hb1]; exact f1
      have HJ := Lib.hid (joi_succ l k (by rw [HLN.out]; exact hlt))
      have hb : (Lin.joi (l.take k)).length + ((at' l k).length + 2) ≤ 140737488355328 := by
        have h1 := congrArg List.length HJ.out
        have h2 := joi_take_le l (k + 1)
        simp only [List.length_append, List.length_cons, List.length_nil] at h1
        omega
      generalize at' l k = X at *
      generalize Lin.joi (l.take k) = Y at *
      have HBL := Lib.hid hbld
      have HBE := Lib.hid hbel
      clear hbld hbel f1
      go_wp2_with fail
      refine (writeString_k w.heap.size w.heap.size (Lib.byteCells Y) ⟨X.toArray⟩ wr HBL.out (by rw [size_mk, Lib.byteCells_length]; omega) hsz).mono ?_
      rintro e w1 ⟨rfl, h1, hbw1, _⟩
      have hsz1 := hbw1.size
      have HB1 := Lib.hid h1
      have HW1 := Lib.hid hbw1
      clear h1 hbw1
      go_wp2_with fail
      refine (writeString_k w.heap.size w.heap.size _ ⟨#[13, 10]⟩ w1 (.inr HB1.out) (by rw [size_end, List.length_append, Lib.byteCells_length, Lib.strCells_length, size_mk]; omega) (by omega)).mono ?_
      rintro e w2 ⟨rfl, h2, hbw2, _⟩
      have HB2 := Lib.hid h2
      have HW2 := Lib.hid hbw2
      clear h2 hbw2
      go_wp2
      go_roundw
      case rel =>
        refine ⟨k + 1, by go_num, by omega, ?_, HBE.out.trans (HW1.out.trans HW2.out)⟩
        rw [HJ.out]
        have := HB2.out
        rw [cells_more, show (#[13, 10] : Array UInt8) = [13, 10].toArray from rfl, cells_more, List.append_assoc] at this
        exact .inr this
      case measure => simp [intOf]; omega
    · have hltz : ¬ (k : Int) < (n : Int) := by omega
      obtain rfl : k = n := by omega
      have HT : Hid (l.take k = l) := by show _ = _; rw [← HLN.out]; exact List.take_length
      rw [HT.out] at hbld
      have HBL := Lib.hid hbld
      have HBE := Lib.hid hbel
      clear hbld hbel
      go_wp2_with fail
      refine (Tryz.Builder_String_any_f w.heap.size w.heap.size (Lin.joi l) wr HBL.out hsz).mono ?_
      rintro e w1 ⟨rfl, _, hbw1⟩
      have HW1 := Lib.hid hbw1
      clear hbw1
      go_wp2
      go_ret
      exact ⟨rfl, HBE.out.trans HW1.out⟩
end Go.Proofs.YtkchebbolldmbaaGreatDoor
set_option linter.unusedVariables false
namespace Lin
open Go.Lib
theorem count_spl : ∀ (f : Nat) (s : List UInt8), s.length < f → countFrom E f s = (spl s).1.length
  | 0, s, h => by omega
  | f + 1, s, h => by
    rcases idx s with ⟨h1, h2⟩ | ⟨k, h1, h2, h3, h4⟩
    · rw [countFrom, h1, if_pos (by rfl), spl_none s h2]
      rfl
    · have hne : ¬ ((k : Int) == -1) = true := by rw [beq_iff_eq]; omega
      rw [countFrom, h1, if_neg hne, spl_hit s k h3 h4]
      have e : ((k : Int).toNat + E.length) = k + 2 := by simp [E]
      rw [e, count_spl f _ (by rw [List.length_drop]; omega), List.length_cons]
      omega
theorem joi_len (l : List (List UInt8)) : 2 * l.length ≤ (joi l).length := by
  induction l with
  | nil => exact Nat.le_refl _
  | cons x l ih => simp only [joi, E, List.length_append, List.length_cons, List.length_nil]; omega
theorem spl_len (s : List UInt8) : 2 * (spl s).1.length + (spl s).2.length ≤ s.length := by
  have h := congrArg List.length (joi_spl s)
  rw [List.length_append] at h
  have := joi_len (spl s).1
  omega
end Lin
namespace Go.Proofs.YtkchebbolldmbaaGreatDoor
open Go.RowKit

theorem countB_spl (s : ByteArray) : Lib.countB s ⟨#[13, 10]⟩ = (Lin.spl s.data.toList).1.length := Lin.count_spl _ _ (by omega)
theorem splitB_spl (s : ByteArray) : (Lib.splitB ⟨#[13, 10]⟩ 0 (Lib.countB s ⟨#[13, 10]⟩) s).map Value.string = ((Lin.spl s.data.toList).1 ++ [(Lin.spl s.data.toList).2]).map sV := by
  have h := Lib.splitB_data ⟨#[13, 10]⟩ 0 (Lib.countB s ⟨#[13, 10]⟩) s
  have e : Lib.splitK (⟨#[13, 10]⟩ : ByteArray).data.toList 0 (Lib.countB s ⟨#[13, 10]⟩) s.data.toList = (Lin.spl s.data.toList).1 ++ [(Lin.spl s.data.toList).2] := Lin.split_spl s.data.toList
  rw [← e, ← h, List.map_map]
  refine List.map_congr_left fun x _ => ?_
  exact (sV_of x).symm

set_option maxRecDepth 100000 in
set_option maxHeartbeats 1000000 in
theorem split_any (s : ByteArray) (m : Int) (w : World) (hs : s.size < 4294967281) (hm : w.cell? ⟨3, 0, none⟩ = some (.int .i64 m)) :
    Calls Tryz.prog 63 #[.string s] w fun e w' => (∃ c, e = .returned (.tuple #[.slice (some ⟨w.heap.size, 0, none⟩) (Lin.spl s.data.toList).1.length c, sV (Lin.spl s.data.toList).2])) ∧ Txs w' (some ⟨w.heap.size, 0, none⟩) (Lin.spl s.data.toList).1 ∧ Below w.heap.size w w' := by
  have hc := countB_spl s
  have hp := splitB_spl s
  have hlen : (Lin.spl s.data.toList).1.length ≤ s.data.toList.length := by
    have := Lin.spl_len s.data.toList
    omega
  have hsz := Lib.size_eq s
  have HS := Tryz.strings_Split s ⟨#[13, 10]⟩ m w hs hm (by decide)
  rw [hp, hc] at HS
  clear hc hp
  generalize Lin.spl s.data.toList = p at *
  obtain ⟨l, r⟩ := p
  generalize hn : l.length = n at *
  have HH := Lib.hid HS
  clear HS
  go_enter Tryz.func63, Tryz.ntmps63
  go_wp2_with fail
  refine Calls.mono HH.out ?_
  rintro e w' ⟨rfl, rfl⟩
  have f1 : (w.alloc (.cells ((l ++ [r]).map sV).toArray 9)).cell? ⟨w.heap.size, n, none⟩ = some (.string ⟨r.toArray⟩) := by
    simp [← hn, sV]
  have hw : ((n + 1 : Nat) : Int) - 1 = (n : Int) := by omega
  have f2 : Txs (w.alloc (.cells ((l ++ [r]).map sV).toArray 9)) (some ⟨w.heap.size, 0, none⟩) l := by
    intro k hk
    refine ⟨_, _, rfl, ?_⟩
    rw [World.cell?_alloc_new, Nat.zero_add, List.getElem?_toArray, List.getElem?_map, List.getElem?_append_left hk, List.getElem?_eq_getElem hk]
    unfold at' sV
    rw [List.getD_eq_getElem?_getD, List.getElem?_eq_getElem hk]
    rfl
  have f3 : Below w.heap.size w (w.alloc (.cells ((l ++ [r]).map sV).toArray 9)) := (Below.refl _ _).alloc (Nat.le_refl _) _
  generalize w.alloc (.cells ((l ++ [r]).map sV).toArray 9) = W at *
  go_wp2_with fail
  go_quiet (fail)
  go_wp2
  go_ret2
  exact ⟨⟨n + 1, rfl⟩, f2, below_drewN f3 _⟩
end Go.Proofs.YtkchebbolldmbaaGreatDoor
set_option linter.unusedVariables false
namespace Lin
open Go.Lib
theorem occ_drop (t : List UInt8) (f j : Nat) : occAt (t.drop f) E j = occAt t E (f + j) := by
  unfold occAt
  rw [List.drop_drop]
/-- Where the answer's loop stands: lines so far, from where the next one begins, up to where no end was seen. -/
def Sta (t : List UInt8) (pre : List (List UInt8)) (f i : Nat) : Prop :=
  pre ++ (spl (t.drop f)).1 = (spl t).1 ∧ (spl (t.drop f)).2 = (spl t).2 ∧ ∀ j, f ≤ j → j < i → occAt t E j = false
theorem sta_start (t : List UInt8) : Sta t [] 0 0 := ⟨rfl, rfl, fun _ _ h => absurd h (Nat.not_lt_zero _)⟩
theorem sta_pass {t : List UInt8} {pre : List (List UInt8)} {f i : Nat} (h : Sta t pre f i) (hi : i < f ∨ occAt t E i = false) : Sta t pre f (i + 1) := by
  refine ⟨h.1, h.2.1, fun j h1 h2 => ?_⟩
  rcases Nat.lt_or_ge j i with g | g
  · exact h.2.2 j h1 g
  · have : j = i := by omega
    subst this
    rcases hi with hi | hi
    · omega
    · exact hi
theorem sta_hit {t : List UInt8} {pre : List (List UInt8)} {f i : Nat} (h : Sta t pre f i) (hf : f ≤ i) (hi : occAt t E i = true) : Sta t (pre ++ [(t.drop f).take (i - f)]) (i + 2) (i + 1) := by
  have e := spl_hit (t.drop f) (i - f) (by rw [occ_drop, show f + (i - f) = i from by omega]; exact hi) (fun j hj => by rw [occ_drop]; exact h.2.2 _ (by omega) (by omega))
  have e2 : (t.drop f).drop (i - f + 2) = t.drop (i + 2) := by rw [List.drop_drop, show f + (i - f + 2) = i + 2 from by omega]
  rw [e2] at e
  have h1 := h.1
  have h2 := h.2.1
  rw [e] at h1 h2
  exact ⟨by rw [← h1]; simp, h2, fun j g1 g2 => by omega⟩
theorem sta_end {t : List UInt8} {pre : List (List UInt8)} {f i : Nat} (h : Sta t pre f i) (hi : t.length ≤ i) : spl t = (pre, t.drop f) := by
  have e := spl_none (t.drop f) (fun j => by
    rw [occ_drop]
    rcases Nat.lt_or_ge (f + j) i with g | g
    · exact h.2.2 _ (by omega) g
    · exact occ_room _ _ (by omega))
  have h1 := h.1
  have h2 := h.2.1
  rw [e] at h1 h2
  rw [List.append_nil] at h1
  rw [Prod.ext_iff]
  exact ⟨h1.symm, h2.symm⟩
end Lin
set_option linter.unusedVariables false
namespace Go.Proofs.YtkchebbolldmbaaGreatDoor
open Go.RowKit

theorem ends_same (s : ByteArray) (i : Nat) (w : World) (hi : i < 4611686018427387904) : Calls Tryz.prog 69 #[.string s, .int .i64 i] w fun e w' => e = .returned (.bool (Lib.occAt s.data.toList Lin.E i)) ∧ w = w' :=
  (ends_any s i w hi).mono fun _ _ h => ⟨h.1, h.2.symm⟩

set_option maxRecDepth 100000 in
set_option maxHeartbeats 4000000 in
theorem r8split_any (s : ByteArray) (w : World) (hs : s.size < 4294967281) :
    Calls Tryz.prog 52 #[.string s] w fun e w' => (∃ A c, e = .returned (.tuple #[.slice A (Lin.spl s.data.toList).1.length c, sV (Lin.spl s.data.toList).2]) ∧ Txs w' A (Lin.spl s.data.toList).1) ∧ Below w.heap.size w w' := by
  obtain ⟨i0, hi, hz0, hz1, hz2⟩ := info_parts info9
  have HSZ := Lib.hid (Lib.size_eq s)
  go_enter Tryz.func52, Tryz.ntmps52
  go_wp2
  go_loopw [4, 5, 6] (fun v u x wr => ∃ (pre : List (List UInt8)) (f i : Nat), u = .int .i64 f ∧ x = .int .i64 i ∧ i ≤ s.size ∧ f ≤ s.size ∧ 2 * pre.length ≤ f ∧ Hid (Lin.Sta s.data.toList pre f i) ∧ wr.ownsRow w.heap.size 9 1 v pre.length (pre.map sV) ∧ Below w.heap.size w wr) (fun _ _ x _ => s.size - (intOf x).toNat)
  case atStart => exact ⟨[], 0, 0, rfl, rfl, by omega, by omega, by simp, Lin.sta_start _, World.ownsRow_lit w #[] 0 (Nat.le_refl _) (by unfold maxLen; omega) rfl, (Below.refl _ _).alloc (Nat.le_refl _) _⟩
  case round =>
    obtain ⟨pre, f, i, rfl, rfl, hi1, hf1, hpl, HS, hown, hbel⟩ := hrel
    by_cases hlt : i < s.size
    · have hltz : (i : Int) < (s.size : Int) := by omega
      by_cases hge : f ≤ i
      · have hgez : (f : Int) ≤ (i : Int) := by omega
        cases hoc : Lib.occAt s.data.toList Lin.E i with
        | true =>
          have hroom : i + 2 ≤ s.size := by
            rcases Lib.occAt_room hoc with r | r
            · have := HSZ.out
              simp only [Lin.E, List.length_cons, List.length_nil] at r
              omega
            · cases r
          have HS2 := Lib.hid (Lin.sta_hit HS.out hge hoc)
          have HX : Hid (sV ((s.data.toList.drop f).take (i - f)) = .string (s.extract f i)) := by
            show _ = _
            rw [← Lib.extract_data, sV_of]
          have HE := Lib.hid (fun W : World => ends_same s i W (by omega))
          rw [hoc] at HE
          have hi2 : (i : Int) ≤ (s.size : Int) := by omega
          have hws := hbel.size
          have HO := Lib.hid hown
          have HB := Lib.hid hbel
          clear hown hbel hoc
          go_wp2_with (first
            | (go_at_call 69; refine Calls.mono (HE.out _) ?_; rintro e w' ⟨rfl, rfl⟩)
            | (at_builtin; go_must (refine wpList_append_own _ rfl (.tmp 22) (.tmp 27) 47 rfl w.heap.size 9 i0 (.string ⟨#[]⟩) 1 16 Tryz.underlying47 hi hz0 hz1 hz2 rfl (by decide) _ _ _ rfl (HO.out.alloc _) ⟨wr.heap.size, 0, none⟩ 1 1 [.string (s.extract f i)] rfl rfl ?c1 ?c2 ?c3 ?c4 ?c5 ?_)))
          case c1 => exact cell_one_new _ _ _
          case c2 => intro u hu; simp only [List.mem_singleton] at hu; subst hu; rfl
          case c3 => unfold maxLen; omega
          case c4 => omega
          case c5 => simp only [World.size_alloc]; omega
          intro v' w1 hown1 hgrow _
          have hb1 : Below w.heap.size w w1 := (HB.out.alloc hws _).grown hgrow (by simp only [World.size_alloc]; omega) (fun q hq => (HO.out.lt q hq).1)
          have HO1 := Lib.hid hown1
          have HB1 := Lib.hid hb1
          clear hown1 hgrow hb1
          go_wp2
          go_roundw
          case rel =>
            refine ⟨pre ++ [(s.data.toList.drop f).take (i - f)], i + 2, i + 1, by go_num, by go_num, by omega, by omega, by rw [List.length_append]; simp; omega, HS2, ?_, HB1.out⟩
            rw [List.length_append, List.map_append, List.map_singleton, HX.out]
            exact HO1.out
          case measure => simp [intOf]; omega
        | false =>
          have HE := Lib.hid (fun W : World => ends_same s i W (by omega))
          rw [hoc] at HE
          have HO := Lib.hid hown
          have HB := Lib.hid hbel
          clear hown hbel
          go_wp2_with (go_at_call 69; refine Calls.mono (HE.out _) ?_; rintro e w' ⟨rfl, rfl⟩)
          go_roundw
          case rel => exact ⟨pre, f, i + 1, rfl, by go_num, by omega, hf1, hpl, Lin.sta_pass HS.out (.inr hoc), HO.out, HB.out⟩
          case measure => simp [intOf]; omega
      · have hgez : ¬ (f : Int) ≤ (i : Int) := by omega
        have HO := Lib.hid hown
        have HB := Lib.hid hbel
        clear hown hbel
        go_wp2
        go_roundw
        case rel => exact ⟨pre, f, i + 1, rfl, by go_num, by omega, hf1, hpl, Lin.sta_pass HS.out (.inl (by omega)), HO.out, HB.out⟩
        case measure => simp [intOf]; omega
    · have hltz : ¬ (i : Int) < (s.size : Int) := by omega
      have HE : Hid (Lin.spl s.data.toList = (pre, s.data.toList.drop f)) := Lin.sta_end HS.out (by rw [← HSZ.out]; omega)
      have HX : Hid (sV (s.data.toList.drop f) = .string (s.extract f s.size)) := by
        show _ = _
        rw [← Lib.extract_to_end, sV_of]
      have hf2 : (f : Int) ≤ (s.size : Int) := by omega
      obtain ⟨A, c, rfl, hT⟩ : ∃ A c, u4 = .slice A pre.length c ∧ Txs wr A pre := by
        rcases hown.2 with ⟨h1, h0⟩ | ⟨g, c, cur, h1, _⟩
        · exact ⟨none, 0, by rw [h1, h0], by rw [List.length_eq_zero_iff.1 h0]; exact txs_nil _ _⟩
        · subst h1
          refine ⟨_, _, rfl, fun k hk => ⟨g, 0, rfl, ?_⟩⟩
          have hf := hown.cellAt k (by omega)
          rw [Nat.zero_add, hf, List.getElem?_map, List.getElem?_eq_getElem hk]
          unfold at' sV
          rw [List.getD_eq_getElem?_getD, List.getElem?_eq_getElem hk]
          rfl
      have HT := Lib.hid hT
      have HB := Lib.hid hbel
      clear hown hbel hT HS
      go_wp2_with fail
      go_quiet (fail)
      go_wp2
      go_ret2
      rw [HE.out]
      exact ⟨⟨A, c, by rw [HX.out]; rfl, HT.out⟩, below_drewN HB.out _⟩
end Go.Proofs.YtkchebbolldmbaaGreatDoor
