/-
  PROVED HERE: LineDots of the statements answers true (the walk).
-/
import Derived.Test.YtakhgoifgpdgiaaDoorAwakeW
set_option linter.unusedVariables false
namespace Go.Proofs.YtakhgoifgpdgiaaDoor
open Go.RowKit

theorem awake_hid (m : Int) (w : World) (hm : w.cell? ⟨0, 0, none⟩ = some (.int .i64 m)) : Calls Tryd.prog 9 #[] w fun e w' => e = .returned (.bool true) ∧ (Below w.heap.size w w' ∧ w'.cell? ⟨0, 0, none⟩ = some (.int .i64 m)) :=
  (awake_any m w hm).mono fun e w' h => ⟨h.1, h.2, by rw [h.2.cell (World.block_lt_of_cell? _ _ hm)]; exact hm⟩

def tl : List UInt8 := [13, 10, 46, 13, 10]
theorem stu_one (t : List UInt8) : Lin.stu [t] = Lin.stf t ++ tl := by simp [Lin.stu, Lin.joi, Lin.E, tl]
theorem stf_dot (r : List UInt8) : Lin.stf (46 :: r) = 46 :: 46 :: r := rfl
theorem stf_plain (c : UInt8) (r : List UInt8) (h : c ≠ 46) : Lin.stf (c :: r) = c :: r := by
  unfold Lin.stf
  rw [if_neg]
  simp only [Lib.hasPrefix, List.isPrefixOf, Bool.and_true, beq_iff_eq]
  exact fun e => h e.symm
theorem uns_plain (c : UInt8) (r : List UInt8) (h : c ≠ 46) : Lin.uns (c :: r) = (c :: r, false) := by
  unfold Lin.uns
  rw [if_neg (fun e => h (List.cons.inj e).1)]
  unfold Lib.trimPrefix
  rw [if_neg]
  simp only [Lib.hasPrefix, List.isPrefixOf, Bool.and_true, beq_iff_eq]
  exact fun e => h e.symm
theorem uns_dot (c : UInt8) (r : List UInt8) : Lin.uns (46 :: c :: r) = (c :: r, false) := by
  unfold Lin.uns
  rw [if_neg (fun e => by cases e)]
  rfl
theorem cut_lo (u : List UInt8) : ((⟨(u ++ tl).toArray⟩ : ByteArray).extract 0 u.length) = ⟨u.toArray⟩ := by
  have := Lib.extract_data (⟨(u ++ tl).toArray⟩ : ByteArray) 0 u.length
  rw [show (⟨(u ++ tl).toArray⟩ : ByteArray).data.toList = u ++ tl from rfl, List.drop_zero, Nat.sub_zero, List.take_left] at this
  rw [← Lib.mk_data (ByteArray.extract _ _ _), this]
theorem cut_hi (u : List UInt8) : ((⟨(u ++ tl).toArray⟩ : ByteArray).extract u.length (u.length + 5)) = ⟨tl.toArray⟩ := by
  have := Lib.extract_data (⟨(u ++ tl).toArray⟩ : ByteArray) u.length (u.length + 5)
  rw [show (⟨(u ++ tl).toArray⟩ : ByteArray).data.toList = u ++ tl from rfl, List.drop_left, Nat.add_sub_cancel_left] at this
  rw [← Lib.mk_data (ByteArray.extract _ _ _), this]
  rfl
theorem stuff_one (x : List UInt8) (w : World) (hx : x.length ≤ 4096) : Calls Tryd.prog 20 #[.slice (some ⟨w.heap.size, 0, none⟩) 1 1] (w.alloc (.cells #[.string ⟨x.toArray⟩] 9)) fun e w' => e = .returned (.string ⟨(Lin.stf x ++ tl).toArray⟩) ∧ Below w.heap.size w w' := by
  refine (stuff_any (some ⟨w.heap.size, 0, none⟩) 1 1 [x] _ rfl (txs_one w x) (by omega) ?_).mono ?_
  · rw [stu_one, List.length_append]
    have : (Lin.stf x).length ≤ x.length + 1 := by unfold Lin.stf; split <;> simp
    simp [tl]
    omega
  · rintro e w' ⟨h1, h2⟩
    rw [stu_one] at h1
    exact ⟨h1, ((Below.refl _ _).alloc (Nat.le_refl _) _).trans (h2.mono (by simp))⟩

set_option maxRecDepth 100000 in
set_option maxHeartbeats 4000000 in
theorem dots_empty (m : Int) (S Y A : ByteArray) (n : Nat) (w : World) (hm : w.cell? ⟨0, 0, none⟩ = some (.int .i64 m)) (hs : ¬ (4096 : Int) < (S.size : Int))
    (h1 : ∀ W : World, Calls Tryd.prog 15 #[.string S] W fun e w' => e = .returned (.tuple #[.string Y, .bool false]) ∧ W = w')
    (h2 : ∀ W : World, Calls Tryd.prog 20 #[.slice (some ⟨W.heap.size, 0, none⟩) 1 1] (W.alloc (.cells #[.string S] 9)) fun e w' => e = .returned (.string A) ∧ Below W.heap.size W w')
    (hA : A.size = n + 5) (hn : n ≤ 8192) (hl1 : ¬ (A.size : Int) < (S.size : Int) + 5) (hl2 : ¬ (S.size : Int) + 6 < (A.size : Int))
    (h3 : ∀ W : World, Calls Tryd.prog 15 #[.string (A.extract 0 (A.size - 5))] W fun e w' => e = .returned (.tuple #[.string S, .bool false]) ∧ W = w')
    (h4 : ((A.extract (A.size - 5) A.size).toList == [13, 10, 46, 13, 10]) = true) (hz : ¬ (0 : Int) < (S.size : Int)) (hY : Y = S) :
    Calls Tryd.prog 8 #[.string S] w fun e w' => e = .returned (.bool true) ∧ Below w.heap.size w w' := by
  have HW := Lib.hid (awake_hid m w hm)
  have H1 := Lib.hid h1
  have H2 := Lib.hid h2
  have H3 := Lib.hid h3
  have hAm : (A.size : Int) ≤ 8197 := by omega
  have hA5 : 5 ≤ A.size := by omega
  clear h1 h2 h3 hm hA
  go_enter Tryd.func8, Tryd.ntmps8
  go_wp2_with (first
    | (go_at_call 9; refine HW.out.mono ?_; rintro e w1 ⟨rfl, hb, _⟩)
    | (go_at_call 15; refine (H1.out _).mono ?_; rintro e w' ⟨rfl, rfl⟩)
    | (go_at_call 15; refine (H3.out _).mono ?_; rintro e w' ⟨rfl, rfl⟩)
    | (go_at_call 20; refine (H2.out _).mono ?_; rintro e w2 ⟨rfl, hb2⟩))
  go_ret
  exact ⟨rfl, hb.trans (hb2.mono hb.size)⟩
set_option maxRecDepth 100000 in
set_option maxHeartbeats 4000000 in
theorem dots_plain (m : Int) (S Y A : ByteArray) (n : Nat) (w : World) (hm : w.cell? ⟨0, 0, none⟩ = some (.int .i64 m)) (hs : ¬ (4096 : Int) < (S.size : Int))
    (h1 : ∀ W : World, Calls Tryd.prog 15 #[.string S] W fun e w' => e = .returned (.tuple #[.string Y, .bool false]) ∧ W = w')
    (h2 : ∀ W : World, Calls Tryd.prog 20 #[.slice (some ⟨W.heap.size, 0, none⟩) 1 1] (W.alloc (.cells #[.string S] 9)) fun e w' => e = .returned (.string A) ∧ Below W.heap.size W w')
    (hA : A.size = n + 5) (hn : n ≤ 8192) (hl1 : ¬ (A.size : Int) < (S.size : Int) + 5) (hl2 : ¬ (S.size : Int) + 6 < (A.size : Int))
    (h3 : ∀ W : World, Calls Tryd.prog 15 #[.string (A.extract 0 (A.size - 5))] W fun e w' => e = .returned (.tuple #[.string S, .bool false]) ∧ W = w')
    (h4 : ((A.extract (A.size - 5) A.size).toList == [13, 10, 46, 13, 10]) = true) (hz : (0 : Int) < (S.size : Int)) (hp : 0 < S.size) (hd : (((S[0]'hp).toNat : Int) == 46) = false) (hY : Y = S) :
    Calls Tryd.prog 8 #[.string S] w fun e w' => e = .returned (.bool true) ∧ Below w.heap.size w w' := by
  have HW := Lib.hid (awake_hid m w hm)
  have H1 := Lib.hid h1
  have H2 := Lib.hid h2
  have H3 := Lib.hid h3
  have hAm : (A.size : Int) ≤ 8197 := by omega
  have hA5 : 5 ≤ A.size := by omega
  clear h1 h2 h3 hm hA
  go_enter Tryd.func8, Tryd.ntmps8
  go_wp2_with (first
    | (go_at_call 9; refine HW.out.mono ?_; rintro e w1 ⟨rfl, hb, _⟩)
    | (go_at_call 15; refine (H1.out _).mono ?_; rintro e w' ⟨rfl, rfl⟩)
    | (go_at_call 15; refine (H3.out _).mono ?_; rintro e w' ⟨rfl, rfl⟩)
    | (go_at_call 20; refine (H2.out _).mono ?_; rintro e w2 ⟨rfl, hb2⟩))
  go_ret
  exact ⟨rfl, hb.trans (hb2.mono hb.size)⟩
set_option maxRecDepth 100000 in
set_option maxHeartbeats 4000000 in
theorem dots_dot (m : Int) (S Y A : ByteArray) (n : Nat) (w : World) (hm : w.cell? ⟨0, 0, none⟩ = some (.int .i64 m)) (hs : ¬ (4096 : Int) < (S.size : Int))
    (h1 : ∀ W : World, Calls Tryd.prog 15 #[.string S] W fun e w' => e = .returned (.tuple #[.string Y, .bool false]) ∧ W = w')
    (h2 : ∀ W : World, Calls Tryd.prog 20 #[.slice (some ⟨W.heap.size, 0, none⟩) 1 1] (W.alloc (.cells #[.string S] 9)) fun e w' => e = .returned (.string A) ∧ Below W.heap.size W w')
    (hA : A.size = n + 5) (hn : n ≤ 8192) (hl1 : ¬ (A.size : Int) < (S.size : Int) + 5) (hl2 : ¬ (S.size : Int) + 6 < (A.size : Int))
    (h3 : ∀ W : World, Calls Tryd.prog 15 #[.string (A.extract 0 (A.size - 5))] W fun e w' => e = .returned (.tuple #[.string S, .bool false]) ∧ W = w')
    (h4 : ((A.extract (A.size - 5) A.size).toList == [13, 10, 46, 13, 10]) = true) (hz : (0 : Int) < (S.size : Int)) (hp : 0 < S.size) (hd : (((S[0]'hp).toNat : Int) == 46) = true) (hY : (Y.toList == S.toList) = false) (hYn : (Y.toList != S.toList) = true) (hg : ¬ 9223372036854775807 < 1 + Y.size) (hj : (⟨#[46]⟩ : ByteArray) ++ Y = S) :
    Calls Tryd.prog 8 #[.string S] w fun e w' => e = .returned (.bool true) ∧ Below w.heap.size w w' := by
  have HW := Lib.hid (awake_hid m w hm)
  have H1 := Lib.hid h1
  have H2 := Lib.hid h2
  have H3 := Lib.hid h3
  have hAm : (A.size : Int) ≤ 8197 := by omega
  have hA5 : 5 ≤ A.size := by omega
  clear h1 h2 h3 hm hA
  go_enter Tryd.func8, Tryd.ntmps8
  go_wp2_with (first
    | (go_at_call 9; refine HW.out.mono ?_; rintro e w1 ⟨rfl, hb, _⟩)
    | (go_at_call 15; refine (H1.out _).mono ?_; rintro e w' ⟨rfl, rfl⟩)
    | (go_at_call 15; refine (H3.out _).mono ?_; rintro e w' ⟨rfl, rfl⟩)
    | (go_at_call 20; refine (H2.out _).mono ?_; rintro e w2 ⟨rfl, hb2⟩))
  go_ret
  exact ⟨rfl, hb.trans (hb2.mono hb.size)⟩

theorem byte_ne {x y : List UInt8} (h : x ≠ y) : ((⟨x.toArray⟩ : ByteArray).toList == (⟨y.toArray⟩ : ByteArray).toList) = false ∧ ((⟨x.toArray⟩ : ByteArray).toList != (⟨y.toArray⟩ : ByteArray).toList) = true := by
  rw [str_beq, str_bne]
  exact ⟨decide_eq_false h, decide_eq_true h⟩
set_option maxRecDepth 100000 in
set_option maxHeartbeats 4000000 in
theorem lineDots_any (m : Int) (t : List UInt8) (w : World) (hm : w.cell? ⟨0, 0, none⟩ = some (.int .i64 m)) (hs : t.length ≤ maxLen) : Calls Tryd.prog 8 #[.string ⟨t.toArray⟩] w fun e w' => e = .returned (.bool true) ∧ Below w.heap.size w w' := by
  by_cases hbig : 4096 < t.length
  · have HW := Lib.hid (awake_hid m w hm)
    have hbz : (4096 : Int) < ((⟨t.toArray⟩ : ByteArray).size : Int) := by rw [size_mk]; omega
    clear hm
    generalize (⟨t.toArray⟩ : ByteArray) = S at *
    go_enter Tryd.func8, Tryd.ntmps8
    go_wp2_with (go_at_call 9; refine HW.out.mono ?_; rintro e w1 ⟨rfl, hb, _⟩)
    go_ret
    exact ⟨rfl, hb⟩
  · by_cases hdot : t = [46]
    · subst hdot
      have HW := Lib.hid (awake_hid m w hm)
      have HU := Lib.hid (fun W : World => unstuff_same ⟨#[46]⟩ W)
      rw [show Lin.uns (⟨#[46]⟩ : ByteArray).data.toList = ([], true) from a_u1] at HU
      clear hm
      go_enter Tryd.func8, Tryd.ntmps8
      go_wp2_with (first
        | (go_at_call 9; refine HW.out.mono ?_; rintro e w1 ⟨rfl, hb, _⟩)
        | (go_at_call 15; refine (HU.out _).mono ?_; rintro e w' ⟨rfl, rfl⟩))
      go_ret
      exact ⟨rfl, hb⟩
    have hb1 : t.length ≤ 4096 := by omega
    have hsz : (⟨t.toArray⟩ : ByteArray).size = t.length := size_mk t
    have hA : (⟨(Lin.stf t ++ tl).toArray⟩ : ByteArray).size = (Lin.stf t).length + 5 := by rw [size_mk, List.length_append]; rfl
    have hlo : (⟨(Lin.stf t ++ tl).toArray⟩ : ByteArray).extract 0 ((⟨(Lin.stf t ++ tl).toArray⟩ : ByteArray).size - 5) = ⟨(Lin.stf t).toArray⟩ := by rw [hA, Nat.add_sub_cancel]; exact cut_lo _
    have hhi : (⟨(Lin.stf t ++ tl).toArray⟩ : ByteArray).extract ((⟨(Lin.stf t ++ tl).toArray⟩ : ByteArray).size - 5) (⟨(Lin.stf t ++ tl).toArray⟩ : ByteArray).size = ⟨tl.toArray⟩ := by rw [hA, Nat.add_sub_cancel]; exact cut_hi _
    have h4 : (((⟨(Lin.stf t ++ tl).toArray⟩ : ByteArray).extract ((⟨(Lin.stf t ++ tl).toArray⟩ : ByteArray).size - 5) (⟨(Lin.stf t ++ tl).toArray⟩ : ByteArray).size).toList == [13, 10, 46, 13, 10]) = true := by
      rw [hhi, ByteArray.toList_eq]; rfl
    have hl : (Lin.stf t).length = t.length ∨ (Lin.stf t).length = t.length + 1 := by unfold Lin.stf; split <;> simp
    have h2 := fun W : World => stuff_one t W hb1
    have key : ∀ y, Lin.uns t = (y, false) → ∀ W : World, Calls Tryd.prog 15 #[.string ⟨t.toArray⟩] W fun e w' => e = .returned (.tuple #[.string ⟨y.toArray⟩, .bool false]) ∧ W = w' := fun y hy W => by
      have := unstuff_same ⟨t.toArray⟩ W
      rw [show (⟨t.toArray⟩ : ByteArray).data.toList = t from rfl, hy] at this
      exact this
    have key2 : Lin.uns (Lin.stf t) = (t, false) → ∀ W : World, Calls Tryd.prog 15 #[.string ((⟨(Lin.stf t ++ tl).toArray⟩ : ByteArray).extract 0 ((⟨(Lin.stf t ++ tl).toArray⟩ : ByteArray).size - 5))] W fun e w' => e = .returned (.tuple #[.string ⟨t.toArray⟩, .bool false]) ∧ W = w' := fun hy W => by
      rw [hlo]
      have := unstuff_same ⟨(Lin.stf t).toArray⟩ W
      rw [show (⟨(Lin.stf t).toArray⟩ : ByteArray).data.toList = Lin.stf t from rfl, hy] at this
      exact this
    cases t with
    | nil => exact dots_empty m _ _ _ (Lin.stf []).length w hm (by rw [hsz]; decide) (key [] rfl) h2 hA (by decide) (by rw [hA, hsz]; decide) (by rw [hA, hsz]; decide) (key2 rfl) h4 (by rw [hsz]; decide) rfl
    | cons c r =>
      have hp : 0 < (⟨(c :: r).toArray⟩ : ByteArray).size := by rw [size_mk]; exact Nat.succ_pos _
      by_cases hc : c = 46
      · subst hc
        cases r with
        | nil => exact absurd rfl hdot
        | cons d q =>
          have hne := byte_ne (x := d :: q) (y := 46 :: d :: q) (fun e => by have := congrArg List.length e; simp at this)
          refine dots_dot m _ _ _ (Lin.stf (46 :: d :: q)).length w hm (by rw [hsz]; omega) (key (d :: q) (uns_dot d q)) h2 hA (by omega) (by rw [hA, hsz]; omega) (by rw [hA, hsz]; omega) (key2 (by rw [stf_dot]; exact uns_dot 46 _)) h4 (by omega) hp rfl hne.1 hne.2 ?_ ?_
          · rw [size_mk]; simp only [List.length_cons] at hb1 ⊢; omega
          · exact mk_append [46] (d :: q)
      · have hcz : ¬ (c.toNat : Int) = 46 := fun e => hc (UInt8.toNat_inj.1 (by show c.toNat = 46; omega))
        refine dots_plain m _ _ _ (Lin.stf (c :: r)).length w hm (by rw [hsz]; omega) (key (c :: r) (uns_plain c r hc)) h2 hA (by omega) (by rw [hA, hsz]; omega) (by rw [hA, hsz]; omega) (key2 (by rw [stf_plain c r hc]; exact uns_plain c r hc)) h4 (by omega) hp (beq_eq_false_iff_ne.2 hcz) rfl
end Go.Proofs.YtakhgoifgpdgiaaDoor
