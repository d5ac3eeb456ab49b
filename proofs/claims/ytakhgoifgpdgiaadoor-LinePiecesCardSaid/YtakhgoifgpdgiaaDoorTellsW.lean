/-
  PROVED HERE: LineTells of the statements answers true (the walk).
-/
import Derived.Test.YtakhgoifgpdgiaaDoorDotsW
set_option linter.unusedVariables false
namespace Lin
theorem joi_tot (l : List (List UInt8)) : (joi l).length = tot l + 2 * l.length := by
  induction l with
  | nil => rfl
  | cons x l ih => simp only [joi, tot, E, List.length_append, List.length_cons, List.length_nil, ih]; omega
theorem stf_len (x : List UInt8) : (stf x).length ≤ x.length + 1 := by unfold stf; split <;> simp
theorem tot_stf (l : List (List UInt8)) : tot (l.map stf) ≤ tot l + l.length := by
  induction l with
  | nil => exact Nat.le_refl _
  | cons x l ih =>
    have := stf_len x
    simp only [List.map_cons, tot, List.length_cons]; omega
theorem stu_tot (l : List (List UInt8)) : (stu l).length ≤ tot l + 3 * l.length + 3 := by
  have h := tot_stf l
  have h2 := joi_tot (l.map stf)
  rw [List.length_map] at h2
  unfold stu
  rw [List.length_append]
  simp only [List.length_cons, List.length_nil]
  omega
end Lin
namespace Go.Proofs.YtakhgoifgpdgiaaDoor
open Go.RowKit

theorem txs_below {w w' : World} {A : Option Addr} {l : List (List UInt8)} (h : Txs w A l) (hb : Below w.heap.size w w') : Txs w' A l := fun k hk => by
  obtain ⟨b, off, e, f⟩ := h k hk
  exact ⟨b, off, e, by rw [hb.cell (World.block_lt_of_cell? _ _ f)]; exact f⟩
/-- large, by the sum of lengths. -/
def lrg (l : List (List UInt8)) : Bool := decide (100 < l.length) || decide (4096 < Lin.tot l)
theorem tot_le (l : List (List UInt8)) (c : Nat) (h : ∀ x ∈ l, x.length ≤ c) : Lin.tot l ≤ l.length * c := by
  induction l with
  | nil => exact Nat.zero_le _
  | cons x l ih =>
    have h1 := h x (List.mem_cons_self ..)
    have h2 := ih (fun y hy => h y (List.mem_cons_of_mem _ hy))
    simp only [Lin.tot, List.length_cons, Nat.add_mul, Nat.one_mul]
    omega
theorem large_any (A : Option Addr) (cap : Nat) (l : List (List UInt8)) (w : World) (h : Txs w A l) (hx : ∀ x ∈ l, x.length ≤ reachBytes) (hs : l.length ≤ reachBytes) :
    Calls Tryd.prog 10 #[.slice A l.length cap] w fun e w' => e = .returned (.bool (lrg l)) ∧ w = w' := by
  have hm : reachBytes = 140737488351232 := rfl
  unfold lrg
  by_cases hb : 100 < l.length
  · rw [decide_eq_true hb, Bool.true_or]
    exact (large_many A cap _ l w rfl h (by omega) hb).mono fun _ _ h => ⟨h.1, h.2.symm⟩
  · rw [decide_eq_false hb, Bool.false_or]
    have h1 := tot_le l reachBytes hx
    have h2 : l.length * reachBytes ≤ 100 * reachBytes := Nat.mul_le_mul_right _ (by omega)
    exact (large_few A cap _ l w rfl h (by omega) (by rw [hm] at h1 h2; omega)).mono fun _ _ h => ⟨h.1, h.2.symm⟩
theorem lrg_false {l : List (List UInt8)} (h : lrg l = false) : l.length ≤ 100 ∧ Lin.tot l ≤ 4096 := by
  unfold lrg at h
  rw [Bool.or_eq_false_iff] at h
  have h1 := of_decide_eq_false h.1
  have h2 := of_decide_eq_false h.2
  omega
/-- The world of a walk of the laws: behind awake. -/
structure At (m : Int) (w w' : World) : Prop where
  below : Below w.heap.size w w'
  cell : w'.cell? ⟨0, 0, none⟩ = some (.int .i64 m)
theorem At.next {m : Int} {w w1 w2 : World} (h : At m w w1) (hb : Below w1.heap.size w1 w2) : At m w w2 :=
  ⟨h.below.trans (hb.mono h.below.size), by rw [hb.cell (World.block_lt_of_cell? _ _ h.cell)]; exact h.cell⟩
theorem awake_at (m : Int) (w : World) (hm : w.cell? ⟨0, 0, none⟩ = some (.int .i64 m)) : Calls Tryd.prog 9 #[] w fun e w' => e = .returned (.bool true) ∧ At m w w' :=
  (awake_hid m w hm).mono fun _ _ h => ⟨h.1, h.2.1, h.2.2⟩
theorem at_txs {m : Int} {w w' : World} {A : Option Addr} {l : List (List UInt8)} (h : At m w w') (hT : Txs w A l) : Txs w' A l := txs_below hT h.below

theorem split_at {m : Int} {w w1 : World} (t : List UInt8) (h : At m w w1) (hs : t.length < 4294967281) :
    Calls Tryd.prog 11 #[.string ⟨t.toArray⟩] w1 fun e w' => ∃ A c, e = .returned (.tuple #[.slice A (Lin.spl t).1.length c, sV (Lin.spl t).2]) ∧ Txs w' A (Lin.spl t).1 ∧ At m w w' ∧ Below w1.heap.size w1 w' :=
  (split_any ⟨t.toArray⟩ m w1 (by rw [size_mk]; exact hs) h.cell).mono fun e w' ⟨⟨c, e1⟩, e2, e3⟩ => ⟨_, c, e1, e2, h.next e3, e3⟩
theorem rsplit_at {m : Int} {w w1 : World} (t : List UInt8) (h : At m w w1) (hs : t.length < 4294967281) :
    Calls Tryd.prog 12 #[.string ⟨t.toArray⟩] w1 fun e w' => ∃ A c, e = .returned (.tuple #[.slice A (Lin.spl t).1.length c, sV (Lin.spl t).2]) ∧ Txs w' A (Lin.spl t).1 ∧ At m w w' ∧ Below w1.heap.size w1 w' :=
  (rsplit_any ⟨t.toArray⟩ w1 (by rw [size_mk]; exact hs)).mono fun e w' ⟨⟨A, c, e1, e2⟩, e3⟩ => ⟨A, c, e1, e2, h.next e3, e3⟩
/-- What Unstuffed tells: texts, how many bytes they had, whether there is an end. -/
def usO (t : List UInt8) : List (List UInt8) := match Lin.usd (Lin.spl t).1 with | none => [] | some (o, _) => o
def usR (t : List UInt8) : List UInt8 := match Lin.usd (Lin.spl t).1 with | none => [] | some (_, m) => t.drop m
def usB (t : List UInt8) : Bool := (Lin.usd (Lin.spl t).1).isSome
theorem usd_len : ∀ (l : List (List UInt8)) (p : List (List UInt8) × Nat), Lin.usd l = some p → p.1.length ≤ l.length
  | [], p, h => by cases h
  | x :: l, p, h => by
    unfold Lin.usd at h
    split at h
    · cases h; exact Nat.zero_le _
    · cases hu : Lin.usd l with
      | none => rw [hu] at h; cases h
      | some q =>
        rw [hu] at h
        cases h
        have := usd_len l q hu
        simp only [List.length_cons]
        omega
theorem usO_len (t : List UInt8) : (usO t).length ≤ t.length := by
  unfold usO
  cases hu : Lin.usd (Lin.spl t).1 with
  | none => exact Nat.zero_le _
  | some p =>
    have := usd_len _ _ hu
    have := Lin.spl_len t
    obtain ⟨o, k⟩ := p
    simp only at *
    omega
theorem uns_plainly {t : List UInt8} {e : Ending} {w' : World} (h : UnsPost t e w') : ∃ A c, e = .returned (.tuple #[.slice A (usO t).length c, sV (usR t), .bool (usB t)]) ∧ Txs w' A (usO t) := by
  unfold UnsPost at h
  unfold usO usR usB
  cases hu : Lin.usd (Lin.spl t).1 with
  | none =>
    rw [hu] at h
    exact ⟨none, 0, h, txs_nil _ _⟩
  | some p =>
    obtain ⟨o, k⟩ := p
    rw [hu] at h
    exact h
theorem unst_at {m : Int} {w w1 : World} (t : List UInt8) (h : At m w w1) (hs : t.length < 4294967281) :
    Calls Tryd.prog 13 #[.string ⟨t.toArray⟩] w1 fun e w' => ∃ A c, e = .returned (.tuple #[.slice A (usO t).length c, sV (usR t), .bool (usB t)]) ∧ Txs w' A (usO t) ∧ At m w w' ∧ Below w1.heap.size w1 w' :=
  (unstuffed_any t m w1 hs h.cell (Nat.lt_of_le_of_lt (Nat.zero_le _) (World.block_lt_of_cell? _ _ h.cell))).mono fun e w' ⟨e1, e2⟩ => by
    obtain ⟨A, c, e3, e4⟩ := uns_plainly e1
    exact ⟨A, c, e3, e4, h.next e2, e2⟩
theorem runst_at {m : Int} {w w1 : World} (t : List UInt8) (h : At m w w1) (hs : t.length < 4294967281) :
    Calls Tryd.prog 14 #[.string ⟨t.toArray⟩] w1 fun e w' => ∃ A c, e = .returned (.tuple #[.slice A (usO t).length c, sV (usR t), .bool (usB t)]) ∧ Txs w' A (usO t) ∧ At m w w' ∧ Below w1.heap.size w1 w' :=
  (runstuffed_any t w1 hs).mono fun e w' ⟨e1, e2⟩ => by
    obtain ⟨A, c, e3, e4⟩ := uns_plainly e1
    exact ⟨A, c, e3, e4, h.next e2, e2⟩
theorem same_at {m : Int} {w w1 : World} {A B : Option Addr} {c1 c2 : Nat} {l : List (List UInt8)} (h : At m w w1) (ha : Txs w1 A l) (hb : Txs w1 B l) (hs : l.length < 4611686018427387904) :
    Calls Tryd.prog 17 #[.slice A l.length c1, .slice B l.length c2] w1 fun e w' => e = .returned (.bool true) ∧ At m w w' ∧ Below w1.heap.size w1 w' :=
  (same_any A B c1 c2 l l w1 ha hb hs).mono fun e w' ⟨e1, k, e2⟩ => by
    subst e2
    rw [decide_eq_true rfl] at e1
    exact ⟨e1, h.next (below_drewN (Below.refl _ _) _), below_drewN (Below.refl _ _) _⟩
theorem join_at {m : Int} {w w1 : World} {A : Option Addr} {c : Nat} {l : List (List UInt8)} (h : At m w w1) (ha : Txs w1 A l) (hs : l.length ≤ 100) (ht : Lin.tot l ≤ 4096) :
    Calls Tryd.prog 18 #[.slice A l.length c] w1 fun e w' => e = .returned (.string ⟨(Lin.joi l).toArray⟩) ∧ At m w w' ∧ Below w1.heap.size w1 w' :=
  (join_any A c _ l w1 rfl ha (by omega) (by rw [Lin.joi_tot]; omega)).mono fun _ _ h2 => ⟨h2.1, h.next h2.2, h2.2⟩
theorem rjoin_at {m : Int} {w w1 : World} {A : Option Addr} {c : Nat} {l : List (List UInt8)} (h : At m w w1) (ha : Txs w1 A l) (hs : l.length ≤ 100) (ht : Lin.tot l ≤ 4096) :
    Calls Tryd.prog 19 #[.slice A l.length c] w1 fun e w' => e = .returned (.string ⟨(Lin.joi l).toArray⟩) ∧ w1 = w' :=
  (rjoin_any A c _ l w1 rfl ha (by omega) (by rw [Lin.joi_tot]; omega)).mono fun _ _ h2 => ⟨h2.1, h2.2.symm⟩
theorem stuff_at {m : Int} {w w1 : World} {A : Option Addr} {c : Nat} {l : List (List UInt8)} (h : At m w w1) (ha : Txs w1 A l) (hs : l.length ≤ 100) (ht : Lin.tot l ≤ 4096) :
    Calls Tryd.prog 20 #[.slice A l.length c] w1 fun e w' => e = .returned (.string ⟨(Lin.stu l).toArray⟩) ∧ At m w w' ∧ Below w1.heap.size w1 w' :=
  (stuff_any A c _ l w1 rfl ha (by omega) (Nat.le_trans (Lin.stu_tot l) (by omega))).mono fun _ _ h2 => ⟨h2.1, h.next h2.2, h2.2⟩
theorem rstuff_at {m : Int} {w w1 : World} {A : Option Addr} {c : Nat} {l : List (List UInt8)} (h : At m w w1) (ha : Txs w1 A l) (hs : l.length ≤ 100) (ht : Lin.tot l ≤ 4096) :
    Calls Tryd.prog 21 #[.slice A l.length c] w1 fun e w' => e = .returned (.string ⟨(Lin.stu l).toArray⟩) ∧ At m w w' ∧ Below w1.heap.size w1 w' :=
  (rstuff_any A c _ l w1 rfl ha (by omega) (Nat.le_trans (Lin.stu_tot l) (by omega))).mono fun _ _ h2 => ⟨h2.1, h.next h2.2, h2.2⟩
theorem run_at {m : Int} {w w1 w2 : World} {e : Ending} {v : Value} (h : At m w w1) (k : e = .returned v ∧ Below w1.heap.size w1 w2) : e = .returned v ∧ At m w w2 ∧ Below w1.heap.size w1 w2 := ⟨k.1, h.next k.2, k.2⟩

set_option maxRecDepth 100000 in
set_option maxHeartbeats 4000000 in
theorem lineTells_any (m : Int) (t : List UInt8) (A : Option Addr) (cap : Nat) (l : List (List UInt8)) (w : World) (hm : w.cell? ⟨0, 0, none⟩ = some (.int .i64 m)) (ht : t.length ≤ maxLen) (hT : Txs w A l) (hx : ∀ x ∈ l, x.length ≤ reachBytes) (hl : l.length ≤ reachBytes) :
    Calls Tryd.prog 3 #[.string ⟨t.toArray⟩, .slice A l.length cap] w fun e w' => e = .returned (.bool true) ∧ Below w.heap.size w w' := by
  have HW := Lib.hid (awake_at m w hm)
  have HT := Lib.hid hT
  have HX := Lib.hid hx
  have HL := Lib.hid hl
  obtain ⟨S, hS⟩ : ∃ S : ByteArray, S = ⟨t.toArray⟩ := ⟨_, rfl⟩
  have hSz : S.size = t.length := by rw [hS, size_mk]
  rw [← hS]
  have HSZ := Lib.hid hSz
  obtain ⟨n, hn⟩ : ∃ n, n = l.length := ⟨_, rfl⟩
  have HN := Lib.hid hn
  rw [← hn]
  clear hm hT hx hl hSz hn
  by_cases hbig : 4096 < t.length
  · have hbz : (4096 : Int) < (S.size : Int) := by rw [HSZ.out]; omega
    clear hbig hS ht
    go_enter Tryd.func3, Tryd.ntmps3
    go_wp2_with (go_at_call 9; refine HW.out.mono ?_; rintro e w1 ⟨rfl, hb⟩)
    go_ret
    exact ⟨rfl, hb.below⟩
  have hbz : ¬ (4096 : Int) < (S.size : Int) := by rw [HSZ.out]; omega
  have hts : t.length < 4294967281 := by omega
  clear hbig ht
  have HLG := Lib.hid (fun (W : World) (h : At m w W) => large_any A cap l W (at_txs h HT.out) HX.out HL.out)
  rw [← HN.out] at HLG
  cases hlg : lrg l with
  | true =>
    rw [hlg] at HLG
    clear hS
    go_enter Tryd.func3, Tryd.ntmps3
    go_wp2_with (first
      | (go_at_call 9; refine HW.out.mono ?_; rintro e w1 ⟨rfl, hb⟩; have HA := Lib.hid hb; clear hb)
      | (go_at_call 10; refine (HLG.out _ HA.out).mono ?_; rintro e w' ⟨rfl, rfl⟩))
    go_ret
    exact ⟨rfl, HA.out.below⟩
  | false =>
    rw [hlg] at HLG
    obtain ⟨hl1, hl2⟩ := lrg_false hlg
    have HSP := Lib.hid (fun (W : World) (h : At m w W) => split_at t h hts)
    have HRS := Lib.hid (fun (W : World) (h : At m w W) => rsplit_at t h hts)
    have HUN := Lib.hid (fun (W : World) (h : At m w W) => unst_at t h hts)
    have HRU := Lib.hid (fun (W : World) (h : At m w W) => runst_at t h hts)
    have HU1 := Lib.hid (fun W : World => unstuff_same ⟨t.toArray⟩ W)
    have HU2 := Lib.hid (fun W : World => runstuff_same ⟨t.toArray⟩ W (by rw [size_mk]; omega))
    have HJ := Lib.hid (fun (W : World) (h : At m w W) => join_at (c := cap) h (at_txs h HT.out) hl1 hl2)
    have HRJ := Lib.hid (fun (W : World) (h : At m w W) => rjoin_at (c := cap) h (at_txs h HT.out) hl1 hl2)
    have HST := Lib.hid (fun (W : World) (h : At m w W) => stuff_at (c := cap) h (at_txs h HT.out) hl1 hl2)
    have HRT := Lib.hid (fun (W : World) (h : At m w W) => rstuff_at (c := cap) h (at_txs h HT.out) hl1 hl2)
    have HB1 : Hid ((Lin.spl t).1.length < 4611686018427387904) := by
      have := Lin.spl_len t
      show _ < _
      omega
    have HB2 : Hid ((usO t).length < 4611686018427387904) := Nat.lt_of_le_of_lt (usO_len t) (by omega)
    rw [← hS] at HSP HRS HUN HRU HU1 HU2
    rw [← HN.out] at HJ HRJ HST HRT
    clear hS hlg hl1 hl2 hts
    generalize (Lin.uns S.data.toList).1 = ux at HU1 HU2
    generalize (Lin.uns S.data.toList).2 = ub at HU1 HU2
    generalize Lin.joi l = jl at *
    generalize Lin.stu l = sl at *
    generalize (Lin.spl t).1 = La at *
    generalize (Lin.spl t).2 = Lr at *
    generalize usO t = Ua at *
    generalize usR t = Ur at *
    generalize usB t = Ub at *
    unfold sV at HSP HRS HUN HRU
    go_enter Tryd.func3, Tryd.ntmps3
    go_wp2_with (first
      | (go_at_call 9; refine HW.out.mono ?_; rintro e w1 ⟨rfl, hb⟩; have HA := Lib.hid hb; clear hb)
      | (go_at_call 10; refine (HLG.out _ HA.out).mono ?_; rintro e w' ⟨rfl, rfl⟩)
      | (go_at_call 11; refine (HSP.out _ HA.out).mono ?_; rintro e w2 ⟨A1, c1, rfl, hT1, hA2, _⟩; have HT1 := Lib.hid hT1; have HA2 := Lib.hid hA2; clear hT1 hA2)
      | (go_at_call 12; refine (HRS.out _ HA2.out).mono ?_; rintro e w3 ⟨A2, c2, rfl, hT2, hA3, hb3⟩; have HT2 := Lib.hid hT2; have HA3 := Lib.hid hA3; have HT1b := Lib.hid (txs_below HT1.out hb3); clear hT2 hA3 hb3)
      | (go_at_call 13; refine (HUN.out _ HA3.out).mono ?_; rintro e w4 ⟨A3, c3, rfl, hT3, hA4, hb4⟩; have HT3 := Lib.hid hT3; have HA4 := Lib.hid hA4; have HT1c := Lib.hid (txs_below HT1b.out hb4); have HT2c := Lib.hid (txs_below HT2.out hb4); clear hT3 hA4 hb4)
      | (go_at_call 14; refine (HRU.out _ HA4.out).mono ?_; rintro e w5 ⟨A4, c4, rfl, hT4, hA5, hb5⟩; have HT4 := Lib.hid hT4; have HA5 := Lib.hid hA5; have HT1d := Lib.hid (txs_below HT1c.out hb5); have HT2d := Lib.hid (txs_below HT2c.out hb5); have HT3d := Lib.hid (txs_below HT3.out hb5); clear hT4 hA5 hb5)
      | (go_at_call 15; refine (HU1.out _).mono ?_; rintro e w' ⟨rfl, rfl⟩)
      | (go_at_call 16; refine (HU2.out _).mono ?_; rintro e w' ⟨rfl, rfl⟩))
    refine (same_at HA5.out HT1d.out HT2d.out HB1.out).mono ?_
    rintro e w6 ⟨rfl, h6, hb6⟩
    have HA6 := Lib.hid h6
    have HT3e := Lib.hid (txs_below HT3d.out hb6)
    have HT4e := Lib.hid (txs_below HT4.out hb6)
    clear h6 hb6
    go_wp2_with fail
    refine (same_at HA6.out HT3e.out HT4e.out HB2.out).mono ?_
    rintro e w7 ⟨rfl, h7, hb7⟩
    have HA7 := Lib.hid h7
    clear h7 hb7
    go_wp2_with fail
    refine (HJ.out _ HA7.out).mono ?_
    rintro e w8 ⟨rfl, h8, hb8⟩
    have HA8 := Lib.hid h8
    clear h8 hb8
    go_wp2_with fail
    refine (HRJ.out _ HA8.out).mono ?_
    rintro e w' ⟨rfl, rfl⟩
    go_wp2_with fail
    refine (HST.out _ HA8.out).mono ?_
    rintro e w9 ⟨rfl, h9, hb9⟩
    have HA9 := Lib.hid h9
    clear h9 hb9
    go_wp2_with fail
    refine (HRT.out _ HA9.out).mono ?_
    rintro e w10 ⟨rfl, h10, hb10⟩
    have HA10 := Lib.hid h10
    clear h10 hb10
    go_wp2_with fail
    go_ret
    exact ⟨rfl, HA10.out.below⟩
end Go.Proofs.YtakhgoifgpdgiaaDoor
