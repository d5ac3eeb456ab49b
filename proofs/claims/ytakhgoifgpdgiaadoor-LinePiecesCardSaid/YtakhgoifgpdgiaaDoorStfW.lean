/-
  PROVED HERE: LineStuffed of the statements answers true (the walk).
-/
import Derived.Test.YtakhgoifgpdgiaaDoorBackW
set_option linter.unusedVariables false
namespace Go.Proofs.YtakhgoifgpdgiaaDoor
open Go.RowKit

theorem usd_plain {t : List UInt8} {o : List (List UInt8)} {k : Nat} (h : Lin.usd (Lin.spl t).1 = some (o, k)) : usO t = o ∧ usR t = t.drop k ∧ usB t = true := by
  unfold usO usR usB
  rw [h]
  exact ⟨rfl, rfl, rfl⟩
theorem usd_none {t : List UInt8} (h : Lin.usd (Lin.spl t).1 = none) : usB t = false := by
  unfold usB
  rw [h]
  rfl

set_option maxRecDepth 100000 in
set_option maxHeartbeats 8000000 in
theorem lineStuffed_any (m : Int) (A : Option Addr) (cap : Nat) (l : List (List UInt8)) (r : List UInt8) (w : World) (hm : w.cell? ⟨0, 0, none⟩ = some (.int .i64 m)) (hT : Txs w A l) (hx : ∀ x ∈ l, x.length ≤ reachBytes) (hl : l.length ≤ reachBytes) (hr : r.length ≤ maxLen) :
    Calls Tryd.prog 7 #[.slice A l.length cap, .string ⟨r.toArray⟩] w fun e w' => e = .returned (.bool true) ∧ Below w.heap.size w w' := by
  have HW := Lib.hid (awake_at m w hm)
  have HT := Lib.hid hT
  have HX := Lib.hid hx
  have HL := Lib.hid hl
  obtain ⟨R, hRR⟩ : ∃ R : ByteArray, R = ⟨r.toArray⟩ := ⟨_, rfl⟩
  have HRZ : Hid (R.size = r.length) := by show _ = _; rw [hRR, size_mk]
  rw [← hRR]
  have HRR := Lib.hid hRR
  clear hRR
  obtain ⟨n, hn⟩ : ∃ n, n = l.length := ⟨_, rfl⟩
  have HN := Lib.hid hn
  rw [← hn]
  clear hm hT hx hl hn
  have HLG := Lib.hid (fun (W : World) (h : At m w W) => large_any A cap l W (at_txs h HT.out) HX.out HL.out)
  rw [← HN.out] at HLG
  cases hlg : lrg l with
  | true =>
    rw [hlg] at HLG
    go_enter Tryd.func7, Tryd.ntmps7
    go_wp2_with (first
      | (go_at_call 9; refine HW.out.mono ?_; rintro e w1 ⟨rfl, hb⟩; have HA := Lib.hid hb; clear hb)
      | (go_at_call 10; refine (HLG.out _ HA.out).mono ?_; rintro e w' ⟨rfl, rfl⟩))
    go_ret
    exact ⟨rfl, HA.out.below⟩
  | false =>
    rw [hlg] at HLG
    by_cases hrb : 4096 < r.length
    · have hrz : (4096 : Int) < (R.size : Int) := by rw [HRZ.out]; omega
      clear hrb hr
      go_enter Tryd.func7, Tryd.ntmps7
      go_wp2_with (first
        | (go_at_call 9; refine HW.out.mono ?_; rintro e w1 ⟨rfl, hb⟩; have HA := Lib.hid hb; clear hb)
        | (go_at_call 10; refine (HLG.out _ HA.out).mono ?_; rintro e w' ⟨rfl, rfl⟩))
      go_ret
      exact ⟨rfl, HA.out.below⟩
    have hrz : ¬ (4096 : Int) < (R.size : Int) := by rw [HRZ.out]; omega
    have hrs : r.length ≤ 4096 := by omega
    clear hrb hr
    obtain ⟨hl1, hl2⟩ := lrg_false hlg
    have HL1 := Lib.hid hl1
    have HL2 := Lib.hid hl2
    clear hlg hl1 hl2
    go_enter Tryd.func7, Tryd.ntmps7
    go_wp2_with (first
      | (go_at_call 9; refine HW.out.mono ?_; rintro e w1 ⟨rfl, hb⟩; have HA3 := Lib.hid hb; clear hb)
      | (go_at_call 10; refine (HLG.out _ HA3.out).mono ?_; rintro e w' ⟨rfl, rfl⟩))
    have hn100 : n ≤ 100 := by rw [HN.out]; exact HL1.out
    go_loopw [25] (fun u wr => ∃ k : Nat, u = .int .i64 k ∧ k ≤ n ∧ Hid (At m w wr) ∧ Hid (∀ x ∈ l.take k, Lin.Cl x)) (fun u _ => n - (intOf u).toNat)
    case atStart => exact ⟨0, rfl, Nat.zero_le _, HA3, fun x hx => by simp at hx⟩
    case round =>
      obtain ⟨k, rfl, hk, HK, HC⟩ := hrel
      by_cases hlt : k < n
      · have hltz : (k : Int) < (n : Int) := by omega
        have hkl : k < l.length := by rw [← HN.out]; exact hlt
        obtain ⟨b1, o1, rfl, f1⟩ := (at_txs HK.out HT.out) k hkl
        have hXb : (at' l k).length ≤ 4096 := Nat.le_trans (tot_at l k hkl) HL2.out
        have HCM := Lib.hid (cl_more hkl HC.out)
        have HS2 := Lib.hid (fun (W : World) (h : At m w W) => split_at (at' l k ++ [13, 10]) h (by rw [List.length_append]; simp only [List.length_cons, List.length_nil]; omega))
        have HF := Lib.hid (fun (W : World) (h : At m w W) => (at_txs h HT.out) k hkl)
        unfold sV at HS2
        have hg1 : ¬ 9223372036854775807 < (at' l k).length + 2 := by omega
        unfold Lin.Cl at HCM
        have hcat := mk_append (at' l k) [13, 10]
        generalize at' l k = X at *
        generalize hp : (Lin.spl (X ++ [13, 10])).1 = p at *
        generalize (Lin.spl (X ++ [13, 10])).2 = p2 at *
        clear hkl hXb hp
        have done : p.length ≠ 1 ∨ p.length = 1 := by omega
        rcases done with hne | hone
        · have e1 : ((p.length : Int) == 1) = false := beq_eq_false_iff_ne.2 (by omega)
          have e2 : ((p.length : Int) != 1) = true := by unfold bne; rw [e1]; rfl
          have e3 : ¬ (p.length : Int) = 1 := by omega
          clear HCM HF HC
          go_wp2_with (go_at_call 11; refine (HS2.out _ HK.out).mono ?_; rintro e w4 ⟨A2, c2, rfl, hT2, hA4, _⟩; have HA4 := Lib.hid hA4; clear hT2 hA4)
          go_quiet (fail)
          go_wp2
          go_ret
          exact ⟨rfl, below_drewN HA4.out.below _⟩
        · obtain ⟨y, rfl⟩ := List.length_eq_one_iff.1 hone
          have HF2 := Lib.hid (fun (W : World) (h : At m w W) => HF.out W h)
          by_cases hy : y = X
          · subst hy
            have e1 := lst_beq y y
            rw [decide_eq_true rfl] at e1
            have HC2 := Lib.hid (HCM.out rfl)
            clear HCM HF HC
            go_wp2_with (go_at_call 11; refine (HS2.out _ HK.out).mono ?_; rintro e w4 ⟨A2, c2, rfl, hT2, hA4, _⟩; have HA4 := Lib.hid hA4; have HT2 := Lib.hid hT2; clear hT2 hA4)
            obtain ⟨b2, o2, rfl, g1⟩ := HT2.out 0 Nat.one_pos
            rw [show at' [y] 0 = y from rfl, Nat.add_zero] at g1
            obtain ⟨b3, o3, q3, g2⟩ := HF2.out _ HA4.out
            cases q3
            clear f1
            go_quiet (fail)
            go_wp2
            go_roundw
            case rel => exact ⟨k + 1, by go_num, by omega, HA4.out.next (below_drewN (Below.refl _ _) _), HC2⟩
            case measure => simp [intOf]; omega
          · have e1 := lst_beq y X
            rw [decide_eq_false hy] at e1
            have e2 : (y != X) = true := by unfold bne; rw [e1]; rfl
            clear HCM HF HC hy
            go_wp2_with (go_at_call 11; refine (HS2.out _ HK.out).mono ?_; rintro e w4 ⟨A2, c2, rfl, hT2, hA4, _⟩; have HA4 := Lib.hid hA4; have HT2 := Lib.hid hT2; clear hT2 hA4)
            obtain ⟨b2, o2, rfl, g1⟩ := HT2.out 0 Nat.one_pos
            rw [show at' [y] 0 = y from rfl, Nat.add_zero] at g1
            obtain ⟨b3, o3, q3, g2⟩ := HF2.out _ HA4.out
            cases q3
            clear f1
            go_quiet (fail)
            go_wp2
            go_ret
            exact ⟨rfl, below_drewN HA4.out.below _⟩
      · have hltz : ¬ (k : Int) < (n : Int) := by omega
        obtain rfl : k = n := by omega
        have HCL : Hid (∀ x ∈ l, Lin.Cl x) := fun x hx => HC.out x (by rw [HN.out, List.take_length]; exact hx)
        have hst := Lin.stu_tot l
        have h1 := HL1.out
        have h2 := HL2.out
        obtain ⟨e1, e2, e3⟩ := usd_plain (Lin.stu_spl HCL.out r)
        rw [List.drop_left] at e2
        have e4 := usd_none (Lin.stu_early HCL.out)
        have hpos : 1 ≤ (Lin.stu l).length := by unfold Lin.stu; rw [List.length_append]; simp only [List.length_cons, List.length_nil]; omega
        have HS := Lib.hid (fun (W : World) (h : At m w W) => stuff_at (c := cap) h (at_txs h HT.out) HL1.out HL2.out)
        rw [← HN.out] at HS
        have HU := Lib.hid (fun (W : World) (h : At m w W) => unst_at (Lin.stu l ++ r) h (by rw [List.length_append]; omega))
        rw [e1, e2, e3] at HU
        unfold sV at HU
        rw [← HRR.out, ← HN.out] at HU
        have HU2 := Lib.hid (fun (W : World) (h : At m w W) => unst_at ((Lin.stu l).take ((Lin.stu l).length - 1)) h (by rw [List.length_take]; omega))
        rw [e4] at HU2
        unfold sV at HU2
        generalize usO ((Lin.stu l).take ((Lin.stu l).length - 1)) = o2 at HU2
        generalize usR ((Lin.stu l).take ((Lin.stu l).length - 1)) = r2 at HU2
        have hcat : (⟨(Lin.stu l).toArray⟩ : ByteArray) ++ R = ⟨(Lin.stu l ++ r).toArray⟩ := by rw [HRR.out, mk_append]
        have hg1 : ¬ 9223372036854775807 < (⟨(Lin.stu l).toArray⟩ : ByteArray).size + R.size := by rw [size_mk, HRZ.out]; omega
        have hex : (⟨(Lin.stu l).toArray⟩ : ByteArray).extract 0 ((⟨(Lin.stu l).toArray⟩ : ByteArray).size - 1) = ⟨((Lin.stu l).take ((Lin.stu l).length - 1)).toArray⟩ := by
          rw [size_mk]
          have := Lib.extract_data (⟨(Lin.stu l).toArray⟩ : ByteArray) 0 ((Lin.stu l).length - 1)
          rw [show (⟨(Lin.stu l).toArray⟩ : ByteArray).data.toList = Lin.stu l from rfl, List.drop_zero, Nat.sub_zero] at this
          rw [← Lib.mk_data (ByteArray.extract _ _ _), this]
        rw [← hex] at HU2
        have hpz : 1 ≤ (⟨(Lin.stu l).toArray⟩ : ByteArray).size := by rw [size_mk]; exact hpos
        have hpi : (1 : Int) ≤ ((⟨(Lin.stu l).toArray⟩ : ByteArray).size : Int) := by omega
        have hpb : ((⟨(Lin.stu l).toArray⟩ : ByteArray).size : Int) ≤ 10000 := by rw [size_mk]; omega
        have HBL : Hid (l.length < 4611686018427387904) := by
          show _ < _
          omega
        generalize (⟨(Lin.stu l).toArray⟩ : ByteArray) = J3 at *
        generalize (⟨(Lin.stu l ++ r).toArray⟩ : ByteArray) = J4 at *
        clear hex e1 e2 e3 e4 hst h1 h2 hpos
        go_wp2_with fail
        refine (HS.out _ HK.out).mono ?_
        rintro e w5 ⟨rfl, h5, _⟩
        have HA5 := Lib.hid h5
        clear h5
        go_wp2_with fail
        refine (HU.out _ HA5.out).mono ?_
        rintro e w6 ⟨A6, c6, rfl, hT6, h6, hb6⟩
        have HA6 := Lib.hid h6
        have HT6 := Lib.hid hT6
        clear h6 hT6
        go_wp2_with fail
        have hsm := same_at (A := A6) (B := A) (c1 := c6) (c2 := cap) HA6.out HT6.out (at_txs HA6.out HT.out) HBL.out
        rw [← HN.out] at hsm
        refine hsm.mono ?_
        rintro e w7 ⟨rfl, h7, _⟩
        have HA7 := Lib.hid h7
        clear h7 hsm
        go_wp2_with fail
        refine (HS.out _ HA7.out).mono ?_
        rintro e w8 ⟨rfl, h8, _⟩
        have HA8 := Lib.hid h8
        clear h8
        go_wp2_with fail
        refine (HS.out _ HA8.out).mono ?_
        rintro e w9 ⟨rfl, h9, _⟩
        have HA9 := Lib.hid h9
        clear h9
        go_wp2_with fail
        refine (HU2.out _ HA9.out).mono ?_
        rintro e w10 ⟨A10, c10, rfl, _, h10, _⟩
        have HA10 := Lib.hid h10
        clear h10
        go_wp2_with fail
        go_ret
        exact ⟨rfl, HA10.out.below⟩
end Go.Proofs.YtakhgoifgpdgiaaDoor
