/-
  PROVED HERE: LineBack of the statements answers true (the walk).
-/
import Derived.Test.YtakhgoifgpdgiaaDoorPlain
set_option linter.unusedVariables false
namespace Go.Proofs.YtakhgoifgpdgiaaDoor
open Go.RowKit

theorem tot_at (l : List (List UInt8)) (k : Nat) (hk : k < l.length) : (at' l k).length ≤ Lin.tot l := by
  have h1 := tot_succ l k hk
  have h2 := tot_take_le l (k + 1)
  omega
theorem cl_more {l : List (List UInt8)} {k : Nat} (hk : k < l.length) (h : ∀ x ∈ l.take k, Lin.Cl x) (h2 : Lin.Cl (at' l k)) : ∀ x ∈ l.take (k + 1), Lin.Cl x := fun x hx => by
  rw [List.take_add_one, List.getElem?_eq_getElem hk] at hx
  rcases List.mem_append.1 hx with hx | hx
  · exact h x hx
  · have : x = at' l k := by
      unfold at'
      rw [List.getD_eq_getElem?_getD, List.getElem?_eq_getElem hk]
      simpa using hx
    rw [this]
    exact h2
theorem back_bound (t : List UInt8) : Lin.tot (Lin.spl t).1 + 2 * (Lin.spl t).1.length + (Lin.spl t).2.length = t.length := by
  have h := congrArg List.length (Lin.joi_spl t)
  rw [List.length_append, Lin.joi_tot] at h
  exact h
theorem join_big {m : Int} {w w1 : World} {A : Option Addr} {c : Nat} {l : List (List UInt8)} (h : At m w w1) (ha : Txs w1 A l) (hs : Lin.tot l + 2 * l.length ≤ 4096) :
    Calls Tryd.prog 18 #[.slice A l.length c] w1 fun e w' => e = .returned (.string ⟨(Lin.joi l).toArray⟩) ∧ At m w w' ∧ Below w1.heap.size w1 w' :=
  (join_any A c _ l w1 rfl ha (by omega) (by rw [Lin.joi_tot]; omega)).mono fun _ _ h2 => ⟨h2.1, h.next h2.2, h2.2⟩

set_option maxRecDepth 100000 in
set_option maxHeartbeats 8000000 in
theorem lineBack_any (m : Int) (t : List UInt8) (A : Option Addr) (cap : Nat) (l : List (List UInt8)) (r : List UInt8) (w : World) (hm : w.cell? ⟨0, 0, none⟩ = some (.int .i64 m)) (ht : t.length ≤ maxLen) (hT : Txs w A l) (hx : ∀ x ∈ l, x.length ≤ reachBytes) (hl : l.length ≤ reachBytes) (hr : r.length ≤ maxLen) :
    Calls Tryd.prog 6 #[.string ⟨t.toArray⟩, .slice A l.length cap, .string ⟨r.toArray⟩] w fun e w' => e = .returned (.bool true) ∧ Below w.heap.size w w' := by
  have HW := Lib.hid (awake_at m w hm)
  have HT := Lib.hid hT
  have HX := Lib.hid hx
  have HL := Lib.hid hl
  obtain ⟨S, hS⟩ : ∃ S : ByteArray, S = ⟨t.toArray⟩ := ⟨_, rfl⟩
  obtain ⟨R, hRR⟩ : ∃ R : ByteArray, R = ⟨r.toArray⟩ := ⟨_, rfl⟩
  have HSZ : Hid (S.size = t.length) := by show _ = _; rw [hS, size_mk]
  have HRZ : Hid (R.size = r.length) := by show _ = _; rw [hRR, size_mk]
  rw [← hS, ← hRR]
  have HRR := Lib.hid hRR
  clear hRR
  obtain ⟨n, hn⟩ : ∃ n, n = l.length := ⟨_, rfl⟩
  have HN := Lib.hid hn
  rw [← hn]
  clear hm hT hx hl hn
  by_cases hbig : 4096 < t.length
  · have hbz : (4096 : Int) < (S.size : Int) := by rw [HSZ.out]; omega
    clear hbig hS ht hr
    go_enter Tryd.func6, Tryd.ntmps6
    go_wp2_with (go_at_call 9; refine HW.out.mono ?_; rintro e w1 ⟨rfl, hb⟩)
    go_ret
    exact ⟨rfl, hb.below⟩
  have hbz : ¬ (4096 : Int) < (S.size : Int) := by rw [HSZ.out]; omega
  have hts : t.length ≤ 4096 := by omega
  clear hbig ht
  have HLG := Lib.hid (fun (W : World) (h : At m w W) => large_any A cap l W (at_txs h HT.out) HX.out HL.out)
  rw [← HN.out] at HLG
  cases hlg : lrg l with
  | true =>
    rw [hlg] at HLG
    clear hS
    go_enter Tryd.func6, Tryd.ntmps6
    go_wp2_with (first
      | (go_at_call 9; refine HW.out.mono ?_; rintro e w1 ⟨rfl, hb⟩; have HA := Lib.hid hb; clear hb)
      | (go_at_call 10; refine (HLG.out _ HA.out).mono ?_; rintro e w' ⟨rfl, rfl⟩))
    go_ret
    exact ⟨rfl, HA.out.below⟩
  | false =>
    rw [hlg] at HLG
    by_cases hrb : 4096 < r.length
    · have hrz : (4096 : Int) < (R.size : Int) := by rw [HRZ.out]; omega
      clear hrb hS hr
      go_enter Tryd.func6, Tryd.ntmps6
      go_wp2_with (first
        | (go_at_call 9; refine HW.out.mono ?_; rintro e w1 ⟨rfl, hb⟩; have HA := Lib.hid hb; clear hb)
        | (go_at_call 10; refine (HLG.out _ HA.out).mono ?_; rintro e w' ⟨rfl, rfl⟩))
      go_ret
      exact ⟨rfl, HA.out.below⟩
    have hrz : ¬ (4096 : Int) < (R.size : Int) := by rw [HRZ.out]; omega
    have hrs : r.length ≤ 4096 := by omega
    clear hrb hr
    obtain ⟨hl1, hl2⟩ := lrg_false hlg
    have HL1 := Lib.hid hl1
    have HL2 := Lib.hid hl2
    have HRS := Lib.hid hrs
    have hbb := back_bound t
    have HSP := Lib.hid (fun (W : World) (h : At m w W) => split_at t h (by omega))
    have HJB := Lib.hid (fun (W : World) (B : Option Addr) (c : Nat) (h : At m w W) (hb : Txs W B (Lin.spl t).1) => join_big (c := c) h hb (by omega))
    have HCAT : Hid ((⟨(Lin.joi (Lin.spl t).1).toArray⟩ : ByteArray) ++ ⟨(Lin.spl t).2.toArray⟩ = S) := by show _ = _; rw [mk_append, Lin.joi_spl, hS]
    have hg1 : ¬ 9223372036854775807 < (⟨(Lin.joi (Lin.spl t).1).toArray⟩ : ByteArray).size + (⟨(Lin.spl t).2.toArray⟩ : ByteArray).size := by rw [size_mk, size_mk, Lin.joi_tot]; omega
    unfold sV at HSP
    rw [← hS] at HSP
    generalize (⟨(Lin.joi (Lin.spl t).1).toArray⟩ : ByteArray) = J at *
    generalize (⟨(Lin.spl t).2.toArray⟩ : ByteArray) = J2 at *
    have hcat := HCAT.out
    clear HCAT hbb hS hlg hl1 hl2 hts
    go_enter Tryd.func6, Tryd.ntmps6
    go_wp2_with (first
      | (go_at_call 9; refine HW.out.mono ?_; rintro e w1 ⟨rfl, hb⟩; have HA := Lib.hid hb; clear hb)
      | (go_at_call 10; refine (HLG.out _ HA.out).mono ?_; rintro e w' ⟨rfl, rfl⟩)
      | (go_at_call 11; refine (HSP.out _ HA.out).mono ?_; rintro e w2 ⟨A1, c1, rfl, hT1, hA2, _⟩; have HT1 := Lib.hid hT1; have HA2 := Lib.hid hA2; clear hT1 hA2)
      | (go_at_call 18; refine (HJB.out _ _ _ HA2.out HT1.out).mono ?_; rintro e w3 ⟨rfl, hA3, _⟩; have HA3 := Lib.hid hA3; clear hA3))
    clear HSP HJB hcat hg1 HT1
    have hn100 : n ≤ 100 := by rw [HN.out]; exact HL1.out
    go_loopw [43] (fun u wr => ∃ k : Nat, u = .int .i64 k ∧ k ≤ n ∧ Hid (At m w wr) ∧ Hid (∀ x ∈ l.take k, Lin.Cl x)) (fun u _ => n - (intOf u).toNat)
    case atStart => exact ⟨0, rfl, Nat.zero_le _, HA3, fun x hx => by simp at hx⟩
    case round =>
      obtain ⟨k, rfl, hk, HK, HC⟩ := hrel
      by_cases hlt : k < n
      · have hltz : (k : Int) < (n : Int) := by omega
        have hkl : k < l.length := by rw [← HN.out]; exact hlt
        obtain ⟨b1, o1, rfl, f1⟩ := (at_txs HK.out HT.out) k hkl
        have hXb : (at' l k).length ≤ 4096 := Nat.le_trans (tot_at l k hkl) HL2.out
        have HCM := Lib.hid (cl_more hkl HC.out)
        have HS2 := Lib.hid (fun (W : World) (h : At m w W) => split_at (at' l k ++ [13, 10]) h (by rw [List.length_append]; simp only [List.length_cons, List.length_nil]; omega))
        have HF := Lib.hid (fun (W : World) (h : At m w W) => (at_txs h HT.out) k hkl)
        unfold sV at HS2
        have hg1 : ¬ 9223372036854775807 < (at' l k).length + 2 := by omega
        unfold Lin.Cl at HCM
        have hcat := mk_append (at' l k) [13, 10]
        generalize at' l k = X at *
        generalize hp : (Lin.spl (X ++ [13, 10])).1 = p at *
        generalize (Lin.spl (X ++ [13, 10])).2 = p2 at *
        clear hkl hXb hp
        have done : p.length ≠ 1 ∨ p.length = 1 := by omega
        rcases done with hne | hone
        · have e1 : ((p.length : Int) == 1) = false := beq_eq_false_iff_ne.2 (by omega)
          have e2 : ((p.length : Int) != 1) = true := by unfold bne; rw [e1]; rfl
          have e3 : ¬ (p.length : Int) = 1 := by omega
          clear HCM HF HC
          go_wp2_with (go_at_call 11; refine (HS2.out _ HK.out).mono ?_; rintro e w4 ⟨A2, c2, rfl, hT2, hA4, _⟩; have HA4 := Lib.hid hA4; clear hT2 hA4)
          go_quiet (fail)
          go_wp2
          go_ret
          exact ⟨rfl, below_drewN HA4.out.below _⟩
        · obtain ⟨y, rfl⟩ := List.length_eq_one_iff.1 hone
          have HF2 := Lib.hid (fun (W : World) (h : At m w W) => HF.out W h)
          by_cases hy : y = X
          · subst hy
            have e1 := lst_beq y y
            rw [decide_eq_true rfl] at e1
            have HC2 := Lib.hid (HCM.out rfl)
            clear HCM HF HC
            go_wp2_with (go_at_call 11; refine (HS2.out _ HK.out).mono ?_; rintro e w4 ⟨A2, c2, rfl, hT2, hA4, _⟩; have HA4 := Lib.hid hA4; have HT2 := Lib.hid hT2; clear hT2 hA4)
            obtain ⟨b2, o2, rfl, g1⟩ := HT2.out 0 Nat.one_pos
            rw [show at' [y] 0 = y from rfl, Nat.add_zero] at g1
            obtain ⟨b3, o3, q3, g2⟩ := HF2.out _ HA4.out
            cases q3
            clear f1
            go_quiet (fail)
            go_wp2
            go_roundw
            case rel => exact ⟨k + 1, by go_num, by omega, HA4.out.next (below_drewN (Below.refl _ _) _), HC2⟩
            case measure => simp [intOf]; omega
          · have e1 := lst_beq y X
            rw [decide_eq_false hy] at e1
            have e2 : (y != X) = true := by unfold bne; rw [e1]; rfl
            clear HCM HF HC hy
            go_wp2_with (go_at_call 11; refine (HS2.out _ HK.out).mono ?_; rintro e w4 ⟨A2, c2, rfl, hT2, hA4, _⟩; have HA4 := Lib.hid hA4; have HT2 := Lib.hid hT2; clear hT2 hA4)
            obtain ⟨b2, o2, rfl, g1⟩ := HT2.out 0 Nat.one_pos
            rw [show at' [y] 0 = y from rfl, Nat.add_zero] at g1
            obtain ⟨b3, o3, q3, g2⟩ := HF2.out _ HA4.out
            cases q3
            clear f1
            go_quiet (fail)
            go_wp2
            go_ret
            exact ⟨rfl, below_drewN HA4.out.below _⟩
      · have hltz : ¬ (k : Int) < (n : Int) := by omega
        obtain rfl : k = n := by omega
        have HCL : Hid (∀ x ∈ l, Lin.Cl x) := fun x hx => HC.out x (by rw [HN.out, List.take_length]; exact hx)
        have HS3 := Lib.hid (fun (W : World) (h : At m w W) => split_at r h (by omega))
        unfold sV at HS3
        rw [← HRR.out] at HS3
        cases hr : (Lin.spl r).1 with
        | cons x q =>
          rw [hr] at HS3
          clear hr
          go_wp2_with (go_at_call 11; refine (HS3.out _ HK.out).mono ?_; rintro e w4 ⟨A2, c2, rfl, hT2, hA4, _⟩; have HA4 := Lib.hid hA4; clear hT2 hA4)
          go_ret
          exact ⟨rfl, HA4.out.below⟩
        | nil =>
          have hsr := Lin.spl_rest hr
          rw [hr] at HS3
          have hsp := Lin.spl_joi HCL.out r
          rw [hsr, List.append_nil] at hsp
          have hjt := Lin.joi_tot l
          have HJ := Lib.hid (fun (W : World) (h : At m w W) => join_at (c := cap) h (at_txs h HT.out) HL1.out HL2.out)
          rw [← HN.out] at HJ
          have HS4 := Lib.hid (fun (W : World) (h : At m w W) => split_at (Lin.joi l ++ r) h (by
            have h1 := HL1.out
            have h2 := HL2.out
            rw [List.length_append, hjt]; omega))
          unfold sV at HS4
          rw [hsp] at HS4
          simp only at HS4
          rw [← HRR.out, ← HN.out] at HS4
          have hcat : (⟨(Lin.joi l).toArray⟩ : ByteArray) ++ R = ⟨(Lin.joi l ++ r).toArray⟩ := by rw [HRR.out, mk_append]
          have hg1 : ¬ 9223372036854775807 < (⟨(Lin.joi l).toArray⟩ : ByteArray).size + R.size := by
            have h1 := HL1.out
            have h2 := HL2.out
            rw [size_mk, HRZ.out, hjt]; omega
          have HBL : Hid (l.length < 4611686018427387904) := by
            have h1 := HL1.out
            show _ < _
            omega
          generalize (⟨(Lin.joi l).toArray⟩ : ByteArray) = J3 at *
          generalize (⟨(Lin.joi l ++ r).toArray⟩ : ByteArray) = J4 at *
          clear hr hsr hsp hjt
          go_wp2_with (go_at_call 11; refine (HS3.out _ HK.out).mono ?_; rintro e w4 ⟨A2, c2, rfl, hT2, hA4, _⟩; have HA4 := Lib.hid hA4; clear hT2 hA4)
          refine (HJ.out _ HA4.out).mono ?_
          rintro e w5 ⟨rfl, h5, _⟩
          have HA5 := Lib.hid h5
          clear h5
          go_wp2_with fail
          refine (HS4.out _ HA5.out).mono ?_
          rintro e w6 ⟨A6, c6, rfl, hT6, h6, hb6⟩
          have HA6 := Lib.hid h6
          have HT6 := Lib.hid hT6
          clear h6 hT6
          go_wp2_with fail
          have hsm := same_at (A := A6) (B := A) (c1 := c6) (c2 := cap) HA6.out HT6.out (at_txs HA6.out HT.out) HBL.out
          rw [← HN.out] at hsm
          refine hsm.mono ?_
          rintro e w7 ⟨rfl, h7, _⟩
          have HA7 := Lib.hid h7
          clear h7 hsm
          go_wp2_with fail
          go_ret
          exact ⟨rfl, HA7.out.below⟩
end Go.Proofs.YtakhgoifgpdgiaaDoor
