/-
  PROVED HERE: what Hops of the answer computes.
-/
import Derived.Test.YtkchebbolldmbaaGreatDoorZl
import Derived.Test.YtkchebbolldmbaaGreatDoorBh
import Derived.Test.YtkchebbolldmbaaGreatDoorBq
set_option linter.unusedVariables false
namespace Bnc
theorem hdl_full : ∀ L : List (List UInt8), (∀ x ∈ L, x ≠ []) → hdl L = L
  | [], _ => rfl
  | x :: L, h => by
    rw [hdl, if_neg (h x (List.mem_cons_self ..)), hdl_full L (fun y hy => h y (List.mem_cons_of_mem _ hy))]
theorem hdl_stop (L : List (List UInt8)) (k : Nat) (hk : k < L.length) (h : ∀ x ∈ L.take k, x ≠ []) (h0 : L[k] = []) : hdl L = L.take k := by
  have e : L = L.take k ++ [] :: L.drop (k + 1) := by
    conv => lhs; rw [← List.take_append_drop k L, List.drop_eq_getElem_cons hk, h0]
  conv => lhs; rw [e]
  rw [hdl_app_nil, hdl_full _ h]
end Bnc
namespace Go.Proofs.YtkchebbolldmbaaGreatDoor
open Go.RowKit

set_option maxRecDepth 100000 in
set_option maxHeartbeats 4000000 in
theorem rhops_any (s : ByteArray) (w : World) (hs : s.size < 4294967281) :
    Calls Tryz.prog 7 #[.string s] w fun e w' => e = .returned (.int .i64 (Bnc.hops s.data.toList)) ∧ Below w.heap.size w w' := by
  have HS := Lib.hid (rlines_any s w hs)
  have HX : Hid (∀ x ∈ Bnc.lns s.data.toList, x.length < 4294967281) := fun x hx => by
    have := Bnc.lns_mem_len s.data.toList x hx
    have := Lib.size_eq s
    omega
  have hsz := Lib.size_eq s
  have hlen := Bnc.lns_len s.data.toList
  have hLl : (Bnc.lns s.data.toList).length ≤ 4294967282 := by omega
  have HH : Hid (Bnc.hops s.data.toList = ((Bnc.hdl (Bnc.lns s.data.toList)).filter Bnc.hopB).length) := rfl
  clear hsz hlen
  generalize Bnc.hops s.data.toList = r at *
  generalize Bnc.lns s.data.toList = L at *
  go_enter Tryz.func7, Tryz.ntmps7
  go_wp2_with fail
  refine HS.out.mono ?_
  rintro e w1 ⟨⟨v, rfl, ho⟩, hb⟩
  obtain ⟨A, c, rfl, _, ht⟩ := tow_txs ho
  have HT := Lib.hid ht
  have HB := Lib.hid hb
  have hsz1 := hb.size
  have HB0 : Hid (Below w1.heap.size w1 w1) := Below.refl _ _
  have HE0 : Hid (∀ x ∈ L.take 0, x ≠ []) := fun x hx => by rw [List.take_zero] at hx; cases hx
  clear ht hb HS ho
  go_wp2_with fail
  go_loopw [5, 4] (fun u v wr => ∃ (k n : Nat), u = .int .i64 k ∧ v = .int .i64 n ∧ k ≤ L.length ∧ n ≤ k ∧ Hid (n = ((L.take k).filter Bnc.hopB).length) ∧ Hid (∀ x ∈ L.take k, x ≠ []) ∧ Hid (Below w1.heap.size w1 wr)) (fun u _ _ => L.length - (intOf u).toNat)
  case atStart => exact ⟨0, 0, rfl, rfl, by omega, by omega, rfl, HE0, HB0⟩
  case round =>
    clear HE0 HB0
    obtain ⟨k, n, rfl, rfl, hk, hn, HK, HN, HW⟩ := hrel
    by_cases hlt : k < L.length
    · have hltz : (k : Int) < (L.length : Int) := by omega
      obtain ⟨b, o, rfl, t0⟩ := txs_below HT.out HW.out k hlt
      have HQ := Lib.hid (hops_succ L k hlt)
      have eL := at_get L k hlt
      have HXk := HX.out L[k] (List.getElem_mem hlt)
      have HST := Lib.hid (Bnc.hdl_stop L k hlt HN.out)
      have HN1 : Hid (L[k] ≠ [] → ∀ x ∈ L.take (k + 1), x ≠ []) := fun q x hx => by
        rw [List.take_succ_eq_append_getElem hlt, List.mem_append, List.mem_singleton] at hx
        rcases hx with hx | rfl
        · exact HN.out x hx
        · exact q
      rw [← eL] at HXk HST HN1
      clear eL
      generalize at' L k = x at *
      by_cases h0 : x = []
      · have HE : Hid (n = r) := by
          show _ = _
          rw [HH.out, HST.out h0, HK.out]
        subst h0
        clear HQ HN1 HST HXk
        go_wp2_with fail
        go_ret
        exact ⟨by rw [← HE.out]; rfl, HB.out.trans (HW.out.mono hsz1)⟩
      have HN2 := Lib.hid (HN1.out h0)
      have h0z : (0 : Int) < (x.length : Int) := by
        have := List.length_pos_iff.2 h0
        omega
      clear HN1 HST h0
      by_cases h9 : 9 ≤ x.length
      · have h9z : (9 : Int) ≤ (x.length : Int) := by omega
        have hws := HW.out.size
        have HC := Lib.hid (rsmall_any ((⟨x.toArray⟩ : ByteArray).extract 0 9) wr (by rw [ByteArray.size_extract]; omega))
        have hX : ((⟨x.toArray⟩ : ByteArray).extract 0 9).data.toList = x.take 9 := by rw [Lib.extract_data]; rfl
        have HHB : Hid (Bnc.hopB x = (Adr.sml (x.take 9) == Bnc.rcv)) := by
          show _ = _
          unfold Bnc.hopB
          rw [decide_eq_true h9, Bool.true_and, Bool.eq_iff_iff]
          simp [Adr.sml]
        rw [hX] at HC
        clear hX
        generalize Adr.sml (x.take 9) = y at *
        cases hx : Bnc.hopB x with
        | true =>
          rw [hx, if_pos rfl] at HQ
          rw [hx] at HHB
          obtain rfl : y = Bnc.rcv := beq_iff_eq.1 HHB.out.symm
          clear hx HHB
          unfold Bnc.rcv at HC
          go_wp2_with fail
          refine HC.out.mono ?_
          rintro e w2 ⟨rfl, hb2⟩
          have HW2 := Lib.hid (HW.out.trans (hb2.mono hws))
          clear hb2 HC
          go_wp2_with fail
          go_roundw
          case rel => exact ⟨k + 1, n + 1, by go_num, by go_num, by omega, by omega, by show _ = _; rw [HQ.out, HK.out], HN2, HW2⟩
          case measure => simp [intOf]; omega
        | false =>
          rw [hx, if_neg Bool.false_ne_true] at HQ
          rw [hx] at HHB
          have hy : ¬ y = [114, 101, 99, 101, 105, 118, 101, 100, 58] := fun q => by
            have z := HHB.out
            rw [q] at z
            exact absurd z (by decide)
          have hya : (y == [114, 101, 99, 101, 105, 118, 101, 100, 58]) = false := beq_false_of_ne hy
          clear hy
          clear hx HHB
          go_wp2_with fail
          refine HC.out.mono ?_
          rintro e w2 ⟨rfl, hb2⟩
          have HW2 := Lib.hid (HW.out.trans (hb2.mono hws))
          clear hb2 HC
          go_wp2_with fail
          go_roundw
          case rel => exact ⟨k + 1, n, by go_num, rfl, by omega, by omega, by show _ = _; rw [HQ.out, HK.out]; rfl, HN2, HW2⟩
          case measure => simp [intOf]; omega
      · have h9z : ¬ (9 : Int) ≤ (x.length : Int) := by omega
        have hx : Bnc.hopB x = false := by
          unfold Bnc.hopB
          rw [decide_eq_false h9, Bool.false_and]
        rw [hx, if_neg Bool.false_ne_true] at HQ
        clear hx
        go_wp2_with fail
        go_roundw
        case rel => exact ⟨k + 1, n, by go_num, rfl, by omega, by omega, by show _ = _; rw [HQ.out, HK.out]; rfl, HN2, HW⟩
        case measure => simp [intOf]; omega
    · have hltz : ¬ (k : Int) < (L.length : Int) := by omega
      obtain rfl : k = L.length := by omega
      have HE : Hid (n = r) := by
        show _ = _
        have q := HN.out
        rw [List.take_length] at q
        rw [HH.out, Bnc.hdl_full L q, HK.out, List.take_length]
      go_wp2_with fail
      go_ret
      exact ⟨by rw [← HE.out]; rfl, HB.out.trans (HW.out.mono hsz1)⟩
end Go.Proofs.YtkchebbolldmbaaGreatDoor
