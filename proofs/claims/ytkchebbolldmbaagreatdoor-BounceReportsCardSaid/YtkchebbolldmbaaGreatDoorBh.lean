/-
  PROVED HERE: what isHop, Hops and Loops of the program compute.
-/
import Derived.Test.YtkchebbolldmbaaGreatDoorBl
set_option linter.unusedVariables false
namespace Lin
theorem joi_mem_len : ∀ (l : List (List UInt8)) (x : List UInt8), x ∈ l → x.length ≤ (joi l).length
  | y :: l, x, h => by
    rw [joi, List.length_append]
    rcases List.mem_cons.1 h with rfl | h
    · simp only [List.length_append]; omega
    · have := joi_mem_len l x h
      omega
end Lin
namespace Bnc
theorem lns_mem_len (t : List UInt8) : ∀ x ∈ lns t, x.length ≤ t.length := by
  intro x hx
  have hj := Lin.joi_spl t
  have h2 := congrArg List.length hj
  rw [List.length_append] at h2
  unfold lns at hx
  rw [List.mem_append] at hx
  rcases hx with hx | hx
  · have : x.length ≤ (Lin.joi (Lin.spl t).1).length := Lin.joi_mem_len _ _ hx
    omega
  · split at hx
    · simp at hx
    · simp at hx
      rw [hx]
      omega
theorem hdl_sub : ∀ l : List (List UInt8), ∀ x ∈ hdl l, x ∈ l
  | [], x, h => h
  | y :: l, x, h => by
    rw [hdl] at h
    split at h
    · simp at h
    · rcases List.mem_cons.1 h with rfl | h
      · exact List.mem_cons_self ..
      · exact List.mem_cons_of_mem _ (hdl_sub l x h)
theorem hd_at_len (s : ByteArray) (k : Nat) : ((hdl (lns s.data.toList)).getD k []).length ≤ s.size := by
  have hs := Go.Lib.size_eq s
  rw [List.getD_eq_getElem?_getD]
  by_cases h : k < (hdl (lns s.data.toList)).length
  · rw [List.getElem?_eq_getElem h]
    have := lns_mem_len s.data.toList _ (hdl_sub _ _ (List.getElem_mem h))
    simp only [Option.getD_some]
    omega
  · rw [List.getElem?_eq_none (by omega)]
    simp
end Bnc
namespace Go.Proofs.YtkchebbolldmbaaGreatDoor
open Go.RowKit
theorem rcv_at (k : Nat) (h : k < (⟨#[114, 101, 99, 101, 105, 118, 101, 100, 58]⟩ : ByteArray).size) (h2 : k < Bnc.rcv.length) : (⟨#[114, 101, 99, 101, 105, 118, 101, 100, 58]⟩ : ByteArray)[k] = Bnc.rcv[k]'h2 := at_data _ k h h2
theorem low_val (c : UInt8) : ((Adr.low c).toNat : Int) = if 65 ≤ c.toNat ∧ c.toNat ≤ 90 then (c.toNat : Int) + 32 else (c.toNat : Int) := by
  by_cases h : 65 ≤ c.toNat ∧ c.toNat ≤ 90
  · rw [if_pos h, Adr.low_great c h]
  · rw [if_neg h, Adr.low_same c h]

set_option maxRecDepth 100000 in
set_option maxHeartbeats 4000000 in
theorem isHop_any (s : ByteArray) (w : World) (hs : s.size < 4611686018427387904) :
    Calls Tryz.prog 22 #[.string s] w fun e w' => e = .returned (.bool (Bnc.hopB s.data.toList)) ∧ w = w' := by
  have HZ := Lib.hid (Lib.size_eq s)
  by_cases h9 : s.size < 9
  · have h9z : (s.size : Int) < 9 := by omega
    have HN := Lib.hid (Bnc.hop_short s.data.toList (by rw [← HZ.out]; omega))
    go_enter Tryz.func22, Tryz.ntmps22
    go_wp2_with fail
    go_ret
    exact ⟨by rw [HN.out]; rfl, rfl⟩
  have h9z : ¬ (s.size : Int) < 9 := by omega
  have H9 : Hid (9 ≤ s.data.toList.length) := by show _ ≤ _; rw [← HZ.out]; omega
  go_enter Tryz.func22, Tryz.ntmps22
  go_wp2_with fail
  go_loopw [8] (fun u wr => ∃ k : Nat, u = .int .i64 k ∧ k ≤ 9 ∧ Hid ((s.data.toList.take k).map Adr.low = Bnc.rcv.take k) ∧ w = wr) (fun u _ => 9 - (intOf u).toNat)
  case atStart => exact ⟨0, rfl, by omega, rfl, rfl⟩
  case round =>
    obtain ⟨k, rfl, hk, HK, rfl⟩ := hrel
    by_cases hlt : k < 9
    · have hltz : (k : Int) < 9 := by omega
      have hks : k < s.size := by omega
      have hkl : k < s.data.toList.length := by rw [← HZ.out]; exact hks
      have hat : s[k]'hks = s.data.toList[k]'hkl := at_data s k hks hkl
      have hrl : k < Bnc.rcv.length := hlt
      have hrs : k < (⟨#[114, 101, 99, 101, 105, 118, 101, 100, 58]⟩ : ByteArray).size := hlt
      have hra := rcv_at k hrs hrl
      have HMORE := Lib.hid (Bnc.hop_more s.data.toList k hrl hlt H9.out HK.out)
      have HSTOP := Lib.hid (Bnc.hop_stop s.data.toList k hrl hlt H9.out)
      have hlow := low_val (s.data.toList[k]'hkl)
      clear HK
      generalize s.data.toList[k]'hkl = c at *
      generalize Bnc.rcv[k]'hrl = d at *
      have hdc : (Adr.low c = d) ↔ ((Adr.low c).toNat : Int) = (d.toNat : Int) := by
        rw [← UInt8.toNat_inj]; omega
      have hcl := c.toNat_lt
      have hK : (((⟨#[114, 101, 99, 101, 105, 118, 101, 100, 58]⟩ : ByteArray)[k]'hrs).toNat : Int) = (d.toNat : Int) := congrArg (fun u : UInt8 => (u.toNat : Int)) hra
      by_cases hg : 65 ≤ c.toNat ∧ c.toNat ≤ 90
      · rw [if_pos hg] at hlow
        rw [hlow] at hdc
        have g1z : (65 : Int) ≤ (c.toNat : Int) := by omega
        have g2z : (c.toNat : Int) ≤ 90 := by omega
        by_cases hd : Adr.low c = d
        · have he : (((c.toNat : Int) + 32) != (((⟨#[114, 101, 99, 101, 105, 118, 101, 100, 58]⟩ : ByteArray)[k]'hrs).toNat : Int)) = false := by rw [hK]; rw [bne_eq_false_iff_eq]; exact hdc.1 hd
          have HM := Lib.hid (HMORE.out hd)
          clear hdc hd hlow HMORE HSTOP hg hra hK
          go_wp2_with fail
          go_roundw
          case rel => exact ⟨k + 1, by go_num, by omega, HM, by trivial⟩
          case measure => simp [intOf]; omega
        · have he : (((c.toNat : Int) + 32) != (((⟨#[114, 101, 99, 101, 105, 118, 101, 100, 58]⟩ : ByteArray)[k]'hrs).toNat : Int)) = true := by rw [hK]; rw [bne_iff_ne]; exact fun e => hd (hdc.2 e)
          have HM := Lib.hid (HSTOP.out hd)
          clear hdc hd hlow HMORE HSTOP hg hra hK
          go_wp2_with fail
          go_ret
          exact ⟨by rw [HM.out]; rfl, rfl⟩
      · rw [if_neg hg] at hlow
        rw [hlow] at hdc
        by_cases hd : Adr.low c = d
        · have he : ((c.toNat : Int) != (((⟨#[114, 101, 99, 101, 105, 118, 101, 100, 58]⟩ : ByteArray)[k]'hrs).toNat : Int)) = false := by rw [hK]; rw [bne_eq_false_iff_eq]; exact hdc.1 hd
          have HM := Lib.hid (HMORE.out hd)
          by_cases g1 : 65 ≤ c.toNat
          · have g1z : (65 : Int) ≤ (c.toNat : Int) := by omega
            have g2z : ¬ (c.toNat : Int) ≤ 90 := by omega
            clear hdc hd hlow HMORE HSTOP hg hra hK
            go_wp2_with fail
            go_roundw
            case rel => exact ⟨k + 1, by go_num, by omega, HM, by trivial⟩
            case measure => simp [intOf]; omega
          · have g1z : ¬ (65 : Int) ≤ (c.toNat : Int) := by omega
            clear hdc hd hlow HMORE HSTOP hg hra hK
            go_wp2_with fail
            go_roundw
            case rel => exact ⟨k + 1, by go_num, by omega, HM, by trivial⟩
            case measure => simp [intOf]; omega
        · have he : ((c.toNat : Int) != (((⟨#[114, 101, 99, 101, 105, 118, 101, 100, 58]⟩ : ByteArray)[k]'hrs).toNat : Int)) = true := by rw [hK]; rw [bne_iff_ne]; exact fun e => hd (hdc.2 e)
          have HM := Lib.hid (HSTOP.out hd)
          by_cases g1 : 65 ≤ c.toNat
          · have g1z : (65 : Int) ≤ (c.toNat : Int) := by omega
            have g2z : ¬ (c.toNat : Int) ≤ 90 := by omega
            clear hdc hd hlow HMORE HSTOP hg hra hK
            go_wp2_with fail
            go_ret
            exact ⟨by rw [HM.out]; rfl, rfl⟩
          · have g1z : ¬ (65 : Int) ≤ (c.toNat : Int) := by omega
            clear hdc hd hlow HMORE HSTOP hg hra hK
            go_wp2_with fail
            go_ret
            exact ⟨by rw [HM.out]; rfl, rfl⟩
    · have hltz : ¬ (k : Int) < 9 := by omega
      obtain rfl : k = 9 := by omega
      have HE := Lib.hid (Bnc.hop_end s.data.toList H9.out HK.out)
      go_wp2_with fail
      go_ret
      exact ⟨by rw [HE.out]; rfl, rfl⟩
theorem hops_succ (L : List (List UInt8)) (k : Nat) (hk : k < L.length) : ((L.take (k + 1)).filter Bnc.hopB).length = ((L.take k).filter Bnc.hopB).length + (if Bnc.hopB (at' L k) = true then 1 else 0) := by
  rw [List.take_succ_eq_append_getElem hk, List.filter_append, List.length_append, at_get _ _ hk]
  cases h : Bnc.hopB L[k] with
  | true => rw [List.filter_cons_of_pos h]; rfl
  | false => rw [List.filter_cons_of_neg (by rw [h]; exact Bool.false_ne_true)]; rfl

set_option maxRecDepth 100000 in
set_option maxHeartbeats 4000000 in
theorem hops_any (s : ByteArray) (m : Int) (w : World) (hs : s.size < 4294967281) (hm : w.cell? ⟨3, 0, none⟩ = some (.int .i64 m)) :
    Calls Tryz.prog 6 #[.string s] w fun e w' => e = .returned (.int .i64 (Bnc.hops s.data.toList)) ∧ Below w.heap.size w w' := by
  have HS := Lib.hid (head_any s m w hs hm)
  have HX : Hid (∀ k, ((Bnc.hdl (Bnc.lns s.data.toList)).getD k []).length ≤ s.size) := fun k => Bnc.hd_at_len s k
  have hsz := Lib.size_eq s
  have hlen := Bnc.lns_len s.data.toList
  have hlen2 := Bnc.hdl_len (Bnc.lns s.data.toList)
  have hLl : (Bnc.hdl (Bnc.lns s.data.toList)).length ≤ 4294967281 := by omega
  have HH : Hid (Bnc.hops s.data.toList = ((Bnc.hdl (Bnc.lns s.data.toList)).filter Bnc.hopB).length) := rfl
  clear hsz hlen hm hlen2
  generalize Bnc.hops s.data.toList = r at *
  generalize Bnc.hdl (Bnc.lns s.data.toList) = L at *
  go_enter Tryz.func6, Tryz.ntmps6
  go_wp2_with fail
  refine HS.out.mono ?_
  rintro e w1 ⟨⟨A, c, rfl, ht⟩, hb⟩
  have HT := Lib.hid ht
  have HB := Lib.hid hb
  clear ht hb HS
  go_wp2_with fail
  go_loopw [9, 3] (fun u v wr => ∃ (k n : Nat), u = .int .i64 k ∧ v = .int .i64 n ∧ k ≤ L.length ∧ n ≤ k ∧ Hid (n = ((L.take k).filter Bnc.hopB).length) ∧ w1 = wr) (fun u _ _ => L.length - (intOf u).toNat)
  case atStart => exact ⟨0, 0, rfl, rfl, by omega, by omega, rfl, rfl⟩
  case round =>
    obtain ⟨k, n, rfl, rfl, hk, hn, HK, rfl⟩ := hrel
    by_cases hlt : k < L.length
    · have hltz : (k : Int) < (L.length : Int) := by omega
      obtain ⟨b, o, rfl, t0⟩ := HT.out k hlt
      have HC := Lib.hid (isHop_any ⟨(at' L k).toArray⟩ w1 (by rw [size_mk]; have := HX.out k; unfold at'; omega))
      have HQ := Lib.hid (hops_succ L k hlt)
      simp only [] at HC
      generalize at' L k = x at *
      cases hx : Bnc.hopB x with
      | true =>
        rw [hx, if_pos rfl] at HQ
        rw [hx] at HC
        clear hx
        go_wp2_with fail
        refine HC.out.mono ?_
        rintro e w2 ⟨rfl, rfl⟩
        go_wp2_with fail
        go_roundw
        case rel => exact ⟨k + 1, n + 1, by go_num, by go_num, by omega, by omega, by show _ = _; rw [HQ.out, HK.out], by trivial⟩
        case measure => simp [intOf]; omega
      | false =>
        rw [hx, if_neg Bool.false_ne_true] at HQ
        rw [hx] at HC
        clear hx
        go_wp2_with fail
        refine HC.out.mono ?_
        rintro e w2 ⟨rfl, rfl⟩
        go_wp2_with fail
        go_roundw
        case rel => exact ⟨k + 1, n, by go_num, rfl, by omega, by omega, by show _ = _; rw [HQ.out, HK.out]; rfl, by trivial⟩
        case measure => simp [intOf]; omega
    · have hltz : ¬ (k : Int) < (L.length : Int) := by omega
      obtain rfl : k = L.length := by omega
      have HE : Hid (n = r) := by
        show _ = _
        rw [HH.out, HK.out, List.take_length]
      go_wp2_with fail
      go_ret
      exact ⟨by rw [HE.out]; rfl, HB.out⟩

set_option maxRecDepth 100000 in
theorem loops_any (s : ByteArray) (m : Int) (w : World) (hs : s.size < 4294967281) (hm : w.cell? ⟨3, 0, none⟩ = some (.int .i64 m)) :
    Calls Tryz.prog 8 #[.string s] w fun e w' => e = .returned (.bool (decide (10 ≤ (Bnc.hops s.data.toList : Int)))) ∧ Below w.heap.size w w' := by
  have HS := Lib.hid (hops_any s m w hs hm)
  generalize Bnc.hops s.data.toList = r at *
  go_enter Tryz.func8, Tryz.ntmps8
  go_wp2_with fail
  refine HS.out.mono ?_
  rintro e w1 ⟨rfl, hb⟩
  have HB := Lib.hid hb
  clear hb
  go_wp2_with fail
  go_ret
  exact ⟨rfl, HB.out⟩
end Go.Proofs.YtkchebbolldmbaaGreatDoor
