/-
  PROVED HERE: what Local and Plain of the answer compute.
-/
import Derived.Test.YtkchebbolldmbaaGreatDoorRDom
set_option linter.unusedVariables false
namespace Adr
theorem loc_bad {t : List UInt8} (j : Nat) (hj : j < t.length) (h : shownB t[j] = false) : localB t = false := by
  unfold localB
  rw [all_stop shownB t j hj h, Bool.and_false]
theorem loc_empty {t : List UInt8} (h : ¬ 1 ≤ t.length) : localB t = false := by
  have : t = [] := List.length_eq_zero_iff.1 (by omega)
  subst this
  rfl
theorem loc_long {t : List UInt8} (h : ¬ t.length ≤ 64) : localB t = false := by unfold localB; rw [decide_eq_false h, Bool.false_and]
theorem loc_good {t : List UInt8} (h0 : 1 ≤ t.length) (h1 : t.length ≤ 64) (h2 : t.all shownB = true) : localB t = true := by
  unfold localB
  rw [decide_eq_true h1, all_end _ _ h2]
  cases t with
  | nil => exact absurd h0 (by decide)
  | cons c r => rfl
theorem shown_lo {c : UInt8} (h : c.toNat < 32) : shownB c = false := by unfold shownB; rw [decide_eq_false (by omega), Bool.false_and]
theorem shown_hi {c : UInt8} (h : 126 < c.toNat) : shownB c = false := by unfold shownB; rw [decide_eq_false (p := c.toNat ≤ 126) (by omega), Bool.and_false]
theorem shown_ok {c : UInt8} (h : ¬ c.toNat < 32) (g : ¬ 126 < c.toNat) : shownB c = true := by unfold shownB; rw [decide_eq_true (by omega), decide_eq_true (by omega)]; rfl
end Adr
namespace Go.Proofs.YtkchebbolldmbaaGreatDoor
open Go.RowKit

set_option maxRecDepth 100000 in
set_option maxHeartbeats 4000000 in
theorem rlocal_any (S : ByteArray) (w : World) (hs : S.size < 4611686018427387904) : Calls Tryz.prog 78 #[.string S] w fun e w' => e = .returned (.bool (Adr.localB S.data.toList)) ∧ w = w' := by
  have HZ := Lib.hid (Lib.size_eq S)
  have HBAD := Lib.hid (fun j hj h => Adr.loc_bad (t := S.data.toList) j hj h)
  have HEMP := Lib.hid (fun h => Adr.loc_empty (t := S.data.toList) h)
  have HLONG := Lib.hid (fun h => Adr.loc_long (t := S.data.toList) h)
  have HGOOD := Lib.hid (fun h0 h1 h2 => Adr.loc_good (t := S.data.toList) h0 h1 h2)
  generalize Adr.localB S.data.toList = r at *
  go_enter Tryz.func78, Tryz.ntmps78
  go_wp2
  go_loop [3] (fun u => ∃ k : Nat, u = .int .i64 k ∧ k ≤ S.size ∧ Hid ((S.data.toList.take k).all Adr.shownB = true)) (fun u => S.size - (intOf u).toNat)
  case atStart => exact ⟨0, rfl, by omega, rfl⟩
  case round =>
    obtain ⟨k, rfl, hk, HK⟩ := hrel
    by_cases hlt : k < S.size
    · have hltz : (k : Int) < (S.size : Int) := by omega
      have hkl : k < S.data.toList.length := by rw [← HZ.out]; exact hlt
      have hat := at_data S k hlt hkl
      by_cases q1 : (S[k]'hlt).toNat < 32
      · have q1z : ((S[k]'hlt).toNat : Int) < 32 := by omega
        have HR := Lib.hid (HBAD.out k hkl (by rw [← hat]; exact Adr.shown_lo q1))
        clear hat hkl q1
        go_wp2_with fail
        go_ret
        exact ⟨by rw [HR.out]; rfl, rfl⟩
      · have q1z : ¬ ((S[k]'hlt).toNat : Int) < 32 := by omega
        by_cases q2 : 126 < (S[k]'hlt).toNat
        · have q2z : (126 : Int) < ((S[k]'hlt).toNat : Int) := by omega
          have HR := Lib.hid (HBAD.out k hkl (by rw [← hat]; exact Adr.shown_hi q2))
          clear hat hkl q1 q2
          go_wp2_with fail
          go_ret
          exact ⟨by rw [HR.out]; rfl, rfl⟩
        · have q2z : ¬ (126 : Int) < ((S[k]'hlt).toNat : Int) := by omega
          have HR := Lib.hid (Adr.all_more Adr.shownB _ k hkl HK.out (by rw [← hat]; exact Adr.shown_ok q1 q2))
          clear hat hkl q1 q2
          go_wp2_with fail
          go_round
          case rel => exact ⟨k + 1, by go_num, by omega, HR⟩
          case measure => simp [intOf]; omega
    · have hltz : ¬ (k : Int) < (S.size : Int) := by omega
      obtain rfl : k = S.size := by omega
      by_cases q1 : 1 ≤ S.size
      · have q1z : (1 : Int) ≤ (S.size : Int) := by omega
        by_cases q2 : S.size ≤ 64
        · have q2z : (S.size : Int) ≤ 64 := by omega
          have HR := Lib.hid (HGOOD.out (by rw [← HZ.out]; exact q1) (by rw [← HZ.out]; exact q2) (by have := HK.out; rw [HZ.out, List.take_length] at this; exact this))
          clear HK
          go_wp2_with fail
          go_ret
          exact ⟨by rw [HR.out]; rfl, rfl⟩
        · have q2z : ¬ (S.size : Int) ≤ 64 := by omega
          have HR := Lib.hid (HLONG.out (by rw [← HZ.out]; exact q2))
          clear HK
          go_wp2_with fail
          go_ret
          exact ⟨by rw [HR.out]; rfl, rfl⟩
      · have q1z : ¬ (1 : Int) ≤ (S.size : Int) := by omega
        have HR := Lib.hid (HEMP.out (by rw [← HZ.out]; exact q1))
        clear HK
        go_wp2_with fail
        go_ret
        exact ⟨by rw [HR.out]; rfl, rfl⟩

theorem plain_bad {t : List UInt8} (h : (Adr.dots t).all (Adr.allB Adr.atomB) = false) : Adr.plainB t = false := by unfold Adr.plainB; rw [h, Bool.and_false]
theorem plain_loc {t : List UInt8} (h : (Adr.dots t).all (Adr.allB Adr.atomB) = true) : Adr.plainB t = Adr.localB t := by unfold Adr.plainB; rw [h, Bool.and_true]
theorem allB_empty {p : UInt8 → Bool} {t : List UInt8} (h : t.length = 0) : Adr.allB p t = false := by
  have : t = [] := List.length_eq_zero_iff.1 h
  subst this
  rfl
theorem allB_good {p : UInt8 → Bool} {t : List UInt8} (h0 : t.length ≠ 0) (h : t.all p = true) : Adr.allB p t = true := by
  rw [Adr.all_end p t h]
  cases t with
  | nil => exact absurd rfl h0
  | cons c r => rfl

set_option maxRecDepth 100000 in
set_option maxHeartbeats 8000000 in
theorem rplain_any (S : ByteArray) (w : World) (hs : S.size < 4294967281) : Calls Tryz.prog 62 #[.string S] w fun e w' => e = .returned (.bool (Adr.plainB S.data.toList)) ∧ Below w.heap.size w w' := by
  have HSP := Lib.hid (rsplit_any S w hs)
  have HLO := Lib.hid (fun W : World => rlocal_any S W (by omega))
  have HLN : Hid ((Adr.dots S.data.toList).length < 4294967290) := by
    have h1 := Adr.dots_len S.data.toList
    have h2 := Lib.size_eq S
    show _ < _
    omega
  have HBL : Hid (∀ x ∈ Adr.dots S.data.toList, x.length < 4294967281) := fun x hx => by
    have h1 := Adr.dots_mem_len S.data.toList x hx
    have h2 := Lib.size_eq S
    omega
  have HNO := Lib.hid (fun h => plain_bad (t := S.data.toList) h)
  have HYES := Lib.hid (fun h => plain_loc (t := S.data.toList) h)
  generalize Adr.dots S.data.toList = l at *
  generalize Adr.plainB S.data.toList = r at *
  generalize Adr.localB S.data.toList = q at *
  obtain ⟨n, hn⟩ : ∃ n, n = l.length := ⟨_, rfl⟩
  have hnb : n < 4294967290 := by rw [hn]; exact HLN.out
  rw [← hn] at HSP
  have HN := Lib.hid hn
  clear hn HLN
  go_enter Tryz.func62, Tryz.ntmps62
  go_wp2_with (go_at_call 79; refine HSP.out.mono ?_; rintro e w1 ⟨⟨A, c, rfl, hT⟩, hB⟩; have HT := Lib.hid hT; have HB := Lib.hid hB; clear hT hB)
  go_loop [4] (fun u => ∃ k : Nat, u = .int .i64 k ∧ k ≤ n ∧ Hid ((l.take k).all (Adr.allB Adr.atomB) = true)) (fun u => n - (intOf u).toNat)
  case atStart => exact ⟨0, rfl, by omega, rfl⟩
  case round =>
    obtain ⟨k, rfl, hk, HK⟩ := hrel
    by_cases hlt : k < n
    · have hltz : (k : Int) < (n : Int) := by omega
      have hkl : k < l.length := by rw [← HN.out]; exact hlt
      obtain ⟨b1, o1, rfl, f1⟩ := HT.out k hkl
      have hgk := at_get l k hkl
      have HBAD : Hid (Adr.allB Adr.atomB (at' l k) = false → r = false) := fun h => HNO.out (Adr.dots_bad k hkl (by rw [← hgk]; exact h))
      have HMORE : Hid (Adr.allB Adr.atomB (at' l k) = true → (l.take (k + 1)).all (Adr.allB Adr.atomB) = true) := fun h => Adr.dots_more k hkl HK.out (by rw [← hgk]; exact h)
      have hxl : (at' l k).length < 4294967281 := by rw [hgk]; exact HBL.out _ (List.getElem_mem hkl)
      clear hgk hkl
      generalize at' l k = X at *
      obtain ⟨P, hP⟩ : ∃ P : ByteArray, P = ⟨X.toArray⟩ := ⟨_, rfl⟩
      have hPX : P.data.toList = X := by rw [hP]
      have hPZ : P.size = X.length := by rw [hP, size_mk]
      rw [← hP] at f1
      subst hPX
      clear hP
      have HPZ := Lib.hid hPZ
      have hPs : P.size < 4294967281 := by omega
      by_cases q1 : P.size = 0
      · have q1z : (P.size : Int) = 0 := by omega
        have HR := Lib.hid (HBAD.out (allB_empty (by omega)))
        clear hPZ hxl
        go_wp2_with fail
        go_ret
        exact ⟨by rw [HR.out]; rfl, HB.out⟩
      · have q1z : ¬ (P.size : Int) = 0 := by omega
        have HGOOD : Hid (P.data.toList.all Adr.atomB = true → (l.take (k + 1)).all (Adr.allB Adr.atomB) = true) := fun h => HMORE.out (allB_good (by omega) h)
        have HBAD2 : Hid (∀ j (hj : j < P.data.toList.length), Adr.atomB P.data.toList[j] = false → r = false) := fun j hj h => HBAD.out (Adr.all_stop _ _ j hj h)
        clear hPZ hxl
        go_wp2_with fail
        go_loop [5] (fun u => ∃ j : Nat, u = .int .i64 j ∧ j ≤ P.size ∧ Hid ((P.data.toList.take j).all Adr.atomB = true)) (fun u => P.size - (intOf u).toNat)
        case atStart => exact ⟨0, rfl, by omega, rfl⟩
        case round =>
          obtain ⟨j, rfl, hj, HJ⟩ := hrel
          by_cases hjl : j < P.size
          · have hjz : (j : Int) < (P.size : Int) := by omega
            have hjk : j < P.data.toList.length := by rw [← HPZ.out]; exact hjl
            have hat := at_data P j hjl hjk
            have HLT := Lib.hid (fun W : World => rletter_b (P[j]'hjl) W)
            have HSG := Lib.hid (fun W : World => rsign_b (P[j]'hjl) W)
            cases hlet : Adr.letB (P[j]'hjl) with
            | true =>
              rw [hlet] at HLT
              have HR := Lib.hid (Adr.all_more Adr.atomB _ j hjk HJ.out (by rw [← hat]; unfold Adr.atomB; rw [hlet, Bool.true_or]))
              clear hat hlet hjk
              go_wp2_with (go_at_call 80; refine (HLT.out _).mono ?_; rintro e w' ⟨rfl, rfl⟩)
              go_round
              case rel => exact ⟨j + 1, by go_num, by omega, HR⟩
              case measure => simp [intOf]; omega
            | false =>
              rw [hlet] at HLT
              cases hsg : Adr.sgnB (P[j]'hjl) with
              | false =>
                rw [hsg] at HSG
                have HR := Lib.hid (HBAD2.out j hjk (by rw [← hat]; unfold Adr.atomB; rw [hlet, hsg]; rfl))
                clear hat hlet hjk hsg
                go_wp2_with (first
                  | (go_at_call 80; refine (HLT.out _).mono ?_; rintro e w' ⟨rfl, rfl⟩)
                  | (go_at_call 81; refine (HSG.out _).mono ?_; rintro e w' ⟨rfl, rfl⟩))
                go_ret
                exact ⟨by rw [HR.out]; rfl, HB.out⟩
              | true =>
                rw [hsg] at HSG
                have HR := Lib.hid (Adr.all_more Adr.atomB _ j hjk HJ.out (by rw [← hat]; unfold Adr.atomB; rw [hlet, hsg]; rfl))
                clear hat hlet hjk hsg
                go_wp2_with (first
                  | (go_at_call 80; refine (HLT.out _).mono ?_; rintro e w' ⟨rfl, rfl⟩)
                  | (go_at_call 81; refine (HSG.out _).mono ?_; rintro e w' ⟨rfl, rfl⟩))
                go_round
                case rel => exact ⟨j + 1, by go_num, by omega, HR⟩
                case measure => simp [intOf]; omega
          · have hjz : ¬ (j : Int) < (P.size : Int) := by omega
            obtain rfl : j = P.size := by omega
            have HR := Lib.hid (HGOOD.out (by have := HJ.out; rw [HPZ.out, List.take_length] at this; exact this))
            clear HJ
            go_wp2_with fail
            go_round
            case rel => exact ⟨k + 1, by go_num, by omega, HR⟩
            case measure => simp [intOf]; omega
    · have hltz : ¬ (k : Int) < (n : Int) := by omega
      obtain rfl : k = n := by omega
      have HR := Lib.hid (HYES.out (by have := HK.out; rw [HN.out, List.take_length] at this; exact this))
      clear HK
      go_wp2_with (go_at_call 78; refine (HLO.out _).mono ?_; rintro e w' ⟨rfl, rfl⟩)
      go_ret
      exact ⟨by rw [HR.out]; rfl, HB.out⟩
end Go.Proofs.YtkchebbolldmbaaGreatDoor
