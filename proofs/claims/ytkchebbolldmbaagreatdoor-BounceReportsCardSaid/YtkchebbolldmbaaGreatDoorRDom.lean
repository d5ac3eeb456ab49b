/-
  PROVED HERE: what Domain of the answer computes.
-/
import Derived.Test.YtkchebbolldmbaaGreatDoorRSpl
set_option linter.unusedVariables false
namespace Adr
theorem lab_empty {t : List UInt8} (h : t.length < 1) : label t = false := by
  have : t = [] := List.length_eq_zero_iff.1 (by omega)
  subst this
  rfl
theorem lab_long {t : List UInt8} (h : 63 < t.length) : label t = false := by unfold label; rw [decide_eq_false (by omega), Bool.false_and]
theorem lab_head {t : List UInt8} (h : (t.headD 0 == 45) = true) : label t = false := by
  unfold label bne
  rw [h]
  simp
theorem lab_last {t : List UInt8} (h : (t.getLastD 0 == 45) = true) : label t = false := by
  unfold label bne
  rw [h]
  simp
theorem lab_bad {t : List UInt8} (j : Nat) (hj : j < t.length) (h : labB t[j] = false) : label t = false := by
  unfold label
  rw [all_stop labB t j hj h]
  simp
theorem lab_good {t : List UInt8} (h0 : 0 < t.length) (h1 : t.length ≤ 63) (h2 : (t.headD 0 == 45) = false) (h3 : (t.getLastD 0 == 45) = false) (h4 : t.all labB = true) : label t = true := by
  unfold label bne allB
  rw [h2, h3, h4, decide_eq_true h1]
  cases t with
  | nil => cases h0
  | cons c r => rfl
theorem dots_bad {p : List UInt8 → Bool} {l : List (List UInt8)} (k : Nat) (hk : k < l.length) (h : p l[k] = false) : l.all p = false := by
  rw [List.all_eq_false]
  exact ⟨l[k], List.getElem_mem hk, by rw [h]; exact Bool.false_ne_true⟩
theorem dots_more {p : List UInt8 → Bool} {l : List (List UInt8)} (k : Nat) (hk : k < l.length) (h0 : (l.take k).all p = true) (h : p l[k] = true) : (l.take (k + 1)).all p = true := by
  rw [List.take_add_one, List.getElem?_eq_getElem hk, List.all_append, h0, Bool.true_and]
  simp [h]
end Adr
namespace Go.Proofs.YtkchebbolldmbaaGreatDoor
open Go.RowKit

set_option maxRecDepth 100000 in
set_option maxHeartbeats 8000000 in
theorem rdomain_any (S : ByteArray) (m : Int) (w : World) (hs : S.size < 4294967281) (hm : w.cell? ⟨3, 0, none⟩ = some (.int .i64 m)) : Calls Tryz.prog 77 #[.string S] w fun e w' => e = .returned (domV S.data.toList) ∧ Below w.heap.size w w' := by
  have HZ := Lib.hid (Lib.size_eq S)
  have HSP := Lib.hid (rsplit_any S w hs)
  have HSM := Lib.hid (fun W : World => rsmall_any S W (by omega))
  have HLN : Hid ((Adr.dots S.data.toList).length < 4294967290) := by
    have h1 := Adr.dots_len S.data.toList
    have h2 := Lib.size_eq S
    show _ < _
    omega
  have HBL : Hid (∀ x ∈ Adr.dots S.data.toList, x.length < 4294967281) := fun x hx => by
    have h1 := Adr.dots_mem_len S.data.toList x hx
    have h2 := Lib.size_eq S
    omega
  have HNO : Hid ((Adr.dots S.data.toList).all Adr.label = false → domV S.data.toList = .tuple #[.string ⟨#[]⟩, .int .i64 2]) := fun h => dom_no (by unfold Adr.domB; rw [h, Bool.and_false])
  have HBIG : Hid (255 < S.size → domV S.data.toList = .tuple #[.string ⟨#[]⟩, .int .i64 2]) := fun h => dom_no (by unfold Adr.domB; rw [decide_eq_false (by rw [← HZ.out]; omega), Bool.false_and])
  have HYES : Hid (¬ 255 < S.size → (Adr.dots S.data.toList).all Adr.label = true → domV S.data.toList = .tuple #[.string ⟨(Adr.sml S.data.toList).toArray⟩, .int .i64 0]) := fun h g => dom_yes (by unfold Adr.domB; rw [g, decide_eq_true (by rw [← HZ.out]; omega), Bool.true_and])
  clear hm
  generalize Adr.dots S.data.toList = l at *
  generalize Adr.sml S.data.toList = sm at *
  generalize domV S.data.toList = dv at *
  obtain ⟨n, hn⟩ : ∃ n, n = l.length := ⟨_, rfl⟩
  have hnb : n < 4294967290 := by rw [hn]; exact HLN.out
  rw [← hn] at HSP
  have HN := Lib.hid hn
  clear hn HLN
  go_enter Tryz.func77, Tryz.ntmps77
  go_wp2_with (go_at_call 79; refine HSP.out.mono ?_; rintro e w1 ⟨⟨A, c, rfl, hT⟩, hB⟩; have HT := Lib.hid hT; have HB := Lib.hid hB; clear hT hB)
  go_loop [5] (fun u => ∃ k : Nat, u = .int .i64 k ∧ k ≤ n ∧ Hid ((l.take k).all Adr.label = true)) (fun u => n - (intOf u).toNat)
  case atStart => exact ⟨0, rfl, by omega, rfl⟩
  case round =>
    obtain ⟨k, rfl, hk, HK⟩ := hrel
    by_cases hlt : k < n
    · have hltz : (k : Int) < (n : Int) := by omega
      have hkl : k < l.length := by rw [← HN.out]; exact hlt
      obtain ⟨b1, o1, rfl, f1⟩ := HT.out k hkl
      have hgk := at_get l k hkl
      have HBAD : Hid (Adr.label (at' l k) = false → dv = .tuple #[.string ⟨#[]⟩, .int .i64 2]) := fun h => HNO.out (Adr.dots_bad k hkl (by rw [← hgk]; exact h))
      have HMORE : Hid (Adr.label (at' l k) = true → (l.take (k + 1)).all Adr.label = true) := fun h => Adr.dots_more k hkl HK.out (by rw [← hgk]; exact h)
      have hxl : (at' l k).length < 4294967281 := by rw [hgk]; exact HBL.out _ (List.getElem_mem hkl)
      clear hgk hkl
      generalize at' l k = X at *
      obtain ⟨P, hP⟩ : ∃ P : ByteArray, P = ⟨X.toArray⟩ := ⟨_, rfl⟩
      have hPX : P.data.toList = X := by rw [hP]
      have hPZ : P.size = X.length := by rw [hP, size_mk]
      rw [← hP] at f1
      subst hPX
      clear hP
      have HPZ := Lib.hid hPZ
      have hPs : P.size < 4294967281 := by omega
      by_cases q1 : P.size < 1
      · have q1z : (P.size : Int) < 1 := by omega
        have HR := Lib.hid (HBAD.out (Adr.lab_empty (by omega)))
        clear hPZ hxl
        go_wp2_with fail
        go_ret2
        exact ⟨by rw [HR.out]; rfl, HB.out⟩
      have q1z : ¬ (P.size : Int) < 1 := by omega
      by_cases q2 : 63 < P.size
      · have q2z : (63 : Int) < (P.size : Int) := by omega
        have HR := Lib.hid (HBAD.out (Adr.lab_long (by omega)))
        clear hPZ hxl
        go_wp2_with fail
        go_ret2
        exact ⟨by rw [HR.out]; rfl, HB.out⟩
      have q2z : ¬ (63 : Int) < (P.size : Int) := by omega
      have hp0 : 0 < P.size := by omega
      have hp1 : P.size - 1 < P.size := by omega
      have hpl : 0 < P.data.toList.length := by omega
      have h1 : (P.data.toList.headD 0 == 45) = ((P[0]'hp0) == 45) := by rw [at_data P 0 hp0 hpl, Adr.head_at _ hpl]
      have h2 : (P.data.toList.getLastD 0 == 45) = ((P[P.size - 1]'hp1) == 45) := by
        rw [at_data P (P.size - 1) hp1 (by omega), ← Adr.last_at _ (by omega)]
        congr 2
      have e1 := Adr.u8_beq (P[0]'hp0) 45
      have e2 := Adr.u8_beq (P[P.size - 1]'hp1) 45
      rw [show ((45 : UInt8).toNat : Int) = 45 from rfl] at e1 e2
      have a1 : (0 : Int) ≤ (P.size : Int) - 1 := by omega
      have a2 : (P.size : Int) - 1 < (P.size : Int) := by omega
      have a3 : (0 : Int) < (P.size : Int) := by omega
      cases c1 : ((P[0]'hp0) == 45) with
      | true =>
        rw [c1] at e1 h1
        have HR := Lib.hid (HBAD.out (Adr.lab_head h1))
        clear hPZ hxl c1 h1 h2 e2 hpl
        go_wp2_with fail
        go_ret2
        exact ⟨by rw [HR.out]; rfl, HB.out⟩
      | false =>
        rw [c1] at e1 h1
        cases c2 : ((P[P.size - 1]'hp1) == 45) with
        | true =>
          rw [c2] at e2 h2
          have HR := Lib.hid (HBAD.out (Adr.lab_last h2))
          clear hPZ hxl c1 c2 h1 h2 hpl
          go_wp2_with fail
          go_ret2
          exact ⟨by rw [HR.out]; rfl, HB.out⟩
        | false =>
          rw [c2] at e2 h2
          have HGOOD : Hid (P.data.toList.all Adr.labB = true → (l.take (k + 1)).all Adr.label = true) := fun h => HMORE.out (Adr.lab_good hpl (by omega) h1 h2 h)
          have HBAD2 : Hid (∀ j (hj : j < P.data.toList.length), Adr.labB P.data.toList[j] = false → dv = .tuple #[.string ⟨#[]⟩, .int .i64 2]) := fun j hj h => HBAD.out (Adr.lab_bad j hj h)
          clear hPZ hxl c1 c2 h1 h2 hpl
          go_wp2_with fail
          go_loop [7] (fun u => ∃ j : Nat, u = .int .i64 j ∧ j ≤ P.size ∧ Hid ((P.data.toList.take j).all Adr.labB = true)) (fun u => P.size - (intOf u).toNat)
          case atStart => exact ⟨0, rfl, by omega, rfl⟩
          case round =>
            obtain ⟨j, rfl, hj, HJ⟩ := hrel
            by_cases hjl : j < P.size
            · have hjz : (j : Int) < (P.size : Int) := by omega
              have hjk : j < P.data.toList.length := by rw [← HPZ.out]; exact hjl
              have hat := at_data P j hjl hjk
              have HLT := Lib.hid (fun W : World => rletter_b (P[j]'hjl) W)
              have e3 := Adr.u8_bne (P[j]'hjl) 45
              rw [show ((45 : UInt8).toNat : Int) = 45 from rfl] at e3
              cases hlet : Adr.letB (P[j]'hjl) with
              | true =>
                rw [hlet] at HLT
                have HR := Lib.hid (Adr.all_more Adr.labB _ j hjk HJ.out (by rw [← hat]; unfold Adr.labB; rw [hlet, Bool.true_or]))
                clear hat hlet hjk e3
                go_wp2_with (go_at_call 80; refine (HLT.out _).mono ?_; rintro e w' ⟨rfl, rfl⟩)
                go_round
                case rel => exact ⟨j + 1, by go_num, by omega, HR⟩
                case measure => simp [intOf]; omega
              | false =>
                rw [hlet] at HLT
                cases hda : ((P[j]'hjl) != 45) with
                | true =>
                  rw [hda] at e3
                  have HR := Lib.hid (HBAD2.out j hjk (by rw [← hat]; unfold Adr.labB; rw [hlet, Bool.false_or]; unfold bne at hda; simpa using hda))
                  clear hat hlet hjk hda
                  go_wp2_with (go_at_call 80; refine (HLT.out _).mono ?_; rintro e w' ⟨rfl, rfl⟩)
                  go_ret2
                  exact ⟨by rw [HR.out]; rfl, HB.out⟩
                | false =>
                  rw [hda] at e3
                  have HR := Lib.hid (Adr.all_more Adr.labB _ j hjk HJ.out (by rw [← hat]; unfold Adr.labB; rw [hlet, Bool.false_or]; unfold bne at hda; simpa using hda))
                  clear hat hlet hjk hda
                  go_wp2_with (go_at_call 80; refine (HLT.out _).mono ?_; rintro e w' ⟨rfl, rfl⟩)
                  go_round
                  case rel => exact ⟨j + 1, by go_num, by omega, HR⟩
                  case measure => simp [intOf]; omega
            · have hjz : ¬ (j : Int) < (P.size : Int) := by omega
              obtain rfl : j = P.size := by omega
              have HR := Lib.hid (HGOOD.out (by have := HJ.out; rw [HPZ.out, List.take_length] at this; exact this))
              clear HJ
              go_wp2_with fail
              go_round
              case rel => exact ⟨k + 1, by go_num, by omega, HR⟩
              case measure => simp [intOf]; omega
    · have hltz : ¬ (k : Int) < (n : Int) := by omega
      obtain rfl : k = n := by omega
      have HALL : Hid (l.all Adr.label = true) := by have := HK.out; rw [HN.out, List.take_length] at this; exact this
      by_cases hbig : 255 < S.size
      · have hbz : (255 : Int) < (S.size : Int) := by omega
        have HR := Lib.hid (HBIG.out hbig)
        clear hbig
        go_wp2_with fail
        go_ret2
        exact ⟨by rw [HR.out]; rfl, HB.out⟩
      · have hbz : ¬ (255 : Int) < (S.size : Int) := by omega
        have HR := Lib.hid (HYES.out hbig HALL.out)
        clear hbig
        go_wp2_with (go_at_call 24; refine (HSM.out _).mono ?_; rintro e w2 ⟨rfl, h2⟩; have HB2 := Lib.hid h2; clear h2)
        go_ret2
        exact ⟨by rw [HR.out]; rfl, HB.out.trans (HB2.out.mono HB.out.size)⟩
end Go.Proofs.YtkchebbolldmbaaGreatDoor
