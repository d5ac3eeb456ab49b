/-
  PROVED HERE: what is and domainAt of the answer compute. what routed of the answer computes. what localAt of the answer computes. what Read of the answer computes. what Parse of the answer computes.
-/
import Derived.Test.YtkchebbolldmbaaGreatDoorRPath
import Derived.Test.YtkchebbolldmbaaGreatDoorEq
import Derived.Test.YtkchebbolldmbaaGreatDoorPlnB
set_option linter.unusedVariables false
namespace Adr
theorem at_drop (L : List UInt8) (i : Nat) (h : i < L.length) (c : UInt8) : atB c (L.drop i) = (L[i] == c) := by
  rw [List.drop_eq_getElem_cons h]
  rfl
theorem at_far (L : List UInt8) (i : Nat) (h : L.length ≤ i) (c : UInt8) : atB c (L.drop i) = false := by
  rw [List.drop_eq_nil_of_le h]
  rfl
theorem inD_parts (c : UInt8) : inD c = (letB c || ((c == 45) || (c == 46))) := by
  unfold inD labB
  rw [Bool.or_assoc]
end Adr
namespace Go.Proofs.YtkchebbolldmbaaGreatDoor
open Go.RowKit

set_option maxRecDepth 100000 in
set_option maxHeartbeats 2000000 in
theorem is_any (S : ByteArray) (i : Nat) (c : UInt8) (v : Int) (hv : v = (c.toNat : Int)) (w : World) (hs : S.size < 4611686018427387904) : Calls Tryz.prog 89 #[.string S, .int .i64 i, .int .u8 v] w fun e w' => e = .returned (.bool (Adr.atB c (S.data.toList.drop i))) ∧ w = w' := by
  have hz := Lib.size_eq S
  by_cases hlt : i < S.size
  · have hltz : (i : Int) < (S.size : Int) := by omega
    have hkl : i < S.data.toList.length := by omega
    have HR := Lib.hid (Adr.at_drop S.data.toList i hkl c)
    have e1 := Adr.u8_beq (S[i]'hlt) c
    rw [← hv, at_data S i hlt hkl, ← HR.out, ← at_data S i hlt hkl] at e1
    generalize Adr.atB c (S.data.toList.drop i) = r at *
    clear hz hv HR
    cases r with
    | true =>
      go_enter Tryz.func89, Tryz.ntmps89
      go_wp2_with fail
      go_ret
      exact ⟨rfl, rfl⟩
    | false =>
      go_enter Tryz.func89, Tryz.ntmps89
      go_wp2_with fail
      go_ret
      exact ⟨rfl, rfl⟩
  · have hltz : ¬ (i : Int) < (S.size : Int) := by omega
    have HR := Adr.at_far S.data.toList i (by omega) c
    rw [HR]
    clear hz hv HR
    go_enter Tryz.func89, Tryz.ntmps89
    go_wp2_with fail
    go_ret
    exact ⟨rfl, rfl⟩

set_option maxRecDepth 100000 in
set_option maxHeartbeats 4000000 in
theorem domAt_any (S : ByteArray) (i : Nat) (w : World) (hi : i ≤ S.size) (hs : S.size < 4294967281) : Calls Tryz.prog 92 #[.string S, .int .i64 i] w fun e w' => e = .returned (.int .i64 (((S.data.toList.drop i).takeWhile Adr.inD).length : Nat)) ∧ w = w' := by
  have HZ := Lib.hid (Lib.size_eq S)
  have HL : Hid ((S.data.toList.drop i).length = S.size - i) := by show _ = _; rw [List.length_drop, ← HZ.out]
  have HG : Hid (∀ (k : Nat) (h : i + k < S.size) (h2 : k < (S.data.toList.drop i).length), (S.data.toList.drop i)[k] = S[i + k]) := by
    intro k h h2
    rw [List.getElem_drop, at_data S (i + k) h (by rw [← HZ.out]; exact h)]
  generalize S.data.toList.drop i = T at *
  have HW := Lib.hid (Adr.while_stop Adr.inD T)
  go_enter Tryz.func92, Tryz.ntmps92
  go_wp2
  go_loop [5] (fun u => ∃ k : Nat, u = .int .i64 k ∧ i + k ≤ S.size ∧ Hid ((T.take k).all Adr.inD = true)) (fun u => S.size - (intOf u).toNat)
  case atStart => exact ⟨0, rfl, by omega, rfl⟩
  case round =>
    obtain ⟨k, rfl, hk, HK⟩ := hrel
    have HST : Hid ((∀ h : k < T.length, Adr.inD T[k] = false) → (T.takeWhile Adr.inD).length = k) := fun g => by
      have := HW.out k (by rw [HL.out]; omega) HK.out g
      rw [this.1, List.length_take, HL.out]
      omega
    have hwr : IntKind.i64.wrap ((i : Int) + (k : Int)) = ((i + k : Nat) : Int) := by rw [IntKind.wrap_i64]; omega
    by_cases hlt : i + k < S.size
    · have hltz : ((i + k : Nat) : Int) < (S.size : Int) := by omega
      have hkl : k < T.length := by rw [HL.out]; omega
      have hat := HG.out k hlt hkl
      have hp := Adr.inD_parts (S[i + k]'hlt)
      have HMORE : Hid (Adr.inD (S[i + k]'hlt) = true → (T.take (k + 1)).all Adr.inD = true) := fun h => Adr.while_more Adr.inD T k hkl HK.out (by rw [hat]; exact h)
      have HEND : Hid (Adr.inD (S[i + k]'hlt) = false → (T.takeWhile Adr.inD).length = k) := fun h => HST.out (fun _ => by rw [hat]; exact h)
      have HLT := Lib.hid (fun W : World => rletter_b (S[i + k]'hlt) W)
      have e1 := Adr.u8_beq (S[i + k]'hlt) 45
      have e2 := Adr.u8_beq (S[i + k]'hlt) 46
      rw [show ((45 : UInt8).toNat : Int) = 45 from rfl] at e1
      rw [show ((46 : UInt8).toNat : Int) = 46 from rfl] at e2
      generalize ((S[i + k]'hlt) == 45) = b1 at *
      generalize ((S[i + k]'hlt) == 46) = b2 at *
      generalize Adr.letB (S[i + k]'hlt) = b0 at *
      clear hat hkl HST HK
      cases b0 with
      | true =>
        have HM := Lib.hid (HMORE.out (by rw [hp]; rfl))
        clear HMORE HEND hp e1 e2
        go_wp2_with (go_at_call 80; refine (HLT.out _).mono ?_; rintro e w' ⟨rfl, rfl⟩)
        go_round
        case rel => exact ⟨k + 1, by go_num, by omega, HM⟩
        case measure => simp [intOf]; omega
      | false =>
        cases b1 with
        | true =>
          have HM := Lib.hid (HMORE.out (by rw [hp]; rfl))
          clear HMORE HEND hp e2
          go_wp2_with (go_at_call 80; refine (HLT.out _).mono ?_; rintro e w' ⟨rfl, rfl⟩)
          go_round
          case rel => exact ⟨k + 1, by go_num, by omega, HM⟩
          case measure => simp [intOf]; omega
        | false =>
          cases b2 with
          | true =>
            have HM := Lib.hid (HMORE.out (by rw [hp]; rfl))
            clear HMORE HEND hp
            go_wp2_with (go_at_call 80; refine (HLT.out _).mono ?_; rintro e w' ⟨rfl, rfl⟩)
            go_round
            case rel => exact ⟨k + 1, by go_num, by omega, HM⟩
            case measure => simp [intOf]; omega
          | false =>
            have HE := Lib.hid (HEND.out (by rw [hp]; rfl))
            clear HMORE HEND hp
            go_wp2_with (go_at_call 80; refine (HLT.out _).mono ?_; rintro e w' ⟨rfl, rfl⟩)
            go_ret
            exact ⟨by rw [HE.out]; rfl, rfl⟩
    · have hltz : ¬ ((i + k : Nat) : Int) < (S.size : Int) := by omega
      have HE := Lib.hid (HST.out (fun h => by rw [HL.out] at h; omega))
      clear HST HK
      go_wp2_with fail
      go_ret
      exact ⟨by rw [HE.out]; rfl, rfl⟩
end Go.Proofs.YtkchebbolldmbaaGreatDoor
set_option linter.unusedVariables false
namespace Adr
/-- The place behind what is passed over; below 0: there is none. -/
def rtI (n : Nat) : Option (List UInt8) → Int
  | none => -1
  | some r => ((n - r.length : Nat) : Int)
theorem rdR_no {T : List UInt8} (h : atB 64 T = false) : rdR T = some T := by unfold rdR; simp [h]
theorem rdR_yes {T : List UInt8} (h : atB 64 T = true) : rdR T = (rdD T.tail).bind fun p => if atB 44 p.2 = true then rdRl p.2.tail else tk 58 p.2 := by
  unfold rdR
  rw [if_pos h, rdRl_eq, tk_yes h, Option.bind_some]
theorem rdRl_rdR {T : List UInt8} (h : atB 64 T = true) : rdRl T = rdR T := by unfold rdR; rw [if_pos h]
theorem rdRl_no {T : List UInt8} (h : atB 64 T = false) : rdRl T = none := by rw [rdRl_eq, tk_no h]; rfl
theorem at_one {c d : UInt8} {T : List UInt8} (h : atB c T = true) (hn : c ≠ d) : atB d T = false := by
  rw [at_cons h]
  exact beq_eq_false_iff_ne.2 hn
theorem rt_a {T : List UInt8} (h : atB 64 T = true) (g : domB (T.tail.takeWhile inD) = false) : rdR T = none := by
  rw [rdR_yes h]; unfold rdD; rw [g]; rfl
theorem rdD_yes {T : List UInt8} (g : domB (T.takeWhile inD) = true) : rdD T = some (sml (T.takeWhile inD), T.dropWhile inD) := by unfold rdD; rw [if_pos g]
theorem rt_b {T : List UInt8} (h : atB 64 T = true) (g : domB (T.tail.takeWhile inD) = true) (q : atB 58 (T.tail.dropWhile inD) = true) : rdR T = some (T.tail.dropWhile inD).tail := by
  rw [rdR_yes h, rdD_yes g, Option.bind_some]
  simp only [at_one q (show (58 : UInt8) ≠ 44 by decide)]
  exact tk_yes q
theorem rt_c {T : List UInt8} (h : atB 64 T = true) (g : domB (T.tail.takeWhile inD) = true) (q : atB 58 (T.tail.dropWhile inD) = false) (q2 : atB 44 (T.tail.dropWhile inD) = false) : rdR T = none := by
  rw [rdR_yes h, rdD_yes g, Option.bind_some]
  simp only [q2]
  exact tk_no q
theorem rt_d {T : List UInt8} (h : atB 64 T = true) (g : domB (T.tail.takeWhile inD) = true) (q2 : atB 44 (T.tail.dropWhile inD) = true) (q3 : atB 64 (T.tail.dropWhile inD).tail = false) : rdR T = none := by
  rw [rdR_yes h, rdD_yes g, Option.bind_some]
  simp only [q2]
  exact rdRl_no q3
theorem rt_e {T : List UInt8} (h : atB 64 T = true) (g : domB (T.tail.takeWhile inD) = true) (q2 : atB 44 (T.tail.dropWhile inD) = true) (q3 : atB 64 (T.tail.dropWhile inD).tail = true) : rdR T = rdR (T.tail.dropWhile inD).tail := by
  rw [rdR_yes h, rdD_yes g, Option.bind_some]
  simp only [q2]
  exact rdRl_rdR q3
theorem while_split (p : UInt8 → Bool) (T : List UInt8) : T.take (T.takeWhile p).length = T.takeWhile p ∧ T.drop (T.takeWhile p).length = T.dropWhile p := by
  have h : T.takeWhile p ++ T.dropWhile p = T := List.takeWhile_append_dropWhile
  generalize T.takeWhile p = x at *
  generalize T.dropWhile p = y at *
  subst h
  simp
/-- Behind n bytes of a kind that stand at a place. -/
theorem while_at (L : List UInt8) (k : Nat) : L.drop (k + ((L.drop k).takeWhile inD).length) = (L.drop k).dropWhile inD := by
  rw [← List.drop_drop]
  exact (while_split inD (L.drop k)).2
theorem at_lt {L : List UInt8} {k : Nat} {c : UInt8} (h : atB c (L.drop k) = true) : k < L.length := by
  apply Nat.lt_of_not_le
  intro g
  rw [at_far L k g c] at h
  cases h
end Adr
namespace Go.Proofs.YtkchebbolldmbaaGreatDoor
open Go.RowKit
/-- The bytes of a domain's kind that stand at a place. -/
theorem ext_while (S : ByteArray) (k n : Nat) (hn : n = ((S.data.toList.drop k).takeWhile Adr.inD).length) : S.extract k (k + n) = ⟨((S.data.toList.drop k).takeWhile Adr.inD).toArray⟩ := by
  have h := Lib.extract_data S k (k + n)
  rw [← Lib.mk_data (S.extract k (k + n)), h, Nat.add_sub_cancel_left, hn, (Adr.while_split _ _).1]
theorem while_le (S : ByteArray) (k n : Nat) (hk : k ≤ S.size) (hn : n = ((S.data.toList.drop k).takeWhile Adr.inD).length) : k + n ≤ S.size := by
  have h := Adr.takeWhile_len Adr.inD (S.data.toList.drop k)
  rw [List.length_drop, ← Lib.size_eq] at h
  omega

set_option maxRecDepth 100000 in
set_option maxHeartbeats 4000000 in
theorem routed_any (S : ByteArray) (i : Nat) (m : Int) (w : World) (hi : i ≤ S.size) (hs : S.size < 4294967281) (hm : w.cell? ⟨3, 0, none⟩ = some (.int .i64 m)) :
    Calls Tryz.prog 90 #[.string S, .int .i64 i] w fun e w' => e = .returned (.int .i64 (Adr.rtI S.size (Adr.rdR (S.data.toList.drop i)))) ∧ Below w.heap.size w w' := by
  have HZ := Lib.hid (Lib.size_eq S)
  have HA := Lib.hid (at_refl hm)
  have I64 := Lib.hid (fun (k : Nat) (W : World) => is_any S k 64 64 rfl W (by omega))
  have I58 := Lib.hid (fun (k : Nat) (W : World) => is_any S k 58 58 rfl W (by omega))
  have I44 := Lib.hid (fun (k : Nat) (W : World) => is_any S k 44 44 rfl W (by omega))
  have HD := Lib.hid (fun (k : Nat) (W : World) (h : k ≤ S.size) => domAt_any S k W h hs)
  have HM := Lib.hid (fun (X : ByteArray) (W : World) (hx : X.size ≤ S.size) (h : At m w W) => rdomain_any X m W (by omega) h.cell)
  have HO := Lib.hid (rfl : Adr.rdR (S.data.toList.drop i) = Adr.rdR (S.data.toList.drop i))
  generalize hgo : Adr.rdR (S.data.toList.drop i) = o at *
  replace HO : Hid (Adr.rdR (S.data.toList.drop i) = o) := hgo
  clear hm hgo
  go_enter Tryz.func90, Tryz.ntmps90
  go_wp2
  go_loopw [1] (fun u wr => ∃ k : Nat, u = .int .i64 k ∧ k ≤ S.size ∧ Hid (Adr.rdR (S.data.toList.drop k) = o) ∧ At m w wr) (fun u _ => S.size - (intOf u).toNat)
  case atStart => exact ⟨i, rfl, hi, HO, HA.out⟩
  case round =>
    obtain ⟨k, rfl, hk, HR, hat⟩ := hrel
    have HAT := Lib.hid hat
    have C64 := Lib.hid (I64.out k)
    cases hq : Adr.atB 64 (S.data.toList.drop k) with
    | false =>
      rw [hq] at C64
      have HE : Hid (Adr.rtI S.size o = k) := by
        show _ = _
        rw [← HR.out, Adr.rdR_no hq, Adr.rtI, List.length_drop, ← HZ.out]
        congr 1
        omega
      clear hq HR hat
      go_wp2_with (go_at_call 89; refine (C64.out _).mono ?_; rintro e w' ⟨rfl, rfl⟩)
      go_ret
      exact ⟨by rw [HE.out]; rfl, HAT.out.below⟩
    | true =>
      rw [hq] at C64
      obtain ⟨k1, hk1⟩ : ∃ k1, k1 = k + 1 := ⟨_, rfl⟩
      obtain ⟨t, ht⟩ : ∃ t, t = (S.data.toList.drop k1).takeWhile Adr.inD := ⟨_, rfl⟩
      obtain ⟨n, hn⟩ : ∃ n, n = t.length := ⟨_, rfl⟩
      obtain ⟨k2, hk2⟩ : ∃ k2, k2 = k1 + n := ⟨_, rfl⟩
      obtain ⟨n1, hn1⟩ : ∃ n1, n1 = 1 + n := ⟨_, rfl⟩
      obtain ⟨k3, hk3⟩ : ∃ k3, k3 = k2 + 1 := ⟨_, rfl⟩
      have hlt : k < S.size := by rw [HZ.out]; exact Adr.at_lt hq
      have hnt : n = ((S.data.toList.drop k1).takeWhile Adr.inD).length := by rw [hn, ht]
      have hle : k2 ≤ S.size := by rw [hk2]; exact while_le S k1 n (by omega) hnt
      have htl : (S.data.toList.drop k).tail = S.data.toList.drop k1 := by rw [List.tail_drop, hk1]
      have hdu : (S.data.toList.drop k1).dropWhile Adr.inD = S.data.toList.drop k2 := by rw [hk2, hnt]; exact (Adr.while_at _ _).symm
      have hdt : (S.data.toList.drop k2).tail = S.data.toList.drop k3 := by rw [List.tail_drop, hk3]
      have CD := Lib.hid (fun W => HD.out k1 W (by omega))
      rw [← hnt] at CD
      have HX := ext_while S k1 n hnt
      rw [← hk2, ← ht] at HX
      have CM := Lib.hid (fun (W : World) (h : At m w W) => HM.out ⟨t.toArray⟩ W (by rw [size_mk, ← hn]; omega) h)
      rw [show (⟨t.toArray⟩ : ByteArray).data.toList = t from rfl] at CM
      have za := Adr.rt_a hq
      have zb := Adr.rt_b hq
      have zc := Adr.rt_c hq
      have zd := Adr.rt_d hq
      have ze := Adr.rt_e hq
      rw [htl, ← ht, HR.out] at za
      rw [htl, hdu, ← ht, hdt, HR.out] at zb zd ze
      rw [htl, hdu, ← ht, HR.out] at zc
      have hgt : Adr.atB 64 (S.data.toList.drop k3) = true → k3 < S.size := fun h => by rw [HZ.out]; exact Adr.at_lt h
      have hgt2 : Adr.atB 44 (S.data.toList.drop k2) = true → k2 < S.size := fun h => by rw [HZ.out]; exact Adr.at_lt h
      have hgt3 : Adr.atB 58 (S.data.toList.drop k2) = true → k2 < S.size := fun h => by rw [HZ.out]; exact Adr.at_lt h
      have hlen : (S.data.toList.drop k3).length = S.size - k3 := by rw [List.length_drop, ← HZ.out]
      have C58 := Lib.hid (I58.out k2)
      have C44 := Lib.hid (I44.out k2)
      have D64 := Lib.hid (I64.out k3)
      have w1 : IntKind.i64.wrap ((k : Int) + 1) = (k1 : Int) := by rw [IntKind.wrap_i64]; omega
      have w2 : IntKind.i64.wrap ((k1 : Int) + (n : Int)) = (k2 : Int) := by rw [IntKind.wrap_i64]; omega
      have w3 : IntKind.i64.wrap (1 + (n : Int)) = (n1 : Int) := by rw [IntKind.wrap_i64]; omega
      have w4 : IntKind.i64.wrap ((k : Int) + (n1 : Int)) = (k2 : Int) := by rw [IntKind.wrap_i64]; omega
      have w5 : IntKind.i64.wrap ((k2 : Int) + 1) = (k3 : Int) := by rw [IntKind.wrap_i64]; omega
      have v1 : (k1 : Int) ≤ (k2 : Int) := by omega
      have v2 : (k2 : Int) ≤ (S.size : Int) := by omega
      have v3 : (0 : Int) ≤ (k1 : Int) := by omega
      have v4 : k < k3 := by omega
      have v5 : k2 < S.size → k3 ≤ S.size := fun h => by omega
      generalize hg64 : Adr.atB 64 (S.data.toList.drop k3) = g64 at *
      generalize hg44 : Adr.atB 44 (S.data.toList.drop k2) = g44 at *
      generalize hg58 : Adr.atB 58 (S.data.toList.drop k2) = g58 at *
      have HN := Lib.hid (fun (r : Option (List UInt8)) (h : o = r) => h ▸ HR.out)
      clear hat htl hdu hdt ht hn hnt HD HM I64 I58 I44 HZ hg64 hg44 hg58 hk1 hk2 hk3 hn1 hq
      cases hd : Adr.domB t with
      | false =>
        rw [dom_no hd] at CM
        have HE := Lib.hid (za hd)
        clear za zb zc zd ze hd hgt hgt2 hgt3 hlen v5
        go_wp2_with (first
          | (go_at_call 89; refine (C64.out _).mono ?_; rintro e w' ⟨rfl, rfl⟩)
          | (go_at_call 92; refine (CD.out _).mono ?_; rintro e w' ⟨rfl, rfl⟩)
          | (go_at_call 77; refine (CM.out _ HAT.out).mono ?_; rintro e w1 ⟨rfl, h1⟩; have H1 := Lib.hid (HAT.out.next h1); clear h1))
        go_ret
        exact ⟨by rw [HE.out]; rfl, H1.out.below⟩
      | true =>
        rw [dom_yes hd] at CM
        cases g58 with
        | true =>
          have HE : Hid (Adr.rtI S.size o = (k3 : Int)) := by
            have := v5 (hgt3 rfl)
            show _ = _
            rw [zb hd rfl, Adr.rtI, hlen]
            omega
          clear za zb zc zd ze hd hgt hgt2 hgt3 hlen v5
          go_wp2_with (first
            | (go_at_call 89; first
              | (with_reducible refine Calls.mono (C64.out _) ?_; rintro e w' ⟨rfl, rfl⟩)
              | (with_reducible refine Calls.mono (C58.out _) ?_; rintro e w' ⟨rfl, rfl⟩)
              | (with_reducible refine Calls.mono (C44.out _) ?_; rintro e w' ⟨rfl, rfl⟩)
              | (with_reducible refine Calls.mono (D64.out _) ?_; rintro e w' ⟨rfl, rfl⟩))
            | (go_at_call 92; refine (CD.out _).mono ?_; rintro e w' ⟨rfl, rfl⟩)
            | (go_at_call 77; refine (CM.out _ HAT.out).mono ?_; rintro e w1 ⟨rfl, h1⟩; have H1 := Lib.hid (HAT.out.next h1); clear h1))
          go_ret
          exact ⟨by rw [HE.out]; rfl, H1.out.below⟩
        | false =>
          cases g44 with
          | false =>
            have HE := Lib.hid (zc hd rfl rfl)
            clear za zb zc zd ze hd hgt hgt2 hgt3 hlen v5
            go_wp2_with (first
              | (go_at_call 89; first
                | (with_reducible refine Calls.mono (C64.out _) ?_; rintro e w' ⟨rfl, rfl⟩)
                | (with_reducible refine Calls.mono (C58.out _) ?_; rintro e w' ⟨rfl, rfl⟩)
                | (with_reducible refine Calls.mono (C44.out _) ?_; rintro e w' ⟨rfl, rfl⟩)
                | (with_reducible refine Calls.mono (D64.out _) ?_; rintro e w' ⟨rfl, rfl⟩))
              | (go_at_call 92; refine (CD.out _).mono ?_; rintro e w' ⟨rfl, rfl⟩)
              | (go_at_call 77; refine (CM.out _ HAT.out).mono ?_; rintro e w1 ⟨rfl, h1⟩; have H1 := Lib.hid (HAT.out.next h1); clear h1))
            go_ret
            exact ⟨by rw [HE.out]; rfl, H1.out.below⟩
          | true =>
            cases g64 with
            | false =>
              have HE := Lib.hid (zd hd rfl rfl)
              clear za zb zc zd ze hd hgt hgt2 hgt3 hlen v5
              go_wp2_with (first
                | (go_at_call 89; first
                  | (with_reducible refine Calls.mono (C64.out _) ?_; rintro e w' ⟨rfl, rfl⟩)
                  | (with_reducible refine Calls.mono (C58.out _) ?_; rintro e w' ⟨rfl, rfl⟩)
                  | (with_reducible refine Calls.mono (C44.out _) ?_; rintro e w' ⟨rfl, rfl⟩)
                  | (with_reducible refine Calls.mono (D64.out _) ?_; rintro e w' ⟨rfl, rfl⟩))
                | (go_at_call 92; refine (CD.out _).mono ?_; rintro e w' ⟨rfl, rfl⟩)
                | (go_at_call 77; refine (CM.out _ HAT.out).mono ?_; rintro e w1 ⟨rfl, h1⟩; have H1 := Lib.hid (HAT.out.next h1); clear h1))
              go_ret
              exact ⟨by rw [HE.out]; rfl, H1.out.below⟩
            | true =>
              have HE := Lib.hid (ze hd rfl rfl)
              have hk3s := hgt rfl
              clear za zb zc zd ze hd hgt hgt2 hgt3 hlen v5
              go_wp2_with (first
                | (go_at_call 89; first
                  | (with_reducible refine Calls.mono (C64.out _) ?_; rintro e w' ⟨rfl, rfl⟩)
                  | (with_reducible refine Calls.mono (C58.out _) ?_; rintro e w' ⟨rfl, rfl⟩)
                  | (with_reducible refine Calls.mono (C44.out _) ?_; rintro e w' ⟨rfl, rfl⟩)
                  | (with_reducible refine Calls.mono (D64.out _) ?_; rintro e w' ⟨rfl, rfl⟩))
                | (go_at_call 92; refine (CD.out _).mono ?_; rintro e w' ⟨rfl, rfl⟩)
                | (go_at_call 77; refine (CM.out _ HAT.out).mono ?_; rintro e w1 ⟨rfl, h1⟩; have H1 := Lib.hid (HAT.out.next h1); clear h1))
              go_roundw
              case rel => exact ⟨k3, rfl, by omega, HE.out.symm, H1.out⟩
              case measure => simp [intOf]; omega
end Go.Proofs.YtkchebbolldmbaaGreatDoor
set_option linter.unusedVariables false
namespace Adr
theorem inL_parts (c : UInt8) : inL c = (letB c || (sgnB c || (c == 46))) := by
  unfold inL atomB
  rw [Bool.or_assoc]
theorem rdL_plain_no {T : List UInt8} (h : atB 34 T = false) (g : plainB (T.takeWhile inL) = false) : rdL T = none := by unfold rdL; simp [h, g]
theorem rdL_plain_yes {T : List UInt8} (h : atB 34 T = false) (g : plainB (T.takeWhile inL) = true) : rdL T = some (T.takeWhile inL, T.dropWhile inL) := by unfold rdL; simp [h, g]
theorem rdL_q {T : List UInt8} (h : atB 34 T = true) : rdL T = rdQ T.tail := by unfold rdL; rw [if_pos h]
theorem qlp_nil (acc : List UInt8) : qlp [] acc = none := by unfold qlp; rfl
end Adr
namespace Go.Proofs.YtkchebbolldmbaaGreatDoor
open Go.RowKit
/-- What localAt answers. -/
def lcV (n : Nat) : Option (List UInt8 × List UInt8) → Value
  | none => .tuple #[.string ⟨#[]⟩, .int .i64 (-1)]
  | some (l, r) => .tuple #[.string ⟨l.toArray⟩, .int .i64 ((n - r.length : Nat) : Int)]
/-- 'string(b)' of bytes that the call owns, in a later world. -/
theorem back_later {w W : World} {base : Nat} {v : Value} {l : List UInt8} {n : Nat} (h : w.ownsRow base 5 1 v n (Lib.byteCells l)) (hn : l.length = n) (hb : Below w.heap.size w W) : (convert 75 9 v).run Tryz.prog W = .ok (.string ⟨l.toArray⟩) W := by
  subst hn
  have hlt := h.lt
  rcases h.2 with ⟨h1, h0⟩ | ⟨g, c, cur, h1, _⟩
  · have : l = [] := List.length_eq_zero_iff.1 h0
    subst this
    subst h1
    exact run_convert_bytes_string W 75 9 5 none 0 0 Tryz.underlying75 Tryz.underlying5 Tryz.underlying9
  · subst h1
    have hg : g < w.heap.size := (hlt g rfl).2
    refine run_convert_bytes_back W 75 9 5 ⟨g, 0, none⟩ c l Tryz.underlying75 Tryz.underlying5 Tryz.underlying9 (fun j hj => ?_)
    rw [add_off, Nat.zero_add, hb.cell (p := ⟨g, j, none⟩) hg, h.cellAt j (by omega)]
    unfold Lib.byteCells
    rw [List.getElem?_map, List.getElem?_eq_getElem hj]
    rfl
/-- A row of bytes that the call owns, at a round. -/
structure Or (w : World) (v : Value) (wr : World) (acc : List UInt8) : Prop where
  own : wr.ownsRow w.heap.size 5 1 v acc.length (Lib.byteCells acc)
  bel : Below w.heap.size w wr
theorem or_app {w wr w1 : World} {v v' : Value} {acc : List UInt8} {c : UInt8} {o : Obj} (h : Or w v wr acc) (hown : w1.ownsRow w.heap.size 5 1 v' (acc.length + 1) (Lib.byteCells acc ++ [.int .u8 (c.toNat : Int)])) (hg : (wr.alloc o).grownBy w1 v.ownBlock) : Or w v' w1 (acc ++ [c]) := by
  have hws := h.bel.size
  refine ⟨?_, (h.bel.alloc hws _).grown hg (by simp only [World.size_alloc]; omega) (fun q hq => (h.own.lt q hq).1)⟩
  rw [List.length_append, ← cells_one]
  exact hown
/-- A round of the loop in quotes. -/
structure Qi (S : ByteArray) (k : Nat) (acc : List UInt8) (Q : Option (List UInt8 × List UInt8)) : Prop where
  q : Adr.qlp (S.data.toList.drop k) acc = Q
  len : acc.length ≤ k
theorem at_drop_cons (S : ByteArray) (k : Nat) (h : k < S.size) : S.data.toList.drop k = S[k] :: S.data.toList.drop (k + 1) := by
  have hl : k < S.data.toList.length := by rw [← Lib.size_eq]; exact h
  rw [List.drop_eq_getElem_cons hl, at_data S k h hl]
theorem drop_end (S : ByteArray) (k : Nat) (h : S.size ≤ k) : S.data.toList.drop k = [] := List.drop_eq_nil_of_le (by rw [← Lib.size_eq]; exact h)

set_option maxRecDepth 100000 in
set_option maxHeartbeats 4000000 in
theorem localAt_any (S : ByteArray) (i : Nat) (w : World) (hi : i ≤ S.size) (hs : S.size < 4294967281) :
    Calls Tryz.prog 91 #[.string S, .int .i64 i] w fun e w' => e = .returned (lcV S.size (Adr.rdL (S.data.toList.drop i))) ∧ Below w.heap.size w w' := by
  obtain ⟨i0, hi0, hz0, hz1, hz2⟩ := info_parts info5
  have I34 := Lib.hid (fun (W : World) => is_any S i 34 34 rfl W (by omega))
  have hemp : Or w (.slice (some ⟨w.heap.size, 0, none⟩) 0 0) (w.alloc (.cells #[] 5)) [] := ⟨World.ownsRow_lit w #[] 0 (Nat.le_refl _) (by unfold maxLen; omega) rfl, (Below.refl _ _).alloc (Nat.le_refl _) _⟩
  have HEMP := Lib.hid hemp
  clear hemp
  cases hq : Adr.atB 34 (S.data.toList.drop i) with
  | false =>
    rw [hq] at I34
    have HNO := Lib.hid (fun g => Adr.rdL_plain_no hq g)
    have HYES := Lib.hid (fun g => Adr.rdL_plain_yes hq g)
    have HL : Hid ((S.data.toList.drop i).length = S.size - i) := by show _ = _; rw [List.length_drop, ← Lib.size_eq]
    have HG : Hid (∀ (n : Nat) (h : i + n < S.size) (h2 : n < (S.data.toList.drop i).length), (S.data.toList.drop i)[n] = S[i + n]) := by
      intro n h h2
      rw [List.getElem_drop, at_data S (i + n) h (by rw [← Lib.size_eq]; exact h)]
    generalize S.data.toList.drop i = T at *
    have HW := Lib.hid (Adr.while_stop Adr.inL T)
    generalize Adr.rdL T = o at *
    clear hq
    go_enter Tryz.func91, Tryz.ntmps91
    go_wp2_with (go_at_call 89; refine (I34.out _).mono ?_; rintro e w' ⟨rfl, rfl⟩)
    go_loopw [1, 6] (fun u v wr => ∃ n k : Nat, u = .int .i64 k ∧ k = i + n ∧ k ≤ S.size ∧ Hid ((T.take n).all Adr.inL = true) ∧ Hid (Or w v wr (T.take n))) (fun u _ _ => S.size - (intOf u).toNat)
    case atStart => exact ⟨0, i, rfl, rfl, hi, rfl, HEMP⟩
    case round =>
      obtain ⟨n, k, rfl, hkn, hk, HK, HO⟩ := hrel
      have hnl : (T.take n).length = n := by rw [List.length_take, HL.out]; omega
      have hsz : w.heap.size ≤ wr.heap.size := HO.out.bel.size
      have HSTOP : Hid ((∀ h : n < T.length, Adr.inL T[n] = false) → T.takeWhile Adr.inL = T.take n ∧ T.dropWhile Adr.inL = T.drop n) := fun g => HW.out n (by rw [HL.out]; omega) HK.out g
      have hdl : (T.drop n).length = S.size - k := by rw [List.length_drop, HL.out]; omega
      have HN0 : Hid (T.takeWhile Adr.inL = T.take n ∧ T.dropWhile Adr.inL = T.drop n → Adr.plainB (T.take n) = false → lcV S.size o = .tuple #[.string ⟨#[]⟩, .int .i64 (-1)]) := fun h g => by rw [HNO.out (by rw [h.1]; exact g)]; rfl
      have HY0 : Hid (T.takeWhile Adr.inL = T.take n ∧ T.dropWhile Adr.inL = T.drop n → Adr.plainB (T.take n) = true → lcV S.size o = .tuple #[.string ⟨(T.take n).toArray⟩, .int .i64 k]) := fun h g => by
        rw [HYES.out (by rw [h.1]; exact g), lcV, h.1, h.2, hdl]
        congr 5
        omega
      have HP := Lib.hid (fun W : World => rplain_any ⟨(T.take n).toArray⟩ W (by rw [size_mk]; omega))
      rw [show (⟨(T.take n).toArray⟩ : ByteArray).data.toList = T.take n from rfl] at HP
      have HBK := Lib.hid (fun (W : World) (hb : Below wr.heap.size wr W) => back_later HO.out.own rfl hb)
      have hlen2 : (T.take n).length < 4294967281 := by omega
      have HKN := Lib.hid hkn
      by_cases hlt : k < S.size
      · have hltz : (k : Int) < (S.size : Int) := by omega
        have hnT : n < T.length := by rw [HL.out]; omega
        have hget : T[n] = S[k]'hlt := by subst hkn; exact HG.out n hlt hnT
        have HTS : Hid (T.take (n + 1) = T.take n ++ [S[k]'hlt]) := by
          show _ = _
          rw [List.take_succ_eq_append_getElem hnT, hget]
        have hp := Adr.inL_parts (S[k]'hlt)
        have HMORE : Hid (Adr.inL (S[k]'hlt) = true → (T.take (n + 1)).all Adr.inL = true) := fun h => Adr.while_more Adr.inL T n hnT HK.out (by rw [hget]; exact h)
        have HEND : Hid (Adr.inL (S[k]'hlt) = false → T.takeWhile Adr.inL = T.take n ∧ T.dropWhile Adr.inL = T.drop n) := fun h => HSTOP.out (fun _ => by rw [hget]; exact h)
        have HLT := Lib.hid (fun W : World => rletter_b (S[k]'hlt) W)
        have HSG := Lib.hid (fun W : World => rsign_b (S[k]'hlt) W)
        have e2 := Adr.u8_beq (S[k]'hlt) 46
        rw [show ((46 : UInt8).toNat : Int) = 46 from rfl] at e2
        generalize ((S[k]'hlt) == 46) = b2 at *
        generalize Adr.letB (S[k]'hlt) = b0 at *
        generalize Adr.sgnB (S[k]'hlt) = b1 at *
        clear hget hnT HSTOP HK HG HL HW HNO HYES HEMP I34 hkn hdl hnl
        cases b0 with
        | true =>
          have HM := Lib.hid (HMORE.out (by rw [hp]; rfl))
          clear HMORE HEND hp
          go_wp2_with (first
            | (go_at_call 80; refine (HLT.out _).mono ?_; rintro e w' ⟨rfl, rfl⟩)
            | (go_at_call 81; refine (HSG.out _).mono ?_; rintro e w' ⟨rfl, rfl⟩)
            | (at_builtin; go_must (refine wpList_append_own _ rfl (.tmp 34) (.tmp 38) 75 rfl w.heap.size 5 i0 (.int .u8 0) 1 1 Tryz.underlying75 hi0 hz0 hz1 hz2 rfl (by decide) _ _ _ rfl (HO.out.own.alloc _) ⟨wr.heap.size, 0, none⟩ 1 1 [.int .u8 ((S[k]'hlt).toNat : Int)] rfl rfl ?x1 ?x2 ?x3 ?x4 ?x5 ?_)))
          all_goals try exact cell_one_new _ _ _
          case x2 => first | rfl | (intro u hu; simp only [List.mem_singleton] at hu; subst hu; rfl)
          case x3 => unfold maxLen; omega
          case x4 => omega
          case x5 => first | omega | (simp only [World.size_alloc]; omega)
          intro v' w1 hown1 hgrow _
          have HO1 := Lib.hid (or_app (v' := v') (w1 := w1) (c := (S[k]'hlt)) HO.out (by first | exact hown1 | (rw [List.length_take]; exact hown1)) hgrow)
          clear hown1 hgrow
          go_wp2
          go_roundw
          case rel => exact ⟨n + 1, k + 1, by go_num, by have := HKN.out; omega, by omega, HM, by rw [HTS.out]; exact HO1⟩
          case measure => simp [intOf]; omega
        | false =>
          cases b1 with
          | true =>
            have HM := Lib.hid (HMORE.out (by rw [hp]; rfl))
            clear HMORE HEND hp
            go_wp2_with (first
              | (go_at_call 80; refine (HLT.out _).mono ?_; rintro e w' ⟨rfl, rfl⟩)
              | (go_at_call 81; refine (HSG.out _).mono ?_; rintro e w' ⟨rfl, rfl⟩)
              | (at_builtin; go_must (refine wpList_append_own _ rfl (.tmp 34) (.tmp 38) 75 rfl w.heap.size 5 i0 (.int .u8 0) 1 1 Tryz.underlying75 hi0 hz0 hz1 hz2 rfl (by decide) _ _ _ rfl (HO.out.own.alloc _) ⟨wr.heap.size, 0, none⟩ 1 1 [.int .u8 ((S[k]'hlt).toNat : Int)] rfl rfl ?y1 ?y2 ?y3 ?y4 ?y5 ?_)))
            all_goals try exact cell_one_new _ _ _
            case y2 => first | rfl | (intro u hu; simp only [List.mem_singleton] at hu; subst hu; rfl)
            case y3 => unfold maxLen; omega
            case y4 => omega
            case y5 => first | omega | (simp only [World.size_alloc]; omega)
            intro v' w1 hown1 hgrow _
            have HO1 := Lib.hid (or_app (v' := v') (w1 := w1) (c := (S[k]'hlt)) HO.out (by first | exact hown1 | (rw [List.length_take]; exact hown1)) hgrow)
            clear hown1 hgrow
            go_wp2
            go_roundw
            case rel => exact ⟨n + 1, k + 1, by go_num, by have := HKN.out; omega, by omega, HM, by rw [HTS.out]; exact HO1⟩
            case measure => simp [intOf]; omega
          | false =>
            cases b2 with
            | true =>
              have HM := Lib.hid (HMORE.out (by rw [hp]; rfl))
              clear HMORE HEND hp
              go_wp2_with (first
                | (go_at_call 80; refine (HLT.out _).mono ?_; rintro e w' ⟨rfl, rfl⟩)
                | (go_at_call 81; refine (HSG.out _).mono ?_; rintro e w' ⟨rfl, rfl⟩)
                | (at_builtin; go_must (refine wpList_append_own _ rfl (.tmp 34) (.tmp 38) 75 rfl w.heap.size 5 i0 (.int .u8 0) 1 1 Tryz.underlying75 hi0 hz0 hz1 hz2 rfl (by decide) _ _ _ rfl (HO.out.own.alloc _) ⟨wr.heap.size, 0, none⟩ 1 1 [.int .u8 ((S[k]'hlt).toNat : Int)] rfl rfl ?z1 ?z2 ?z3 ?z4 ?z5 ?_)))
              all_goals try exact cell_one_new _ _ _
              case z2 => first | rfl | (intro u hu; simp only [List.mem_singleton] at hu; subst hu; rfl)
              case z3 => unfold maxLen; omega
              case z4 => omega
              case z5 => first | omega | (simp only [World.size_alloc]; omega)
              intro v' w1 hown1 hgrow _
              have HO1 := Lib.hid (or_app (v' := v') (w1 := w1) (c := (S[k]'hlt)) HO.out (by first | exact hown1 | (rw [List.length_take]; exact hown1)) hgrow)
              clear hown1 hgrow
              go_wp2
              go_roundw
              case rel => exact ⟨n + 1, k + 1, by go_num, by have := HKN.out; omega, by omega, HM, by rw [HTS.out]; exact HO1⟩
              case measure => simp [intOf]; omega
            | false =>
              have HE := Lib.hid (HEND.out (by rw [hp]; rfl))
              clear HMORE HEND hp
              cases hpl : Adr.plainB (T.take n) with
              | false =>
                rw [hpl] at HP
                have HV := Lib.hid (HN0.out HE.out hpl)
                have hb1 := HBK.out wr (Below.refl _ _)
                clear hpl HN0 HY0 HE
                go_wp2_with (first
                  | (go_at_call 80; refine (HLT.out _).mono ?_; rintro e w' ⟨rfl, rfl⟩)
                  | (go_at_call 81; refine (HSG.out _).mono ?_; rintro e w' ⟨rfl, rfl⟩)
                  | (go_at_call 62; refine (HP.out _).mono ?_; rintro e w1 ⟨rfl, h1⟩; have H1 := Lib.hid h1; clear h1))
                go_ret2
                exact ⟨by rw [HV.out]; rfl, HO.out.bel.trans (H1.out.mono hsz)⟩
              | true =>
                rw [hpl] at HP
                have HV := Lib.hid (HY0.out HE.out hpl)
                have hb1 := HBK.out wr (Below.refl _ _)
                clear hpl HN0 HY0 HE
                go_wp2_with (first
                  | (go_at_call 80; refine (HLT.out _).mono ?_; rintro e w' ⟨rfl, rfl⟩)
                  | (go_at_call 81; refine (HSG.out _).mono ?_; rintro e w' ⟨rfl, rfl⟩)
                  | (go_at_call 62; refine (HP.out _).mono ?_; rintro e w1 ⟨rfl, h1⟩; have H1 := Lib.hid h1; have hb2 := HBK.out w1 h1; clear h1))
                go_ret2
                exact ⟨by rw [HV.out]; rfl, HO.out.bel.trans (H1.out.mono hsz)⟩
      · have hltz : ¬ (k : Int) < (S.size : Int) := by omega
        have HE := Lib.hid (HSTOP.out (fun h => by rw [HL.out] at h; omega))
        clear HSTOP HK HG HL HW HNO HYES HEMP I34 hkn hdl hnl
        cases hpl : Adr.plainB (T.take n) with
        | false =>
          rw [hpl] at HP
          have HV := Lib.hid (HN0.out HE.out hpl)
          have hb1 := HBK.out wr (Below.refl _ _)
          clear hpl HN0 HY0 HE
          go_wp2_with (first
            | (go_at_call 62; refine (HP.out _).mono ?_; rintro e w1 ⟨rfl, h1⟩; have H1 := Lib.hid h1; clear h1))
          go_ret2
          exact ⟨by rw [HV.out]; rfl, HO.out.bel.trans (H1.out.mono hsz)⟩
        | true =>
          rw [hpl] at HP
          have HV := Lib.hid (HY0.out HE.out hpl)
          have hb1 := HBK.out wr (Below.refl _ _)
          clear hpl HN0 HY0 HE
          go_wp2_with (first
            | (go_at_call 62; refine (HP.out _).mono ?_; rintro e w1 ⟨rfl, h1⟩; have H1 := Lib.hid h1; have hb2 := HBK.out w1 h1; clear h1))
          go_ret2
          exact ⟨by rw [HV.out]; rfl, HO.out.bel.trans (H1.out.mono hsz)⟩
  | true =>
    rw [hq] at I34
    have hlti : i < S.size := by rw [Lib.size_eq]; exact Adr.at_lt hq
    have HRD : Hid (Adr.rdL (S.data.toList.drop i) = Adr.rdQ (S.data.toList.drop (i + 1))) := by
      show _ = _
      rw [Adr.rdL_q hq, List.tail_drop]
    have HNONE : Hid (Adr.qlp (S.data.toList.drop (i + 1)) [] = none → lcV S.size (Adr.rdL (S.data.toList.drop i)) = .tuple #[.string ⟨#[]⟩, .int .i64 (-1)]) := fun h => by rw [HRD.out, Adr.rdQ_none h]; rfl
    have HNOT : Hid (∀ l r, Adr.qlp (S.data.toList.drop (i + 1)) [] = some (l, r) → Adr.localB l = false → lcV S.size (Adr.rdL (S.data.toList.drop i)) = .tuple #[.string ⟨#[]⟩, .int .i64 (-1)]) := fun l r h g => by rw [HRD.out, Adr.rdQ_no h g]; rfl
    have HYES : Hid (∀ l r, Adr.qlp (S.data.toList.drop (i + 1)) [] = some (l, r) → Adr.localB l = true → lcV S.size (Adr.rdL (S.data.toList.drop i)) = .tuple #[.string ⟨l.toArray⟩, .int .i64 ((S.size - r.length : Nat) : Int)]) := fun l r h g => by rw [HRD.out, Adr.rdQ_yes h g]; rfl
    have HST : Hid (Qi S (i + 1) [] (Adr.qlp (S.data.toList.drop (i + 1)) [])) := ⟨rfl, Nat.zero_le _⟩
    generalize Adr.qlp (S.data.toList.drop (i + 1)) [] = Q at *
    generalize lcV S.size (Adr.rdL (S.data.toList.drop i)) = R at *
    clear hq HRD
    go_enter Tryz.func91, Tryz.ntmps91
    go_wp2_with (go_at_call 89; refine (I34.out _).mono ?_; rintro e w' ⟨rfl, rfl⟩)
    go_loopw [1, 6] (fun u v wr => ∃ (k : Nat) (acc : List UInt8), u = .int .i64 k ∧ k ≤ S.size + 1 ∧ Hid (Qi S k acc Q) ∧ Hid (Or w v wr acc)) (fun u _ _ => S.size + 1 - (intOf u).toNat)
    case atStart => exact ⟨i + 1, [], by go_num, by omega, HST, HEMP⟩
    case round =>
      obtain ⟨k, acc, rfl, hk, HQ, HO⟩ := hrel
      have hal := HQ.out.len
      have hsz : w.heap.size ≤ wr.heap.size := HO.out.bel.size
      have HP := Lib.hid (fun W : World => rlocal_any ⟨acc.toArray⟩ W (by rw [size_mk]; omega))
      rw [show (⟨acc.toArray⟩ : ByteArray).data.toList = acc from rfl] at HP
      have hb1 := back_later HO.out.own rfl (Below.refl wr.heap.size wr)
      have hb2 := Lib.hid hb1
      clear hb1 HEMP HST I34
      by_cases hlt : k < S.size
      · have hltz : (k : Int) < (S.size : Int) := by omega
        have hgez : ¬ (S.size : Int) ≤ (k : Int) := by omega
        have HDC := Lib.hid (at_drop_cons S k hlt)
        by_cases q1 : (S[k]'hlt) = 34
        · have e1 : ((S[k]'hlt).toNat : Int) = 34 := by rw [q1]; rfl
          have HQQ : Hid (Q = some (acc, S.data.toList.drop (k + 1))) := by
            have := HQ.out.q
            rw [HDC.out, q1, Adr.qlp_end] at this
            exact this.symm
          have HKL : Hid ((S.size - (S.data.toList.drop (k + 1)).length : Nat) = k + 1) := by
            show _ = _
            rw [List.length_drop, ← Lib.size_eq]
            omega
          have hb1 := hb2.out
          clear q1
          cases hl : Adr.localB acc with
          | false =>
            rw [hl] at HP
            have HV := Lib.hid (HNOT.out _ _ HQQ.out hl)
            clear hl HNONE HNOT HYES
            go_wp2_with (go_at_call 78; refine (HP.out _).mono ?_; rintro e w' ⟨rfl, rfl⟩)
            go_ret2
            exact ⟨by rw [HV.out]; rfl, HO.out.bel⟩
          | true =>
            rw [hl] at HP
            have HV := Lib.hid (HYES.out _ _ HQQ.out hl)
            rw [HKL.out] at HV
            clear hl HNONE HNOT HYES
            go_wp2_with (go_at_call 78; refine (HP.out _).mono ?_; rintro e w' ⟨rfl, rfl⟩)
            go_ret2
            exact ⟨by rw [HV.out]; go_num, HO.out.bel⟩
        · have e1 : ¬ ((S[k]'hlt).toNat : Int) = 34 := fun h => q1 (UInt8.toNat_inj.1 (by rw [show (34 : UInt8).toNat = 34 from rfl]; omega))
          by_cases q2 : (S[k]'hlt) = 92
          · have e2 : ((S[k]'hlt).toNat : Int) = 92 := by rw [q2]; rfl
            clear q1
            by_cases hl2 : k + 1 < S.size
            · obtain ⟨k1, hk1⟩ : ∃ k1, k1 = k + 1 := ⟨_, rfl⟩
              have hlt1 : k1 < S.size := by omega
              have hltz1 : (k1 : Int) < (S.size : Int) := by omega
              have HQ1 : Hid (Qi S (k1 + 1) (acc ++ [S[k1]'hlt1]) Q) := by
                refine ⟨?_, by rw [List.length_append]; simp; omega⟩
                have := HQ.out.q
                rw [HDC.out, q2, ← hk1, at_drop_cons S k1 hlt1, Adr.qlp_sign] at this
                exact this
              have w1 : IntKind.i64.wrap ((k : Int) + 1) = (k1 : Int) := by rw [IntKind.wrap_i64]; omega
              have h2k : k < k1 := by omega
              have h3k : k1 ≤ S.size := by omega
              clear q2 HNONE HNOT HYES hk1
              go_wp2_with (first
                | (at_builtin; go_must (refine wpList_append_own _ rfl (.tmp 71) (.tmp 75) 75 rfl w.heap.size 5 i0 (.int .u8 0) 1 1 Tryz.underlying75 hi0 hz0 hz1 hz2 rfl (by decide) _ _ _ rfl (HO.out.own.alloc _) ⟨wr.heap.size, 0, none⟩ 1 1 [.int .u8 ((S[k1]'hlt1).toNat : Int)] rfl rfl ?p1 ?p2 ?p3 ?p4 ?p5 ?_)))
              all_goals try exact cell_one_new _ _ _
              case p2 => first | rfl | (intro u hu; simp only [List.mem_singleton] at hu; subst hu; rfl)
              case p3 => unfold maxLen; omega
              case p4 => omega
              case p5 => first | omega | (simp only [World.size_alloc]; omega)
              intro v' w1 hown1 hgrow _
              have HO1 := Lib.hid (or_app (v' := v') (w1 := w1) (c := (S[k1]'hlt1)) HO.out (by first | exact hown1 | (rw [List.length_take]; exact hown1)) hgrow)
              clear hown1 hgrow
              go_wp2
              go_roundw
              case rel => exact ⟨k1 + 1, acc ++ [S[k1]'hlt1], by go_num, by omega, HQ1, HO1⟩
              case measure => simp [intOf]; omega
            · obtain ⟨k1, hk1⟩ : ∃ k1, k1 = k + 1 := ⟨_, rfl⟩
              have hlt1 : ¬ k1 < S.size := by omega
              have hltz1 : ¬ (k1 : Int) < (S.size : Int) := by omega
              have HQ1 : Hid (Qi S (k1 + 1) acc Q) := by
                refine ⟨?_, by omega⟩
                have := HQ.out.q
                rw [HDC.out, q2, ← hk1, drop_end S k1 (by omega), Adr.qlp_cut] at this
                rw [drop_end S (k1 + 1) (by omega), Adr.qlp_nil]
                exact this
              have w1 : IntKind.i64.wrap ((k : Int) + 1) = (k1 : Int) := by rw [IntKind.wrap_i64]; omega
              have h2k : k < k1 := by omega
              have h3k : k1 ≤ S.size := by omega
              clear q2 HNONE HNOT HYES hk1
              go_wp2_with fail
              go_roundw
              case rel => exact ⟨k1 + 1, acc, by go_num, by omega, HQ1, HO⟩
              case measure => simp [intOf]; omega
          · have e2 : ¬ ((S[k]'hlt).toNat : Int) = 92 := fun h => q2 (UInt8.toNat_inj.1 (by rw [show (92 : UInt8).toNat = 92 from rfl]; omega))
            have HQ1 : Hid (Qi S (k + 1) (acc ++ [S[k]'hlt]) Q) := by
              refine ⟨?_, by rw [List.length_append]; simp; omega⟩
              have := HQ.out.q
              rw [HDC.out, Adr.qlp_more _ _ _ q1 q2] at this
              exact this
            clear q1 q2 HNONE HNOT HYES
            go_wp2_with (first
              | (at_builtin; go_must (refine wpList_append_own _ rfl (.tmp 71) (.tmp 75) 75 rfl w.heap.size 5 i0 (.int .u8 0) 1 1 Tryz.underlying75 hi0 hz0 hz1 hz2 rfl (by decide) _ _ _ rfl (HO.out.own.alloc _) ⟨wr.heap.size, 0, none⟩ 1 1 [.int .u8 ((S[k]'hlt).toNat : Int)] rfl rfl ?r1 ?r2 ?r3 ?r4 ?r5 ?_)))
            all_goals try exact cell_one_new _ _ _
            case r2 => first | rfl | (intro u hu; simp only [List.mem_singleton] at hu; subst hu; rfl)
            case r3 => unfold maxLen; omega
            case r4 => omega
            case r5 => first | omega | (simp only [World.size_alloc]; omega)
            intro v' w1 hown1 hgrow _
            have HO1 := Lib.hid (or_app (v' := v') (w1 := w1) (c := (S[k]'hlt)) HO.out (by first | exact hown1 | (rw [List.length_take]; exact hown1)) hgrow)
            clear hown1 hgrow
            go_wp2
            go_roundw
            case rel => exact ⟨k + 1, acc ++ [S[k]'hlt], by go_num, by omega, HQ1, HO1⟩
            case measure => simp [intOf]; omega
      · have hltz : ¬ (k : Int) < (S.size : Int) := by omega
        have hgez : (S.size : Int) ≤ (k : Int) := by omega
        have HV : Hid (R = .tuple #[.string ⟨#[]⟩, .int .i64 (-1)]) := HNONE.out (by
          have := HQ.out.q
          rw [drop_end S k (by omega), Adr.qlp_nil] at this
          exact this.symm)
        clear HNONE HNOT HYES
        go_wp2_with fail
        go_ret2
        exact ⟨by rw [HV.out]; rfl, HO.out.bel⟩
end Go.Proofs.YtkchebbolldmbaaGreatDoor
set_option linter.unusedVariables false
namespace Adr
theorem suf_drop {L V : List UInt8} (h : V <:+ L) : L.drop (L.length - V.length) = V := (List.suffix_iff_eq_drop.1 h).symm
theorem rdP_not {T : List UInt8} (h : atB 60 T = false) : rdP T = none := by unfold rdP; rw [tk_no h]; rfl
theorem rdP_go {T : List UInt8} (h : atB 60 T = true) (g : atB 62 T.tail = false) : rdP T = (rdR T.tail).bind rdP2 := by
  unfold rdP rdP1
  rw [tk_yes h, Option.bind_some, g]
  rfl
theorem rdP_box {T : List UInt8} (h : atB 60 T = true) (g : atB 62 T.tail = true) : rdP T = some ([], [], T.tail.tail) := by
  unfold rdP rdP1
  rw [tk_yes h, Option.bind_some, if_pos g]
theorem rdP2_at {V l W : List UInt8} (h : rdL V = some (l, W)) (g : atB 64 W = false) : rdP2 V = none := by unfold rdP2; rw [h, Option.bind_some, tk_no g]; rfl
theorem rdP2_dom {V l W : List UInt8} (h : rdL V = some (l, W)) (g : atB 64 W = true) (d : domB (W.tail.takeWhile inD) = false) : rdP2 V = none := by
  unfold rdP2 rdP3 rdD
  rw [h, Option.bind_some, tk_yes g, Option.bind_some, d]
  rfl
theorem rdP2_end {V l W : List UInt8} (h : rdL V = some (l, W)) (g : atB 64 W = true) (q : atB 62 (W.tail.dropWhile inD) = false) : rdP2 V = none := by
  unfold rdP2 rdP3
  rw [h, Option.bind_some, tk_yes g, Option.bind_some]
  unfold rdD
  split
  · rw [Option.bind_some, tk_no q]; rfl
  · rfl
theorem rdP2_yes {V l W : List UInt8} (h : rdL V = some (l, W)) (g : atB 64 W = true) (d : domB (W.tail.takeWhile inD) = true) (q : atB 62 (W.tail.dropWhile inD) = true) : rdP2 V = some (l, sml (W.tail.takeWhile inD), (W.tail.dropWhile inD).tail) := by
  unfold rdP2 rdP3
  rw [h, Option.bind_some, tk_yes g, Option.bind_some, rdD_yes d, Option.bind_some, tk_yes q]
  rfl
theorem two_beq (T : List UInt8) (h : 2 ≤ T.length) : (T.take 2 == [60, 62]) = (atB 60 T && atB 62 T.tail) := by
  match T, h with
  | a :: b :: r, _ =>
    show ((a == 60) && ((b == 62) && true)) = ((a == 60) && (b == 62))
    rw [Bool.and_true]
end Adr
namespace Go.Proofs.YtkchebbolldmbaaGreatDoor
open Go.RowKit
variable {m : Int} {w W W1 : World} {A : Nat} {x y : List UInt8}
/-- Two strings of the answer's mailbox at a block of the call's own. -/
structure Bz (m : Int) (w : World) (A : Nat) (x y : List UInt8) (W : World) : Prop where
  at' : At m w W
  kp : W.heap[A]? = some (.cells #[.string ⟨x.toArray⟩, .string ⟨y.toArray⟩] 63 (0, 0))
  ws : w.heap.size ≤ A
  pos : 3 < A
theorem bz_new (h : At m w W) (x y : List UInt8) : Bz m w W.heap.size x y (W.alloc (.cells #[.string ⟨x.toArray⟩, .string ⟨y.toArray⟩] 63)) := by
  refine ⟨h.next ((Below.refl _ _).alloc (Nat.le_refl _) _), ?_, h.below.size, World.block_lt_of_cell? _ _ h.cell⟩
  show (W.heap.push _)[W.heap.size]? = _
  rw [Array.getElem?_push_size]
theorem bz_next (h : Bz m w A x y W) (g : Below W.heap.size W W1) : Bz m w A x y W1 :=
  ⟨h.at'.next g, (g.block _ (Array.getElem?_eq_some_iff.1 h.kp).1).trans h.kp, h.ws, h.pos⟩
theorem bz_alloc (h : Bz m w A x y W) (o : Obj) : Bz m w A x y (W.alloc o) := bz_next h ((Below.refl _ _).alloc (Nat.le_refl _) o)
theorem bz_put (h : Bz m w A x y W) (x' y' : List UInt8) : Bz m w A x' y' ((W.setCell ⟨A, 0, none⟩ (.string ⟨x'.toArray⟩)).setCell ⟨A, 1, none⟩ (.string ⟨y'.toArray⟩)) := by
  have hb : Below A W ((W.setCell ⟨A, 0, none⟩ (.string ⟨x'.toArray⟩)).setCell ⟨A, 1, none⟩ (.string ⟨y'.toArray⟩)) := ((Below.refl _ _).setCell (p := ⟨A, 0, none⟩) (Nat.le_refl _) _).setCell (p := ⟨A, 1, none⟩) (Nat.le_refl _) _
  exact ⟨⟨h.at'.below.trans (hb.mono h.ws), by rw [hb.cell (p := ⟨3, 0, none⟩) h.pos]; exact h.at'.cell⟩, Joins.block_setCell (i := 1) (Joins.block_setCell (i := 0) h.kp _) _, h.ws, h.pos⟩
theorem bz_cells (h : Bz m w A x y W) : (W.cell? ⟨A, 0, none⟩ = some (.string ⟨x.toArray⟩) ∧ W.frozen? ⟨A, 0, none⟩ = false) ∧ W.cell? ⟨A, 1, none⟩ = some (.string ⟨y.toArray⟩) ∧ W.frozen? ⟨A, 1, none⟩ = false :=
  ⟨⟨by rw [Lib.cell_of_heap h.kp]; rfl, Lib.frozen_of_heap h.kp 0⟩, by rw [Lib.cell_of_heap h.kp]; rfl, Lib.frozen_of_heap h.kp 1⟩
theorem bz_call {f : FuncId} {args : Array Value} {v : Value} (h : Bz m w A x y W) (c : Calls Tryz.prog f args W fun e w' => e = .returned v ∧ Below W.heap.size W w') :
    Calls Tryz.prog f args W fun e w' => e = .returned v ∧ Bz m w A x y w' := c.mono fun _ _ k => ⟨k.1, bz_next h k.2⟩
theorem ext_end (S : ByteArray) (k : Nat) : S.extract k S.size = ⟨(S.data.toList.drop k).toArray⟩ := by
  have := Lib.extract_to_end S k
  rw [← Lib.mk_data (ByteArray.extract _ _ _), this]
theorem ext_two (S : ByteArray) : (S.extract 0 2).toList = S.data.toList.take 2 := by
  have := Lib.extract_data S 0 2
  rw [ByteArray.toList_eq, this]
  rfl
theorem rread_no {T : List UInt8} (h : Adr.rdP T = none) : readV T = .tuple #[.agg #[.string ⟨#[]⟩, .string ⟨#[]⟩], .string ⟨#[]⟩, .int .i64 2] := by unfold readV; rw [h]; rfl

theorem rread_yes {T l d r : List UInt8} (h : Adr.rdP T = some (l, d, r)) : readV T = .tuple #[.agg #[.string ⟨l.toArray⟩, .string ⟨d.toArray⟩], .string ⟨r.toArray⟩, .int .i64 0] := by unfold readV; rw [h]; rfl

set_option maxRecDepth 100000 in
set_option maxHeartbeats 8000000 in
theorem rread_any (S : ByteArray) (m : Int) (w : World) (hs : S.size < 4294967281) (hm : w.cell? ⟨3, 0, none⟩ = some (.int .i64 m)) :
    Calls Tryz.prog 68 #[.string S] w fun e w' => e = .returned (readV S.data.toList) ∧ Below w.heap.size w w' := by
  have HZ := Lib.hid (Lib.size_eq S)
  have H0 := Lib.hid (bz_new (at_refl hm) [] [])
  have hz2 := ext_two S
  have HNO := Lib.hid (fun h => rread_no (T := S.data.toList) h)
  have HYES := Lib.hid (fun l d r h => rread_yes (T := S.data.toList) (l := l) (d := d) (r := r) h)
  have I60 := Lib.hid (fun (W : World) => is_any S 0 60 60 rfl W (by omega))
  have HEX := Lib.hid (fun k => ext_end S k)
  have CR := Lib.hid (fun (W : World) (h1 : 1 ≤ S.size) (h : Bz m w w.heap.size [] [] W) => bz_call h (routed_any S 1 m W h1 hs h.at'.cell))
  generalize hR : readV S.data.toList = R at *
  clear hm
  by_cases q2 : 2 ≤ S.size
  case neg =>
    have q2z : ¬ (2 : Int) ≤ (S.size : Int) := by omega
    have HP : Adr.rdP S.data.toList = none := by
      match hT : S.data.toList with
      | [] => rfl
      | [a] =>
        cases h : Adr.atB 60 [a] with
        | false => exact Adr.rdP_not h
        | true => rw [Adr.rdP_go h rfl]; rfl
      | a :: b :: r =>
        exfalso
        have := HZ.out
        rw [hT] at this
        simp only [List.length_cons] at this
        omega
    have HV := Lib.hid (HNO.out HP)
    have e1 : ¬ 2 ≤ S.size := q2
    cases a60 : Adr.atB 60 S.data.toList with
    | false =>
      rw [List.drop_zero, a60] at I60
      clear HYES HEX CR hz2 HNO hR HP a60
      go_enter Tryz.func68, Tryz.ntmps68
      obtain ⟨⟨c1, f1⟩, c2, f2⟩ := bz_cells H0.out
      go_wp2_with fail
      refine (I60.out _).mono ?_
      rintro e w' ⟨rfl, rfl⟩
      go_wp2_with fail
      rw [HV.out]
      refine bodyPost_ret (v := .tuple #[.agg #[.string ⟨#[]⟩, .string ⟨#[]⟩], .string ⟨#[]⟩, .int .i64 2]) ?_ rfl ⟨rfl, H0.out.at'.below⟩
      simp [results, Tryz.results68, go_sem]
    | true =>
      have h1s : 1 ≤ S.size := by
        have h := Adr.at_lt (L := S.data.toList) (k := 0) (c := 60) (by rw [List.drop_zero]; exact a60)
        rw [HZ.out]
        exact h
      have h1e : Adr.rtI S.size (some []) = 1 := by
        unfold Adr.rtI
        rw [show S.size = 1 by omega]
        rfl
      have hd1 : S.data.toList.drop 1 = [] := drop_end S 1 (by omega)
      have CL := Lib.hid (fun (W : World) (h : Bz m w w.heap.size [] [] W) => bz_call h (localAt_any S 1 W h1s hs))
      rw [hd1, show Adr.rdL [] = none by kernel_rfl] at CL
      rw [hd1, show Adr.rdR [] = some [] from rfl, h1e] at CR
      rw [List.drop_zero, a60] at I60
      clear HYES HEX hz2 HNO hR HP a60 h1e hd1
      unfold lcV at CL
      go_enter Tryz.func68, Tryz.ntmps68
      obtain ⟨⟨c1, f1⟩, c2, f2⟩ := bz_cells H0.out
      go_wp2_with fail
      refine (I60.out _).mono ?_
      rintro e w' ⟨rfl, rfl⟩
      go_wp2_with fail
      refine (CR.out _ h1s H0.out).mono ?_
      rintro e w1 ⟨rfl, h1⟩
      have H1 := Lib.hid h1
      clear h1 c1 f1 c2 f2
      go_wp2_with fail
      refine (CL.out _ H1.out).mono ?_
      rintro e w2 ⟨rfl, h2⟩
      have H2 := Lib.hid h2
      clear h2
      have H9 := Lib.hid (bz_put H2.out [] [])
      obtain ⟨⟨c1, f1⟩, c2, f2⟩ := bz_cells H2.out
      obtain ⟨⟨c5, f5⟩, c6, f6⟩ := bz_cells H9.out
      go_wp2_with fail
      rw [HV.out]
      refine bodyPost_ret (v := .tuple #[.agg #[.string ⟨#[]⟩, .string ⟨#[]⟩], .string ⟨#[]⟩, .int .i64 2]) ?_ rfl ⟨rfl, H9.out.at'.below⟩
      simp [results, Tryz.results68, go_sem, c5, c6]
  case pos =>
    have q2z : (2 : Int) ≤ (S.size : Int) := by omega
    have e1 := Adr.two_beq S.data.toList (by rw [← HZ.out]; exact q2)
    rw [← hz2] at e1
    have h1s : 1 ≤ S.size := by omega
    have htl : S.data.toList.tail = S.data.toList.drop 1 := by rw [List.drop_one]
    cases a60 : Adr.atB 60 S.data.toList with
    | false =>
      have HV := Lib.hid (HNO.out (Adr.rdP_not a60))
      rw [List.drop_zero, a60] at I60
      rw [a60, Bool.false_and] at e1
      clear HYES HEX CR htl a60 hz2 HNO hR
      go_enter Tryz.func68, Tryz.ntmps68
      obtain ⟨⟨c1, f1⟩, c2, f2⟩ := bz_cells H0.out
      go_wp2_with fail
      refine (I60.out _).mono ?_
      rintro e w' ⟨rfl, rfl⟩
      go_wp2_with fail
      rw [HV.out]
      refine bodyPost_ret (v := .tuple #[.agg #[.string ⟨#[]⟩, .string ⟨#[]⟩], .string ⟨#[]⟩, .int .i64 2]) ?_ rfl ⟨rfl, H0.out.at'.below⟩
      simp [results, Tryz.results68, go_sem]
    | true =>
      cases a62 : Adr.atB 62 S.data.toList.tail with
      | true =>
        have HV := Lib.hid (HYES.out _ _ _ (Adr.rdP_box a60 a62))
        rw [htl, List.tail_drop] at HV
        rw [a60, a62, Bool.true_and] at e1
        have hx2 := HEX.out 2
        clear HYES HEX CR htl a60 a62 hz2 HNO hR I60
        obtain ⟨⟨c1, f1⟩, c2, f2⟩ := bz_cells H0.out
        go_enter Tryz.func68, Tryz.ntmps68
        go_wp2_with fail
        go_big_region
        go_wp2_with fail
        rw [HV.out]
        refine bodyPost_ret (v := .tuple #[.agg #[.string ⟨#[]⟩, .string ⟨#[]⟩], .string ⟨(S.data.toList.drop 2).toArray⟩, .int .i64 0]) ?_ rfl ⟨rfl, H0.out.at'.below.drew⟩
        simp [results, Tryz.results68, go_sem]
      | false =>
        have HPG : Hid (Adr.rdP S.data.toList = (Adr.rdR (S.data.toList.drop 1)).bind Adr.rdP2) := by
          show _ = _
          rw [← htl]
          exact Adr.rdP_go a60 a62
        rw [List.drop_zero, a60] at I60
        rw [a62, Bool.and_false] at e1
        clear a60 a62 htl hz2
        cases hr : Adr.rdR (S.data.toList.drop 1) with
        | none =>
          rw [hr] at CR
          have HV := Lib.hid (HNO.out (by rw [HPG.out, hr]; rfl))
          clear HYES HNO HPG HEX hR hr
          unfold Adr.rtI at CR
          go_enter Tryz.func68, Tryz.ntmps68
          obtain ⟨⟨c1, f1⟩, c2, f2⟩ := bz_cells H0.out
          go_wp2_with fail
          refine (I60.out _).mono ?_
          rintro e w' ⟨rfl, rfl⟩
          go_wp2_with fail
          refine (CR.out _ h1s H0.out).mono ?_
          rintro e w1 ⟨rfl, h1⟩
          have H1 := Lib.hid h1
          clear h1 c1 f1 c2 f2
          have H9 := Lib.hid (bz_put H1.out [] [])
          obtain ⟨⟨c1, f1⟩, c2, f2⟩ := bz_cells H1.out
          obtain ⟨⟨c5, f5⟩, c6, f6⟩ := bz_cells H9.out
          go_wp2_with fail
          rw [HV.out]
          refine bodyPost_ret (v := .tuple #[.agg #[.string ⟨#[]⟩, .string ⟨#[]⟩], .string ⟨#[]⟩, .int .i64 2]) ?_ rfl ⟨rfl, H9.out.at'.below⟩
          simp [results, Tryz.results68, go_sem, c5, c6]
        | some V =>
          rw [hr] at CR HPG
          have hsuf : V <:+ S.data.toList := (Adr.rdR_suf hr).trans (List.drop_suffix _ _)
          obtain ⟨i, hi⟩ : ∃ i, i = S.size - V.length := ⟨_, rfl⟩
          have hV : S.data.toList.drop i = V := by rw [hi, HZ.out]; exact Adr.suf_drop hsuf
          have his : i ≤ S.size := by omega
          replace CR : Hid (∀ (W : World) (h1 : 1 ≤ S.size) (h : Bz m w w.heap.size [] [] W), Calls Tryz.prog 90 #[.string S, .int .i64 1] W fun e w' => e = .returned (.int .i64 i) ∧ Bz m w w.heap.size [] [] w') := by
            rw [hi]; exact CR
          have CL := Lib.hid (fun (W : World) (h : Bz m w w.heap.size [] [] W) => bz_call h (localAt_any S i W his hs))
          rw [hV] at CL
          clear hi hr hsuf
          cases hl : Adr.rdL V with
          | none =>
            rw [hl] at CL
            have HV := Lib.hid (HNO.out (by rw [HPG.out, Option.bind_some]; unfold Adr.rdP2; rw [hl]; rfl))
            clear HYES HNO HPG HEX hR hl hV
            unfold lcV at CL
            go_enter Tryz.func68, Tryz.ntmps68
            obtain ⟨⟨c1, f1⟩, c2, f2⟩ := bz_cells H0.out
            go_wp2_with fail
            refine (I60.out _).mono ?_
            rintro e w' ⟨rfl, rfl⟩
            go_wp2_with fail
            refine (CR.out _ h1s H0.out).mono ?_
            rintro e w1 ⟨rfl, h1⟩
            have H1 := Lib.hid h1
            clear h1 c1 f1 c2 f2
            go_wp2_with fail
            refine (CL.out _ H1.out).mono ?_
            rintro e w2 ⟨rfl, h2⟩
            have H2 := Lib.hid h2
            clear h2
            have H9 := Lib.hid (bz_put H2.out [] [])
            obtain ⟨⟨c1, f1⟩, c2, f2⟩ := bz_cells H2.out
            obtain ⟨⟨c5, f5⟩, c6, f6⟩ := bz_cells H9.out
            go_wp2_with fail
            rw [HV.out]
            refine bodyPost_ret (v := .tuple #[.agg #[.string ⟨#[]⟩, .string ⟨#[]⟩], .string ⟨#[]⟩, .int .i64 2]) ?_ rfl ⟨rfl, H9.out.at'.below⟩
            simp [results, Tryz.results68, go_sem, c5, c6]
          | some p =>
            obtain ⟨l, Wd⟩ := p
            rw [hl] at CL
            have hsuf : Wd <:+ S.data.toList := (Adr.rdL_suf hl).trans (by rw [← hV]; exact List.drop_suffix _ _)
            obtain ⟨k, hk⟩ : ∃ k, k = S.size - Wd.length := ⟨_, rfl⟩
            have hW : S.data.toList.drop k = Wd := by rw [hk, HZ.out]; exact Adr.suf_drop hsuf
            have hks : k ≤ S.size := by omega
            replace CL : Hid (∀ (W : World) (h : Bz m w w.heap.size [] [] W), Calls Tryz.prog 91 #[.string S, .int .i64 i] W fun e w' => e = .returned (.tuple #[.string ⟨l.toArray⟩, .int .i64 k]) ∧ Bz m w w.heap.size [] [] w') := by
              rw [hk]; exact CL
            have I64 := Lib.hid (fun (W : World) => is_any S k 64 64 rfl W (by omega))
            rw [hW] at I64
            clear hk hsuf hV
            cases h64 : Adr.atB 64 Wd with
            | false =>
              rw [h64] at I64
              have HV := Lib.hid (HNO.out (by rw [HPG.out, Option.bind_some]; exact Adr.rdP2_at hl h64))
              clear HYES HNO HPG HEX hR hl h64 hW
              go_enter Tryz.func68, Tryz.ntmps68
              obtain ⟨⟨c1, f1⟩, c2, f2⟩ := bz_cells H0.out
              go_wp2_with fail
              refine (I60.out _).mono ?_
              rintro e w' ⟨rfl, rfl⟩
              go_wp2_with fail
              refine (CR.out _ h1s H0.out).mono ?_
              rintro e w1 ⟨rfl, h1⟩
              have H1 := Lib.hid h1
              clear h1 c1 f1 c2 f2
              go_wp2_with fail
              refine (CL.out _ H1.out).mono ?_
              rintro e w2 ⟨rfl, h2⟩
              have H2 := Lib.hid h2
              clear h2
              go_wp2_with fail
              refine (I64.out _).mono ?_
              rintro e w' ⟨rfl, rfl⟩
              have H9 := Lib.hid (bz_put H2.out [] [])
              obtain ⟨⟨c1, f1⟩, c2, f2⟩ := bz_cells H2.out
              obtain ⟨⟨c5, f5⟩, c6, f6⟩ := bz_cells H9.out
              go_wp2_with fail
              rw [HV.out]
              refine bodyPost_ret (v := .tuple #[.agg #[.string ⟨#[]⟩, .string ⟨#[]⟩], .string ⟨#[]⟩, .int .i64 2]) ?_ rfl ⟨rfl, H9.out.at'.below⟩
              simp [results, Tryz.results68, go_sem, c5, c6]
            | true =>
              rw [h64] at I64
              obtain ⟨k1, hk1⟩ : ∃ k1, k1 = k + 1 := ⟨_, rfl⟩
              obtain ⟨t, ht⟩ : ∃ t, t = (S.data.toList.drop k1).takeWhile Adr.inD := ⟨_, rfl⟩
              obtain ⟨n, hn⟩ : ∃ n, n = t.length := ⟨_, rfl⟩
              obtain ⟨k2, hk2⟩ : ∃ k2, k2 = k1 + n := ⟨_, rfl⟩
              obtain ⟨k3, hk3⟩ : ∃ k3, k3 = k2 + 1 := ⟨_, rfl⟩
              obtain ⟨k4, hk4⟩ : ∃ k4, k4 = k + 2 := ⟨_, rfl⟩
              have hlt : k < S.size := by rw [HZ.out]; exact Adr.at_lt (by rw [hW]; exact h64)
              have hnt : n = ((S.data.toList.drop k1).takeWhile Adr.inD).length := by rw [hn, ht]
              have hle : k2 ≤ S.size := by rw [hk2]; exact while_le S k1 n (by omega) hnt
              have htl : Wd.tail = S.data.toList.drop k1 := by rw [← hW, List.tail_drop, hk1]
              have hdu : (S.data.toList.drop k1).dropWhile Adr.inD = S.data.toList.drop k2 := by rw [hk2, hnt]; exact (Adr.while_at _ _).symm
              have hdt : (S.data.toList.drop k2).tail = S.data.toList.drop k3 := by rw [List.tail_drop, hk3]
              have CD := Lib.hid (fun W => domAt_any S k1 W (by omega) hs)
              rw [← hnt] at CD
              have HX := ext_while S k1 n hnt
              rw [← hk2, ← ht] at HX
              have CM := Lib.hid (fun (W : World) (h : Bz m w w.heap.size [] [] W) => bz_call h (rdomain_any ⟨t.toArray⟩ m W (by rw [size_mk, ← hn]; omega) h.at'.cell))
              rw [show (⟨t.toArray⟩ : ByteArray).data.toList = t from rfl] at CM
              have I62 := Lib.hid (fun (W : World) => is_any S k2 62 62 rfl W (by omega))
              have hx3 := HEX.out k3
              have zd := Adr.rdP2_dom hl h64
              have ze := Adr.rdP2_end hl h64
              have zy := Adr.rdP2_yes hl h64
              rw [htl, ← ht] at zd
              rw [htl, hdu] at ze
              rw [htl, hdu, ← ht, hdt] at zy
              have hgt : Adr.atB 62 (S.data.toList.drop k2) = true → k2 < S.size := fun h => by rw [HZ.out]; exact Adr.at_lt h
              have w1 : IntKind.i64.wrap ((k : Int) + 1) = (k1 : Int) := by rw [IntKind.wrap_i64]; omega
              have w2 : IntKind.i64.wrap ((k1 : Int) + (n : Int)) = (k2 : Int) := by rw [IntKind.wrap_i64]; omega
              have w3 : IntKind.i64.wrap ((k : Int) + 2) = (k4 : Int) := by rw [IntKind.wrap_i64]; omega
              have w4 : IntKind.i64.wrap ((k4 : Int) + (n : Int)) = (k3 : Int) := by rw [IntKind.wrap_i64]; omega
              have v1 : (k1 : Int) ≤ (k2 : Int) := by omega
              have v2 : (k2 : Int) ≤ (S.size : Int) := by omega
              have v3 : (0 : Int) ≤ (k1 : Int) := by omega
              have v5 : k2 < S.size → (k3 : Int) ≤ (S.size : Int) := fun h => by omega
              generalize hg62 : Adr.atB 62 (S.data.toList.drop k2) = g62 at *
              clear hg62 htl hdu hdt ht hn hnt hk1 hk2 hk3 hk4 hl h64 hW
              cases hd : Adr.domB t with
              | false =>
                rw [dom_no hd] at CM
                have HV := Lib.hid (HNO.out (by rw [HPG.out, Option.bind_some]; exact zd hd))
                clear HYES HNO HPG HEX hR hd zd ze zy hgt v5 hx3
                go_enter Tryz.func68, Tryz.ntmps68
                obtain ⟨⟨c1, f1⟩, c2, f2⟩ := bz_cells H0.out
                go_wp2_with fail
                refine (I60.out _).mono ?_
                rintro e w' ⟨rfl, rfl⟩
                go_wp2_with fail
                refine (CR.out _ h1s H0.out).mono ?_
                rintro e w1 ⟨rfl, h1⟩
                have H1 := Lib.hid h1
                clear h1 c1 f1 c2 f2
                go_wp2_with fail
                refine (CL.out _ H1.out).mono ?_
                rintro e w2 ⟨rfl, h2⟩
                have H2 := Lib.hid h2
                clear h2
                go_wp2_with fail
                refine (I64.out _).mono ?_
                rintro e w' ⟨rfl, rfl⟩
                go_wp2_with fail
                refine (CD.out _).mono ?_
                rintro e w' ⟨rfl, rfl⟩
                go_wp2_with fail
                refine (CM.out _ H2.out).mono ?_
                rintro e w3 ⟨rfl, h3⟩
                have H3 := Lib.hid h3
                clear h3
                have H9 := Lib.hid (bz_put H3.out [] [])
                obtain ⟨⟨c1, f1⟩, c2, f2⟩ := bz_cells H3.out
                obtain ⟨⟨c5, f5⟩, c6, f6⟩ := bz_cells H9.out
                go_wp2_with fail
                rw [HV.out]
                refine bodyPost_ret (v := .tuple #[.agg #[.string ⟨#[]⟩, .string ⟨#[]⟩], .string ⟨#[]⟩, .int .i64 2]) ?_ rfl ⟨rfl, H9.out.at'.below⟩
                simp [results, Tryz.results68, go_sem, c5, c6]
              | true =>
                rw [dom_yes hd] at CM
                unfold sV at CM
                cases g62 with
                | false =>
                  have HV := Lib.hid (HNO.out (by rw [HPG.out, Option.bind_some]; exact ze rfl))
                  clear HYES HNO HPG HEX hR hd zd ze zy hgt v5 hx3
                  go_enter Tryz.func68, Tryz.ntmps68
                  obtain ⟨⟨c1, f1⟩, c2, f2⟩ := bz_cells H0.out
                  go_wp2_with fail
                  refine (I60.out _).mono ?_
                  rintro e w' ⟨rfl, rfl⟩
                  go_wp2_with fail
                  refine (CR.out _ h1s H0.out).mono ?_
                  rintro e w1 ⟨rfl, h1⟩
                  have H1 := Lib.hid h1
                  clear h1 c1 f1 c2 f2
                  go_wp2_with fail
                  refine (CL.out _ H1.out).mono ?_
                  rintro e w2 ⟨rfl, h2⟩
                  have H2 := Lib.hid h2
                  clear h2
                  go_wp2_with fail
                  refine (I64.out _).mono ?_
                  rintro e w' ⟨rfl, rfl⟩
                  go_wp2_with fail
                  refine (CD.out _).mono ?_
                  rintro e w' ⟨rfl, rfl⟩
                  go_wp2_with fail
                  refine (CM.out _ H2.out).mono ?_
                  rintro e w3 ⟨rfl, h3⟩
                  have H3 := Lib.hid h3
                  clear h3
                  go_wp2_with fail
                  refine (I62.out _).mono ?_
                  rintro e w' ⟨rfl, rfl⟩
                  have H9 := Lib.hid (bz_put H3.out [] [])
                  obtain ⟨⟨c1, f1⟩, c2, f2⟩ := bz_cells H3.out
                  obtain ⟨⟨c5, f5⟩, c6, f6⟩ := bz_cells H9.out
                  go_wp2_with fail
                  rw [HV.out]
                  refine bodyPost_ret (v := .tuple #[.agg #[.string ⟨#[]⟩, .string ⟨#[]⟩], .string ⟨#[]⟩, .int .i64 2]) ?_ rfl ⟨rfl, H9.out.at'.below⟩
                  simp [results, Tryz.results68, go_sem, c5, c6]
                | true =>
                  have HV := Lib.hid (HYES.out _ _ _ (by rw [HPG.out, Option.bind_some]; exact zy hd rfl))
                  have v6 := v5 (hgt rfl)
                  have v7 : (0 : Int) ≤ (k3 : Int) := by omega
                  generalize Adr.sml t = sd at *
                  clear HYES HNO HPG HEX hR hd zd ze zy hgt v5
                  go_enter Tryz.func68, Tryz.ntmps68
                  obtain ⟨⟨c1, f1⟩, c2, f2⟩ := bz_cells H0.out
                  go_wp2_with fail
                  refine (I60.out _).mono ?_
                  rintro e w' ⟨rfl, rfl⟩
                  go_wp2_with fail
                  refine (CR.out _ h1s H0.out).mono ?_
                  rintro e w1 ⟨rfl, h1⟩
                  have H1 := Lib.hid h1
                  clear h1 c1 f1 c2 f2
                  go_wp2_with fail
                  refine (CL.out _ H1.out).mono ?_
                  rintro e w2 ⟨rfl, h2⟩
                  have H2 := Lib.hid h2
                  clear h2
                  go_wp2_with fail
                  refine (I64.out _).mono ?_
                  rintro e w' ⟨rfl, rfl⟩
                  go_wp2_with fail
                  refine (CD.out _).mono ?_
                  rintro e w' ⟨rfl, rfl⟩
                  go_wp2_with fail
                  refine (CM.out _ H2.out).mono ?_
                  rintro e w3 ⟨rfl, h3⟩
                  have H3 := Lib.hid h3
                  clear h3
                  go_wp2_with fail
                  refine (I62.out _).mono ?_
                  rintro e w' ⟨rfl, rfl⟩
                  have H9 := Lib.hid (bz_put H3.out l sd)
                  obtain ⟨⟨c1, f1⟩, c2, f2⟩ := bz_cells H3.out
                  obtain ⟨⟨c5, f5⟩, c6, f6⟩ := bz_cells H9.out
                  go_wp2_with fail
                  go_big_region
                  go_wp2_with fail
                  rw [HV.out]
                  refine bodyPost_ret (v := .tuple #[.agg #[.string ⟨l.toArray⟩, .string ⟨sd.toArray⟩], .string ⟨(S.data.toList.drop k3).toArray⟩, .int .i64 0]) ?_ rfl ⟨rfl, H9.out.at'.below.drew⟩
                  simp [results, Tryz.results68, go_sem, c5, c6]
end Go.Proofs.YtkchebbolldmbaaGreatDoor
set_option linter.unusedVariables false
namespace Go.Proofs.YtkchebbolldmbaaGreatDoor
open Go.RowKit

set_option maxRecDepth 100000 in
set_option maxHeartbeats 1000000 in
theorem rparse_any (S : ByteArray) (m : Int) (w : World) (hs : S.size < 4294967281) (hm : w.cell? ⟨3, 0, none⟩ = some (.int .i64 m)) :
    Calls Tryz.prog 50 #[.string S] w fun e w' => e = .returned (parseV S.data.toList) ∧ Below w.heap.size w w' := by
  have HX := Lib.hid (bz_new (at_refl hm) [] [])
  have HR := Lib.hid (fun (W : World) (h : Bz m w w.heap.size [] [] W) => bz_call h (rread_any S m W hs h.at'.cell))
  clear hm
  cases ho : Adr.rdP S.data.toList with
  | none =>
    rw [parse_none ho]
    rw [rread_no ho] at HR
    clear ho
    go_enter Tryz.func50, Tryz.ntmps50
    go_wp2_with fail
    refine (HR.out _ HX.out).mono ?_
    rintro e w1 ⟨rfl, h1⟩
    have H2 := Lib.hid (bz_alloc h1 (.cells #[.string ⟨([] : List UInt8).toArray⟩, .string ⟨([] : List UInt8).toArray⟩] 63))
    have H3 := Lib.hid (bz_new h1.at' [] [])
    obtain ⟨⟨c1, f1⟩, c2, f2⟩ := bz_cells H2.out
    obtain ⟨⟨c3, f3⟩, c4, f4⟩ := bz_cells H3.out
    have H4 := Lib.hid (bz_put H2.out [] [])
    obtain ⟨⟨c5, f5⟩, c6, f6⟩ := bz_cells H4.out
    clear h1
    go_wp2_with fail
    refine bodyPost_ret (v := .tuple #[bxV [] [], .int .i64 2]) ?_ rfl ⟨rfl, H4.out.at'.below⟩
    simp [results, Tryz.results50, go_sem, c5, c6, bxV]
  | some p =>
    obtain ⟨l, d, r⟩ := p
    rw [rread_yes ho] at HR
    by_cases hr : r = []
    · subst hr
      rw [parse_some ho]
      clear ho
      go_enter Tryz.func50, Tryz.ntmps50
      go_wp2_with fail
      refine (HR.out _ HX.out).mono ?_
      rintro e w1 ⟨rfl, h1⟩
      have H2 := Lib.hid (bz_alloc h1 (.cells #[.string ⟨(l : List UInt8).toArray⟩, .string ⟨(d : List UInt8).toArray⟩] 63))
      have H3 := Lib.hid (bz_new h1.at' l d)
      obtain ⟨⟨c1, f1⟩, c2, f2⟩ := bz_cells H2.out
      obtain ⟨⟨c3, f3⟩, c4, f4⟩ := bz_cells H3.out
      have H4 := Lib.hid (bz_put H2.out l d)
      obtain ⟨⟨c5, f5⟩, c6, f6⟩ := bz_cells H4.out
      clear h1
      go_wp2_with fail
      refine bodyPost_ret (v := .tuple #[bxV l d, .int .i64 0]) ?_ rfl ⟨rfl, H4.out.at'.below⟩
      simp [results, Tryz.results50, go_sem, c5, c6, bxV]
    · rw [show parseV S.data.toList = .tuple #[bxV [] [], .int .i64 2] from by
        cases r with
        | nil => exact absurd rfl hr
        | cons x r => exact parse_more ho]
      have hpos : 0 < r.length := List.length_pos_iff.2 hr
      have hposz : (0 : Int) < (r.length : Int) := by omega
      clear ho hr
      go_enter Tryz.func50, Tryz.ntmps50
      go_wp2_with fail
      refine (HR.out _ HX.out).mono ?_
      rintro e w1 ⟨rfl, h1⟩
      have H2 := Lib.hid (bz_alloc h1 (.cells #[.string ⟨(l : List UInt8).toArray⟩, .string ⟨(d : List UInt8).toArray⟩] 63))
      have H3 := Lib.hid (bz_new h1.at' l d)
      obtain ⟨⟨c1, f1⟩, c2, f2⟩ := bz_cells H2.out
      obtain ⟨⟨c3, f3⟩, c4, f4⟩ := bz_cells H3.out
      have H4 := Lib.hid (bz_put H2.out [] [])
      obtain ⟨⟨c5, f5⟩, c6, f6⟩ := bz_cells H4.out
      clear h1
      go_wp2_with fail
      refine bodyPost_ret (v := .tuple #[bxV [] [], .int .i64 2]) ?_ rfl ⟨rfl, H4.out.at'.below⟩
      simp [results, Tryz.results50, go_sem, c5, c6, bxV]
end Go.Proofs.YtkchebbolldmbaaGreatDoor
