/-
  PROVED HERE: what routed of the answer computes.
-/
import Derived.Test.YtifheakepegjcaaDoorRIs
set_option linter.unusedVariables false
namespace Adr
/-- The place behind what is passed over; below 0: there is none. -/
def rtI (n : Nat) : Option (List UInt8) → Int
  | none => -1
  | some r => ((n - r.length : Nat) : Int)
theorem rdR_no {T : List UInt8} (h : atB 64 T = false) : rdR T = some T := by unfold rdR; simp [h]
theorem rdR_yes {T : List UInt8} (h : atB 64 T = true) : rdR T = (rdD T.tail).bind fun p => if atB 44 p.2 = true then rdRl p.2.tail else tk 58 p.2 := by
  unfold rdR
  rw [if_pos h, rdRl_eq, tk_yes h, Option.bind_some]
theorem rdRl_rdR {T : List UInt8} (h : atB 64 T = true) : rdRl T = rdR T := by unfold rdR; rw [if_pos h]
theorem rdRl_no {T : List UInt8} (h : atB 64 T = false) : rdRl T = none := by rw [rdRl_eq, tk_no h]; rfl
theorem at_one {c d : UInt8} {T : List UInt8} (h : atB c T = true) (hn : c ≠ d) : atB d T = false := by
  rw [at_cons h]
  exact beq_eq_false_iff_ne.2 hn
theorem rt_a {T : List UInt8} (h : atB 64 T = true) (g : domB (T.tail.takeWhile inD) = false) : rdR T = none := by
  rw [rdR_yes h]; unfold rdD; rw [g]; rfl
theorem rdD_yes {T : List UInt8} (g : domB (T.takeWhile inD) = true) : rdD T = some (sml (T.takeWhile inD), T.dropWhile inD) := by unfold rdD; rw [if_pos g]
theorem rt_b {T : List UInt8} (h : atB 64 T = true) (g : domB (T.tail.takeWhile inD) = true) (q : atB 58 (T.tail.dropWhile inD) = true) : rdR T = some (T.tail.dropWhile inD).tail := by
  rw [rdR_yes h, rdD_yes g, Option.bind_some]
  simp only [at_one q (show (58 : UInt8) ≠ 44 by decide)]
  exact tk_yes q
theorem rt_c {T : List UInt8} (h : atB 64 T = true) (g : domB (T.tail.takeWhile inD) = true) (q : atB 58 (T.tail.dropWhile inD) = false) (q2 : atB 44 (T.tail.dropWhile inD) = false) : rdR T = none := by
  rw [rdR_yes h, rdD_yes g, Option.bind_some]
  simp only [q2]
  exact tk_no q
theorem rt_d {T : List UInt8} (h : atB 64 T = true) (g : domB (T.tail.takeWhile inD) = true) (q2 : atB 44 (T.tail.dropWhile inD) = true) (q3 : atB 64 (T.tail.dropWhile inD).tail = false) : rdR T = none := by
  rw [rdR_yes h, rdD_yes g, Option.bind_some]
  simp only [q2]
  exact rdRl_no q3
theorem rt_e {T : List UInt8} (h : atB 64 T = true) (g : domB (T.tail.takeWhile inD) = true) (q2 : atB 44 (T.tail.dropWhile inD) = true) (q3 : atB 64 (T.tail.dropWhile inD).tail = true) : rdR T = rdR (T.tail.dropWhile inD).tail := by
  rw [rdR_yes h, rdD_yes g, Option.bind_some]
  simp only [q2]
  exact rdRl_rdR q3
theorem while_split (p : UInt8 → Bool) (T : List UInt8) : T.take (T.takeWhile p).length = T.takeWhile p ∧ T.drop (T.takeWhile p).length = T.dropWhile p := by
  have h : T.takeWhile p ++ T.dropWhile p = T := List.takeWhile_append_dropWhile
  generalize T.takeWhile p = x at *
  generalize T.dropWhile p = y at *
  subst h
  simp
/-- Behind n bytes of a kind that stand at a place. -/
theorem while_at (L : List UInt8) (k : Nat) : L.drop (k + ((L.drop k).takeWhile inD).length) = (L.drop k).dropWhile inD := by
  rw [← List.drop_drop]
  exact (while_split inD (L.drop k)).2
theorem at_lt {L : List UInt8} {k : Nat} {c : UInt8} (h : atB c (L.drop k) = true) : k < L.length := by
  apply Nat.lt_of_not_le
  intro g
  rw [at_far L k g c] at h
  cases h
end Adr
namespace Go.Proofs.YtifheakepegjcaaDoor
open Go.RowKit
/-- The bytes of a domain's kind that stand at a place. -/
theorem ext_while (S : ByteArray) (k n : Nat) (hn : n = ((S.data.toList.drop k).takeWhile Adr.inD).length) : S.extract k (k + n) = ⟨((S.data.toList.drop k).takeWhile Adr.inD).toArray⟩ := by
  have h := Lib.extract_data S k (k + n)
  rw [← Lib.mk_data (S.extract k (k + n)), h, Nat.add_sub_cancel_left, hn, (Adr.while_split _ _).1]
theorem while_le (S : ByteArray) (k n : Nat) (hk : k ≤ S.size) (hn : n = ((S.data.toList.drop k).takeWhile Adr.inD).length) : k + n ≤ S.size := by
  have h := Adr.takeWhile_len Adr.inD (S.data.toList.drop k)
  rw [List.length_drop, ← Lib.size_eq] at h
  omega

set_option maxRecDepth 100000 in
set_option maxHeartbeats 4000000 in
theorem routed_any (S : ByteArray) (i : Nat) (m : Int) (w : World) (hi : i ≤ S.size) (hs : S.size < 4294967281) (hm : w.cell? ⟨0, 0, none⟩ = some (.int .i64 m)) :
    Calls Tryd.prog 32 #[.string S, .int .i64 i] w fun e w' => e = .returned (.int .i64 (Adr.rtI S.size (Adr.rdR (S.data.toList.drop i)))) ∧ Below w.heap.size w w' := by
  have HZ := Lib.hid (Lib.size_eq S)
  have HA := Lib.hid (at_refl hm)
  have I64 := Lib.hid (fun (k : Nat) (W : World) => is_any S k 64 64 rfl W (by omega))
  have I58 := Lib.hid (fun (k : Nat) (W : World) => is_any S k 58 58 rfl W (by omega))
  have I44 := Lib.hid (fun (k : Nat) (W : World) => is_any S k 44 44 rfl W (by omega))
  have HD := Lib.hid (fun (k : Nat) (W : World) (h : k ≤ S.size) => domAt_any S k W h hs)
  have HM := Lib.hid (fun (X : ByteArray) (W : World) (hx : X.size ≤ S.size) (h : At m w W) => rdomain_any X m W (by omega) h.cell)
  have HO := Lib.hid (rfl : Adr.rdR (S.data.toList.drop i) = Adr.rdR (S.data.toList.drop i))
  generalize hgo : Adr.rdR (S.data.toList.drop i) = o at *
  replace HO : Hid (Adr.rdR (S.data.toList.drop i) = o) := hgo
  clear hm hgo
  go_enter Tryd.func32, Tryd.ntmps32
  go_wp2
  go_loopw [1] (fun u wr => ∃ k : Nat, u = .int .i64 k ∧ k ≤ S.size ∧ Hid (Adr.rdR (S.data.toList.drop k) = o) ∧ At m w wr) (fun u _ => S.size - (intOf u).toNat)
  case atStart => exact ⟨i, rfl, hi, HO, HA.out⟩
  case round =>
    obtain ⟨k, rfl, hk, HR, hat⟩ := hrel
    have HAT := Lib.hid hat
    have C64 := Lib.hid (I64.out k)
    cases hq : Adr.atB 64 (S.data.toList.drop k) with
    | false =>
      rw [hq] at C64
      have HE : Hid (Adr.rtI S.size o = k) := by
        show _ = _
        rw [← HR.out, Adr.rdR_no hq, Adr.rtI, List.length_drop, ← HZ.out]
        congr 1
        omega
      clear hq HR hat
      go_wp2_with (go_at_call 31; refine (C64.out _).mono ?_; rintro e w' ⟨rfl, rfl⟩)
      go_ret
      exact ⟨by rw [HE.out]; rfl, HAT.out.below⟩
    | true =>
      rw [hq] at C64
      obtain ⟨k1, hk1⟩ : ∃ k1, k1 = k + 1 := ⟨_, rfl⟩
      obtain ⟨t, ht⟩ : ∃ t, t = (S.data.toList.drop k1).takeWhile Adr.inD := ⟨_, rfl⟩
      obtain ⟨n, hn⟩ : ∃ n, n = t.length := ⟨_, rfl⟩
      obtain ⟨k2, hk2⟩ : ∃ k2, k2 = k1 + n := ⟨_, rfl⟩
      obtain ⟨n1, hn1⟩ : ∃ n1, n1 = 1 + n := ⟨_, rfl⟩
      obtain ⟨k3, hk3⟩ : ∃ k3, k3 = k2 + 1 := ⟨_, rfl⟩
      have hlt : k < S.size := by rw [HZ.out]; exact Adr.at_lt hq
      have hnt : n = ((S.data.toList.drop k1).takeWhile Adr.inD).length := by rw [hn, ht]
      have hle : k2 ≤ S.size := by rw [hk2]; exact while_le S k1 n (by omega) hnt
      have htl : (S.data.toList.drop k).tail = S.data.toList.drop k1 := by rw [List.tail_drop, hk1]
      have hdu : (S.data.toList.drop k1).dropWhile Adr.inD = S.data.toList.drop k2 := by rw [hk2, hnt]; exact (Adr.while_at _ _).symm
      have hdt : (S.data.toList.drop k2).tail = S.data.toList.drop k3 := by rw [List.tail_drop, hk3]
      have CD := Lib.hid (fun W => HD.out k1 W (by omega))
      rw [← hnt] at CD
      have HX := ext_while S k1 n hnt
      rw [← hk2, ← ht] at HX
      have CM := Lib.hid (fun (W : World) (h : At m w W) => HM.out ⟨t.toArray⟩ W (by rw [size_mk, ← hn]; omega) h)
      rw [show (⟨t.toArray⟩ : ByteArray).data.toList = t from rfl] at CM
      have za := Adr.rt_a hq
      have zb := Adr.rt_b hq
      have zc := Adr.rt_c hq
      have zd := Adr.rt_d hq
      have ze := Adr.rt_e hq
      rw [htl, ← ht, HR.out] at za
      rw [htl, hdu, ← ht, hdt, HR.out] at zb zd ze
      rw [htl, hdu, ← ht, HR.out] at zc
      have hgt : Adr.atB 64 (S.data.toList.drop k3) = true → k3 < S.size := fun h => by rw [HZ.out]; exact Adr.at_lt h
      have hgt2 : Adr.atB 44 (S.data.toList.drop k2) = true → k2 < S.size := fun h => by rw [HZ.out]; exact Adr.at_lt h
      have hgt3 : Adr.atB 58 (S.data.toList.drop k2) = true → k2 < S.size := fun h => by rw [HZ.out]; exact Adr.at_lt h
      have hlen : (S.data.toList.drop k3).length = S.size - k3 := by rw [List.length_drop, ← HZ.out]
      have C58 := Lib.hid (I58.out k2)
      have C44 := Lib.hid (I44.out k2)
      have D64 := Lib.hid (I64.out k3)
      have w1 : IntKind.i64.wrap ((k : Int) + 1) = (k1 : Int) := by rw [IntKind.wrap_i64]; omega
      have w2 : IntKind.i64.wrap ((k1 : Int) + (n : Int)) = (k2 : Int) := by rw [IntKind.wrap_i64]; omega
      have w3 : IntKind.i64.wrap (1 + (n : Int)) = (n1 : Int) := by rw [IntKind.wrap_i64]; omega
      have w4 : IntKind.i64.wrap ((k : Int) + (n1 : Int)) = (k2 : Int) := by rw [IntKind.wrap_i64]; omega
      have w5 : IntKind.i64.wrap ((k2 : Int) + 1) = (k3 : Int) := by rw [IntKind.wrap_i64]; omega
      have v1 : (k1 : Int) ≤ (k2 : Int) := by omega
      have v2 : (k2 : Int) ≤ (S.size : Int) := by omega
      have v3 : (0 : Int) ≤ (k1 : Int) := by omega
      have v4 : k < k3 := by omega
      have v5 : k2 < S.size → k3 ≤ S.size := fun h => by omega
      generalize hg64 : Adr.atB 64 (S.data.toList.drop k3) = g64 at *
      generalize hg44 : Adr.atB 44 (S.data.toList.drop k2) = g44 at *
      generalize hg58 : Adr.atB 58 (S.data.toList.drop k2) = g58 at *
      have HN := Lib.hid (fun (r : Option (List UInt8)) (h : o = r) => h ▸ HR.out)
      clear hat htl hdu hdt ht hn hnt HD HM I64 I58 I44 HZ hg64 hg44 hg58 hk1 hk2 hk3 hn1 hq
      cases hd : Adr.domB t with
      | false =>
        rw [dom_no hd] at CM
        have HE := Lib.hid (za hd)
        clear za zb zc zd ze hd hgt hgt2 hgt3 hlen v5
        go_wp2_with (first
          | (go_at_call 31; refine (C64.out _).mono ?_; rintro e w' ⟨rfl, rfl⟩)
          | (go_at_call 34; refine (CD.out _).mono ?_; rintro e w' ⟨rfl, rfl⟩)
          | (go_at_call 18; refine (CM.out _ HAT.out).mono ?_; rintro e w1 ⟨rfl, h1⟩; have H1 := Lib.hid (HAT.out.next h1); clear h1))
        go_ret
        exact ⟨by rw [HE.out]; rfl, H1.out.below⟩
      | true =>
        rw [dom_yes hd] at CM
        cases g58 with
        | true =>
          have HE : Hid (Adr.rtI S.size o = (k3 : Int)) := by
            have := v5 (hgt3 rfl)
            show _ = _
            rw [zb hd rfl, Adr.rtI, hlen]
            omega
          clear za zb zc zd ze hd hgt hgt2 hgt3 hlen v5
          go_wp2_with (first
            | (go_at_call 31; first
              | (with_reducible refine Calls.mono (C64.out _) ?_; rintro e w' ⟨rfl, rfl⟩)
              | (with_reducible refine Calls.mono (C58.out _) ?_; rintro e w' ⟨rfl, rfl⟩)
              | (with_reducible refine Calls.mono (C44.out _) ?_; rintro e w' ⟨rfl, rfl⟩)
              | (with_reducible refine Calls.mono (D64.out _) ?_; rintro e w' ⟨rfl, rfl⟩))
            | (go_at_call 34; refine (CD.out _).mono ?_; rintro e w' ⟨rfl, rfl⟩)
            | (go_at_call 18; refine (CM.out _ HAT.out).mono ?_; rintro e w1 ⟨rfl, h1⟩; have H1 := Lib.hid (HAT.out.next h1); clear h1))
          go_ret
          exact ⟨by rw [HE.out]; rfl, H1.out.below⟩
        | false =>
          cases g44 with
          | false =>
            have HE := Lib.hid (zc hd rfl rfl)
            clear za zb zc zd ze hd hgt hgt2 hgt3 hlen v5
            go_wp2_with (first
              | (go_at_call 31; first
                | (with_reducible refine Calls.mono (C64.out _) ?_; rintro e w' ⟨rfl, rfl⟩)
                | (with_reducible refine Calls.mono (C58.out _) ?_; rintro e w' ⟨rfl, rfl⟩)
                | (with_reducible refine Calls.mono (C44.out _) ?_; rintro e w' ⟨rfl, rfl⟩)
                | (with_reducible refine Calls.mono (D64.out _) ?_; rintro e w' ⟨rfl, rfl⟩))
              | (go_at_call 34; refine (CD.out _).mono ?_; rintro e w' ⟨rfl, rfl⟩)
              | (go_at_call 18; refine (CM.out _ HAT.out).mono ?_; rintro e w1 ⟨rfl, h1⟩; have H1 := Lib.hid (HAT.out.next h1); clear h1))
            go_ret
            exact ⟨by rw [HE.out]; rfl, H1.out.below⟩
          | true =>
            cases g64 with
            | false =>
              have HE := Lib.hid (zd hd rfl rfl)
              clear za zb zc zd ze hd hgt hgt2 hgt3 hlen v5
              go_wp2_with (first
                | (go_at_call 31; first
                  | (with_reducible refine Calls.mono (C64.out _) ?_; rintro e w' ⟨rfl, rfl⟩)
                  | (with_reducible refine Calls.mono (C58.out _) ?_; rintro e w' ⟨rfl, rfl⟩)
                  | (with_reducible refine Calls.mono (C44.out _) ?_; rintro e w' ⟨rfl, rfl⟩)
                  | (with_reducible refine Calls.mono (D64.out _) ?_; rintro e w' ⟨rfl, rfl⟩))
                | (go_at_call 34; refine (CD.out _).mono ?_; rintro e w' ⟨rfl, rfl⟩)
                | (go_at_call 18; refine (CM.out _ HAT.out).mono ?_; rintro e w1 ⟨rfl, h1⟩; have H1 := Lib.hid (HAT.out.next h1); clear h1))
              go_ret
              exact ⟨by rw [HE.out]; rfl, H1.out.below⟩
            | true =>
              have HE := Lib.hid (ze hd rfl rfl)
              have hk3s := hgt rfl
              clear za zb zc zd ze hd hgt hgt2 hgt3 hlen v5
              go_wp2_with (first
                | (go_at_call 31; first
                  | (with_reducible refine Calls.mono (C64.out _) ?_; rintro e w' ⟨rfl, rfl⟩)
                  | (with_reducible refine Calls.mono (C58.out _) ?_; rintro e w' ⟨rfl, rfl⟩)
                  | (with_reducible refine Calls.mono (C44.out _) ?_; rintro e w' ⟨rfl, rfl⟩)
                  | (with_reducible refine Calls.mono (D64.out _) ?_; rintro e w' ⟨rfl, rfl⟩))
                | (go_at_call 34; refine (CD.out _).mono ?_; rintro e w' ⟨rfl, rfl⟩)
                | (go_at_call 18; refine (CM.out _ HAT.out).mono ?_; rintro e w1 ⟨rfl, h1⟩; have H1 := Lib.hid (HAT.out.next h1); clear h1))
              go_roundw
              case rel => exact ⟨k3, rfl, by omega, HE.out.symm, H1.out⟩
              case measure => simp [intOf]; omega
end Go.Proofs.YtifheakepegjcaaDoor
