/-
  PROVED HERE: PlanLetters of the statements answers true.
-/
import Derived.Test.YtocjjfjcepflnaaDoorMore
import Derived.Test.YtocjjfjcepflnaaDoorAwk
import Derived.Test.YtocjjfjcepflnaaDoorEqR
import Derived.Test.YtocjjfjcepflnaaDoorNearW
import Derived.Laws.AppendOwnNone
set_option linter.unusedVariables false
namespace Go.Proofs.YtocjjfjcepflnaaDoor
open Go.RowKit
theorem rt_gr (f : Nat → Ru) (n : Nat) (d : List UInt8) (g : Nat → Bool) (k : Nat) : rtB f n (Adr.grTo d g k) = rtB f n d ∧ rtR f n (Adr.grTo d g k) = rtR f n d := by
  have e : rtO f n (Adr.grTo d g k) = rtO f n d := by
    unfold rtO
    rw [Adr.domB_gr, Adr.sml_gr]
  unfold rtB rtR
  rw [e]
  exact ⟨rfl, rfl⟩
theorem ext_end2 (S : ByteArray) (k : Nat) : S.extract k S.size = ⟨(S.data.toList.drop k).toArray⟩ := by
  have := Lib.extract_to_end S k
  rw [← Lib.mk_data (ByteArray.extract _ _ _), this]
/-- Bytes of the call's own. -/
structure Gb (w : World) (B : Nat) (L : List UInt8) (W : World) : Prop where
  row : BRow W B L
  bel : Below w.heap.size w W
  ws : w.heap.size ≤ B
theorem gb_next {w W W1 : World} {B : Nat} {L : List UInt8} (h : Gb w B L W) (g : Below W.heap.size W W1) : Gb w B L W1 := ⟨brow_below h.row g, h.bel.trans (g.mono h.bel.size), h.ws⟩
theorem gb_set {w W : World} {B : Nat} {L : List UInt8} (h : Gb w B L W) (i : Nat) (hi : i < L.length) (c : UInt8) (v : Int) (hv : v = (c.toNat : Int)) : Gb w B (L.set i c) (W.setCell ⟨B, i, none⟩ (.int .u8 v)) := ⟨brow_set h.row i hi c v hv, h.bel.setCell h.ws _, h.ws⟩

set_option maxRecDepth 100000 in
set_option maxHeartbeats 8000000 in
theorem letters_any (A : Option Addr) (n c : Nat) (f : Nat → Ru) (S : ByteArray) (A2 : Option Addr) (len c2 : Nat) (gb : Nat → Bool) (m : Int) (w : World) (hR : Rus w A n f) (hz : A = none → n = 0 ∧ c = 0) (hn : n ≤ 4611686018427387904) (hB : Bos w A2 len gb) (hlen : len ≤ 9223372036854775807) (hm : w.cell? ⟨0, 0, none⟩ = some (.int .i64 m)) :
    Calls Tryd.prog 9 #[.slice A n c, .string S, .slice A2 len c2] w fun e w' => e = .returned (.bool true) ∧ Below w.heap.size w w' := by
  have HA := Lib.hid (awake_any m w hm)
  have HR := Lib.hid hR
  have HM := Lib.hid hm
  have HBO := Lib.hid hB
  have HZN := Lib.hid hz
  have hwl : 0 < w.heap.size := World.block_lt_of_cell? _ _ hm
  clear hR hm hB hz
  go_enter Tryd.func9, Tryd.ntmps9
  go_wp2_with fail
  refine HA.out.mono ?_
  rintro e w1 ⟨rfl, h1⟩
  have H1 := Lib.hid h1
  have CL := Lib.hid (large_any A n c f w1 (rus_below HR.out h1) hn)
  clear h1
  cases hl : lgR f n with
  | true =>
    rw [hl] at CL
    clear hl
    go_wp2_with fail
    refine CL.out.mono ?_
    rintro e w2 ⟨rfl, rfl⟩
    go_wp2_with fail
    go_ret
    exact ⟨rfl, H1.out⟩
  | false =>
    obtain ⟨hn6, hL⟩ := lgR_false hl
    rw [hl] at CL
    have HL : Hid (∀ k, k < n → (f k).dm.length < 4294967281) := fun k hk => by have := hL k hk; omega
    clear hl hL
    by_cases hs : 500 < S.size
    · have hsz : (500 : Int) < (S.size : Int) := by omega
      go_wp2_with fail
      refine CL.out.mono ?_
      rintro e w2 ⟨rfl, rfl⟩
      go_wp2_with fail
      go_ret
      exact ⟨rfl, H1.out⟩
    have hsz : ¬ (500 : Int) < (S.size : Int) := by omega
    have hT : S.data.toList.length < 4294967281 := by rw [← Lib.size_eq]; omega
    have HZ := Lib.hid (Lib.size_eq S)
    obtain ⟨d, hd⟩ : ∃ d, d = S.data.toList := ⟨_, rfl⟩
    have CR : Hid (∀ W, Below w.heap.size w W → Calls Tryd.prog 12 #[.slice A n c, .string S] W fun e w' => e = .returned (.tuple #[.agg (ruA (rtR f n d)), .bool (rtB f n d)]) ∧ Below W.heap.size W w') := fun W h => by
      have q := route_any A n c f S.data.toList m W (rus_below HR.out h) HL.out hn hT (by rw [h.cell hwl]; exact HM.out)
      rw [Lib.mk_data] at q
      rw [hd]
      exact q
    have CG : Hid (∀ W k, Below w.heap.size w W → Calls Tryd.prog 12 #[.slice A n c, .string ⟨(Adr.grTo d gb k).toArray⟩] W fun e w' => e = .returned (.tuple #[.agg (ruA (rtR f n d)), .bool (rtB f n d)]) ∧ Below W.heap.size W w') := fun W k h => by
      have q := route_any A n c f (Adr.grTo d gb k) m W (rus_below HR.out h) HL.out hn (by rw [Adr.grTo_len, hd]; exact hT) (by rw [h.cell hwl]; exact HM.out)
      rw [(rt_gr f n d gb k).1, (rt_gr f n d gb k).2] at q
      exact q
    have HMR : Hid (∀ (h : MayOk (moreF f n) (n + 1)), ¬ (5 ≤ d.length ∧ d.drop (d.length - 5) = zz) → rtB (moreF f n) (n + 1) d = rtB f n d ∧ rtR (moreF f n) (n + 1) d = rtR f n d) := fun h g => more_rt h (fun e => g (zz_end e))
    have HLM : Hid (∀ k, k < n + 1 → (moreF f n k).dm.length < 4294967281) := fun k hk => by
      unfold moreF
      split
      · decide
      · exact HL.out k (by omega)
    have CM : Hid (∀ W A3 c3, Rus W A3 (n + 1) (moreF f n) → Below w.heap.size w W → Calls Tryd.prog 15 #[.slice A3 (n + 1) c3] W fun e w' => e = .returned (.bool (mayL (moreF f n) (n + 1))) ∧ Below W.heap.size W w') := fun W A3 c3 r h => may_any A3 (n + 1) c3 (moreF f n) m W r HLM.out (by omega) (by rw [h.cell hwl]; exact HM.out)
    have CN : Hid (∀ W A3 c3, Rus W A3 (n + 1) (moreF f n) → Below w.heap.size w W → Calls Tryd.prog 12 #[.slice A3 (n + 1) c3, .string S] W fun e w' => e = .returned (.tuple #[.agg (ruA (rtR (moreF f n) (n + 1) d)), .bool (rtB (moreF f n) (n + 1) d)]) ∧ Below W.heap.size W w') := fun W A3 c3 r h => by
      have q := route_any A3 (n + 1) c3 (moreF f n) S.data.toList m W r HLM.out (by omega) hT (by rw [h.cell hwl]; exact HM.out)
      rw [Lib.mk_data] at q
      rw [hd]
      exact q
    have HDS : Hid (d.length = S.size) := by show _ = _; rw [hd]; exact HZ.out.symm
    have HDD := Lib.hid hd
    have HBN := Lib.hid (brow_new w1 S)
    have hconv := fun w s => run_bytes_of_string (P := Tryd.prog) w 9 52 5 s Tryd.underlying9 Tryd.underlying52 Tryd.underlying5
    have HMO := Lib.hid (fun h => mayL_ok (f := moreF f n) (n := n + 1) h)
    generalize rtR f n d = x at *
    generalize rtB f n d = is at *
    go_wp2_with fail
    refine CL.out.mono ?_
    rintro e w2 ⟨rfl, rfl⟩
    go_wp2_with fail
    generalize hcp : grownCap w1 S.size 0 5 = cp at *
    have HG0 : Hid (Gb w w1.heap.size (Adr.grTo d gb 0) (w1.alloc (.cells (bytesRow S cp) 5 ((bytesRow S cp).size, (bytesRow S cp).size + 1))).drew) := by
      have q := HBN.out
      rw [← HDD.out] at q
      rw [Adr.grTo_zero]
      exact ⟨q, (H1.out.alloc H1.out.size _).drew, H1.out.size⟩
    clear hconv HBN hcp hd
    generalize (w1.alloc (.cells (bytesRow S cp) 5 ((bytesRow S cp).size, (bytesRow S cp).size + 1))).drew = w4 at *
    generalize w1.heap.size = B at *
    have hSd := HDS.out
    go_loopw [29] (fun u wr => ∃ k : Nat, u = .int .i64 k ∧ k ≤ S.size ∧ Hid (Gb w B (Adr.grTo d gb k) wr)) (fun u _ => S.size - (intOf u).toNat)
    case atStart => exact ⟨0, rfl, by omega, HG0⟩
    case round =>
      obtain ⟨k, rfl, hk, HK⟩ := hrel
      by_cases hlt0 : k < S.size
      · have hltz : (k : Int) < (S.size : Int) := by omega
        have hlt : k < d.length := by omega
        have hkl : k < (Adr.grTo d gb k).length := by rw [Adr.grTo_len]; exact hlt
        obtain ⟨g1, g2⟩ := HK.out.row k hkl
        rw [Adr.grTo_at d gb k hkl hlt] at g1
        have HBO2 := Lib.hid (bos_below HBO.out HK.out.bel)
        by_cases hlk : k < len
        · have hlkz : (k : Int) < (len : Int) := by omega
          obtain ⟨b1, o1, rfl, t1⟩ := HBO2.out.1 k hlk
          cases hfk : gb k with
          | false =>
            rw [hfk] at t1
            have HSM := Lib.hid (Adr.grTo_same d gb k hlt (by rw [hfk]; exact Adr.up_no _))
            clear hfk
            generalize hgen : d[k] = ch at *
            clear hgen
            go_wp2_with fail
            go_roundw
            case rel => exact ⟨k + 1, by go_num, by omega, by rw [HSM.out]; exact HK⟩
            case measure => simp [intOf]; omega
          | true =>
            rw [hfk] at t1
            have HSU := Lib.hid (Adr.grTo_succ d gb k hlt)
            have HSET := Lib.hid (gb_set HK.out k hkl)
            have HUY := Lib.hid (fun hx => Adr.up_yes (c := d[k]'hlt) hx)
            have HUO := Lib.hid (fun hx => Adr.grTo_same d gb k hlt (Adr.up_out (b := gb k) (c := d[k]'hlt) hx))
            rw [hfk] at HSU
            clear hfk
            generalize hgen : d[k] = ch at *
            by_cases q1 : 97 ≤ ch.toNat
            · have q1z : (97 : Int) ≤ (ch.toNat : Int) := by omega
              by_cases q2 : ch.toNat ≤ 122
              · have q2z : (ch.toNat : Int) ≤ 122 := by omega
                have HV := Lib.hid (HUY.out ⟨q1, q2⟩)
                clear hgen hkl
                go_wp2_with fail
                go_roundw
                case rel => exact ⟨k + 1, by go_num, by omega, by rw [HSU.out]; exact HSET.out _ _ (by rw [HV.out])⟩
                case measure => simp [intOf]; omega
              · have q2z : ¬ (ch.toNat : Int) ≤ 122 := by omega
                have HSM := Lib.hid (HUO.out fun h => q2 h.2)
                clear hgen
                go_wp2_with fail
                go_roundw
                case rel => exact ⟨k + 1, by go_num, by omega, by rw [HSM.out]; exact HK⟩
                case measure => simp [intOf]; omega
            · have q1z : ¬ (97 : Int) ≤ (ch.toNat : Int) := by omega
              have HSM := Lib.hid (HUO.out fun h => q1 h.1)
              clear hgen
              go_wp2_with fail
              go_roundw
              case rel => exact ⟨k + 1, by go_num, by omega, by rw [HSM.out]; exact HK⟩
              case measure => simp [intOf]; omega
        · have hlkz : ¬ (k : Int) < (len : Int) := by omega
          have HSM := Lib.hid (Adr.grTo_same d gb k hlt (by rw [HBO2.out.2 k (by omega)]; exact Adr.up_no _))
          generalize hgen : d[k] = ch at *
          clear hgen
          go_wp2_with fail
          go_roundw
          case rel => exact ⟨k + 1, by go_num, by omega, by rw [HSM.out]; exact HK⟩
          case measure => simp [intOf]; omega
      · have hltz : ¬ (k : Int) < (S.size : Int) := by omega
        obtain rfl : k = S.size := by omega
        clear HG0 hSd
        go_wp2_with fail
        refine (CR.out _ HK.out.bel).mono ?_
        rintro e w5 ⟨rfl, h5⟩
        have G5 := Lib.hid (gb_next (gb_next HK.out h5) ((Below.refl _ _).alloc (Nat.le_refl _) (.cells (ruA x) 26)))
        have P5 : Hid (Rb 26 w w5.heap.size x (w5.alloc (.cells (ruA x) 26))) := rb_new (HK.out.bel.trans (h5.mono HK.out.bel.size)) x
        have hback : (convert 52 9 (.slice (some ⟨B, 0, none⟩) S.size cp)).run Tryd.prog (w5.alloc (.cells (ruA x) 26)) = .ok (.string ⟨(Adr.grTo d gb S.size).toArray⟩) (w5.alloc (.cells (ruA x) 26)) := by
          have q := back_at (cap := cp) G5.out.row
          rw [Adr.grTo_len, HDS.out] at q
          exact q
        clear h5
        go_wp2_with fail
        refine (CG.out _ _ G5.out.bel).mono ?_
        rintro e w6 ⟨rfl, h6⟩
        have P6 := Lib.hid (rb_next (rb_next P5.out h6) ((Below.refl _ _).alloc (Nat.le_refl _) (.cells (ruA x) 26)))
        have Q6 : Hid (Rb 26 w w6.heap.size x (w6.alloc (.cells (ruA x) 26))) := rb_new (P5.out.bel.trans (h6.mono P5.out.bel.size)) x
        clear h6 hback G5 HK
        obtain ⟨a0, a1, a2⟩ := rb_cells P6.out
        have hne := fun W => neq26 x x W
        have heq := fun W => eql26 x x W
        have hre : ruE x x = true := (ruE_iff x x).2 rfl
        rw [hre] at hne heq
        have hgu := gua26
        clear hre
        obtain ⟨i0, hi0, hz0, hz1, hz2⟩ := info_parts info26
        have HB7 := Lib.hid P6.out.bel
        have OL : Hid (((w6.alloc (.cells (ruA x) 26)).alloc (.cells #[] 26)).ownsRow (w6.heap.size + 1) 26 3 (.slice (some ⟨w6.heap.size + 1, 0, none⟩) 0 0) 0 []) := by
          have q := World.ownsRow_lit (base := w6.heap.size + 1) (e := 26) (size := 3) (w6.alloc (.cells (ruA x) 26)) #[] 0 (by rw [World.size_alloc]; exact Nat.le_refl _) (by unfold maxLen; omega) rfl
          rw [World.size_alloc] at q
          exact q
        have hb7 : w.heap.size ≤ w6.heap.size + 1 := by have := Q6.out.ws; omega
        have HB8 := Lib.hid (HB7.out.alloc HB7.out.size (.cells #[] 26))
        have P8 := Lib.hid (rb_next P6.out ((Below.refl _ _).alloc (Nat.le_refl _) (.cells #[] 26)))
        have hv7 : w5.heap.size < (w6.alloc (.cells (ruA x) 26)).heap.size := (Array.getElem?_eq_some_iff.1 P6.out.kp).1
        rw [World.size_alloc] at hv7
        obtain ⟨y0, y1, y2⟩ := rb_cells Q6.out
        cases A with
        | none =>
          obtain ⟨rfl, rfl⟩ := HZN.out rfl
          have OW : Hid (((w6.alloc (.cells (ruA x) 26)).alloc (.cells #[] 26)).ownsRow (w6.heap.size + 1) 26 3 (.slice (some ⟨w6.heap.size + 1, 0, none⟩) 0 0) 0 (((List.range 0).map f).flatMap ruL)) := OL.out
          have HB9 := HB8
          have P9 := P8
          have HNV : Hid ((Value.slice (some ⟨w6.heap.size + 1, 0, none⟩) 0 0).ownBlock ≠ some w5.heap.size) := fun q => by have q2 : w6.heap.size + 1 = w5.heap.size := Option.some.inj q; omega
          have hs9 : w6.heap.size + 1 ≤ ((w6.alloc (.cells (ruA x) 26)).alloc (.cells #[] 26)).heap.size := by simp only [World.size_alloc]; omega
          go_wp2_with (at_builtin; first | refine wpList_append_own_none rfl (.tmp 84) (.tmp 85) 22 rfl (w6.heap.size + 1) 26 i0 3 Tryd.underlying22 hi0 _ 0 [] rfl OL.out rfl ?_ | go_must (refine wpList_append_own _ rfl (.tmp 86) (.tmp 88) 22 rfl (w6.heap.size + 1) 26 i0 (.agg #[.string ⟨#[]⟩, .int .i64 0, .int .i64 0]) 3 32 Tryd.underlying22 hi0 hz0 hz1 hz2 rfl (by decide) _ 0 (((List.range 0).map f).flatMap ruL) rfl (OW.out.alloc _) ⟨w6.heap.size + 1 + 1, 0, none⟩ 1 1 (ruL ⟨zz, 3, 0⟩) rfl rfl ?ra ?rb ?rc ?rd ?re ?_))
          case ra => exact (by have q := cell_three_one ((w6.alloc (.cells (ruA x) 26)).alloc (.cells #[] 26)) (.string ⟨zz.toArray⟩) (.int .i64 3) (.int .i64 0) 26; simp only [World.size_alloc] at q; exact q)
          case rb => exact ruL_one _
          case rc => unfold maxLen; omega
          case rd => omega
          case re => simp only [World.size_alloc]; omega
          intro v2 w10 hown2 hgrow2 _
          have HB10 : Hid (Below w.heap.size w w10) := (HB9.out.alloc HB9.out.size _).grown hgrow2 (by rw [World.size_alloc]; have := HB9.out.size; omega) (fun q hq => Nat.le_trans hb7 (OW.out.lt q hq).1)
          have P10 : Hid (Rb 26 w w5.heap.size x w10) := ⟨by
            have h1 := (rb_next P9.out ((Below.refl _ _).alloc (Nat.le_refl _) (.cells #[.string ⟨zz.toArray⟩, .int .i64 3, .int .i64 0] 26))).kp
            exact (hgrow2.block _ (Array.getElem?_eq_some_iff.1 h1).1 (fun q => HNV.out q.symm)).trans h1, HB10.out, P9.out.ws⟩
          have hown2 : w10.ownsRow (w6.heap.size + 1) 26 3 v2 (0 + 1) (((List.range (0 + 1)).map (moreF f 0)).flatMap ruL) := by rw [← more_flat]; exact hown2
          obtain ⟨A3, c3, e3, r3⟩ := own_rus (l := (List.range (0 + 1)).map (moreF f 0)) (f := moreF f 0) (n := 0 + 1) hown2 (by simp) (fun j hj => by rw [List.getElem_map, List.getElem_range])
          have R3 := Lib.hid r3
          subst e3
          have CM1 := Lib.hid (CM.out _ A3 c3 R3.out HB10.out)
          clear hown2 hgrow2 r3 OW
          cases hml : mayL (moreF f 0) (0 + 1) with
          | false =>
            rw [hml] at CM1
            clear hml
            go_wp2_with fail
            refine CM1.out.mono ?_
            rintro e w11 ⟨rfl, h11⟩
            have HB11 := Lib.hid (HB10.out.trans (h11.mono HB10.out.size))
            clear h11
            go_wp2_with fail
            go_ret
            exact ⟨rfl, HB11.out⟩
          | true =>
            rw [hml] at CM1
            have HOK := Lib.hid (HMO.out hml)
            clear hml
            by_cases h5 : 5 ≤ S.size
            · have h5z : (5 : Int) ≤ (S.size : Int) := by omega
              obtain ⟨q5, hq5⟩ : ∃ q5, q5 = S.size - 5 := ⟨_, rfl⟩
              have w5' : IntKind.i64.wrap ((S.size : Int) - 5) = (q5 : Int) := by rw [IntKind.wrap_i64]; omega
              have z1 : (0 : Int) ≤ (q5 : Int) := by omega
              have z2 : (q5 : Int) ≤ (S.size : Int) := by omega
              obtain ⟨X, hX⟩ : ∃ X, X = d.drop q5 := ⟨_, rfl⟩
              have hx : S.extract q5 S.size = ⟨X.toArray⟩ := by rw [hX, HDD.out]; exact ext_end2 S q5
              by_cases hzz : X = zz
              · have s1 : (X == [48, 46, 48, 46, 48]) = true := by simp [hzz]
                clear hX hzz hq5
                go_wp2_with fail
                refine CM1.out.mono ?_
                rintro e w11 ⟨rfl, h11⟩
                have HB11 := Lib.hid (HB10.out.trans (h11.mono HB10.out.size))
                clear h11
                go_wp2_with fail
                go_ret
                exact ⟨rfl, HB11.out⟩
              · have s1 : (X == [48, 46, 48, 46, 48]) = false := by simpa using hzz
                have HNO : Hid (¬ (5 ≤ d.length ∧ d.drop (d.length - 5) = zz)) := fun g => hzz (by rw [hX, hq5, ← HDS.out]; exact g.2)
                clear hX hzz hq5
                obtain ⟨m1, m2⟩ := HMR.out HOK.out HNO.out
                go_wp2_with fail
                refine CM1.out.mono ?_
                rintro e w11 ⟨rfl, h11⟩
                have HB11 := Lib.hid (HB10.out.trans (h11.mono HB10.out.size))
                have P11 := Lib.hid (rb_next P10.out h11)
                have CN2 := Lib.hid (CN.out _ A3 c3 (rus_below R3.out h11) HB11.out)
                rw [m1, m2] at CN2
                clear h11 m1 m2
                go_wp2_with fail
                refine CN2.out.mono ?_
                rintro e w12 ⟨rfl, h12⟩
                have P12 := Lib.hid (rb_next (rb_next P11.out h12) ((Below.refl _ _).alloc (Nat.le_refl _) (.cells (ruA x) 26)))
                clear h12
                obtain ⟨b0, b1, b2⟩ := rb_cells P12.out
                go_wp2_with fail
                go_ret
                exact ⟨by simp, P12.out.bel⟩
            · have h5z : ¬ (5 : Int) ≤ (S.size : Int) := by omega
              have HNO : Hid (¬ (5 ≤ d.length ∧ d.drop (d.length - 5) = zz)) := fun g => h5 (by rw [← HDS.out]; exact g.1)
              obtain ⟨m1, m2⟩ := HMR.out HOK.out HNO.out
              go_wp2_with fail
              refine CM1.out.mono ?_
              rintro e w11 ⟨rfl, h11⟩
              have HB11 := Lib.hid (HB10.out.trans (h11.mono HB10.out.size))
              have P11 := Lib.hid (rb_next P10.out h11)
              have CN2 := Lib.hid (CN.out _ A3 c3 (rus_below R3.out h11) HB11.out)
              rw [m1, m2] at CN2
              clear h11 m1 m2
              go_wp2_with fail
              refine CN2.out.mono ?_
              rintro e w12 ⟨rfl, h12⟩
              have P12 := Lib.hid (rb_next (rb_next P11.out h12) ((Below.refl _ _).alloc (Nat.le_refl _) (.cells (ruA x) 26)))
              clear h12
              obtain ⟨b0, b1, b2⟩ := rb_cells P12.out
              go_wp2_with fail
              go_ret
              exact ⟨by simp, P12.out.bel⟩
        | some aa =>
        have HRX := Lib.hid (rus_cells (rus_below HR.out HB8.out))
        go_wp2_with (at_builtin; go_must (refine wpList_append_own _ rfl (.tmp 84) (.tmp 85) 22 rfl (w6.heap.size + 1) 26 i0 (.agg #[.string ⟨#[]⟩, .int .i64 0, .int .i64 0]) 3 32 Tryd.underlying22 hi0 hz0 hz1 hz2 rfl (by decide) _ 0 [] rfl OL.out aa n c (((List.range n).map f).flatMap ruL) rfl ?pl HRX.out ?pb ?pc ?pd ?pe ?_))
        case pl => rw [flat_length ruL 3 ruL_len]; simp
        case pb => intro u hu; obtain ⟨y, _, hy⟩ := List.mem_flatMap.1 hu; exact ruL_one y u hy
        case pc => unfold maxLen; omega
        case pd => omega
        case pe => simp only [World.size_alloc]; omega
        intro v1 w9 hown1 hgrow1 _
        have OW := Lib.hid hown1
        have HB9 : Hid (Below w.heap.size w w9) := HB8.out.grown hgrow1 HB8.out.size (fun q hq => by cases hq; exact hb7)
        have P9 : Hid (Rb 26 w w5.heap.size x w9) := ⟨(hgrow1.block _ (Array.getElem?_eq_some_iff.1 P8.out.kp).1 (fun q => by have q2 : w5.heap.size = w6.heap.size + 1 := Option.some.inj q; omega)).trans P8.out.kp, HB9.out, P8.out.ws⟩
        have HNV : Hid (v1.ownBlock ≠ some w5.heap.size) := fun q => by have := (OW.out.lt _ q).1; omega
        have hs9 : w6.heap.size + 1 ≤ w9.heap.size := by have := hgrow1.size; simp only [World.size_alloc] at this; omega
        clear hown1 hgrow1
        go_wp2_with (at_builtin; go_must (refine wpList_append_own _ rfl (.tmp 86) (.tmp 88) 22 rfl (w6.heap.size + 1) 26 i0 (.agg #[.string ⟨#[]⟩, .int .i64 0, .int .i64 0]) 3 32 Tryd.underlying22 hi0 hz0 hz1 hz2 rfl (by decide) _ n (((List.range n).map f).flatMap ruL) rfl (OW.out.alloc _) ⟨w9.heap.size, 0, none⟩ 1 1 (ruL ⟨zz, 3, 0⟩) rfl rfl ?ra ?rb ?rc ?rd ?re ?_))
        case ra => exact cell_three_one w9 _ _ _ 26
        case rb => exact ruL_one _
        case rc => unfold maxLen; omega
        case rd => omega
        case re => rw [World.size_alloc]; omega
        intro v2 w10 hown2 hgrow2 _
        have HB10 : Hid (Below w.heap.size w w10) := (HB9.out.alloc HB9.out.size _).grown hgrow2 (by rw [World.size_alloc]; have := HB9.out.size; omega) (fun q hq => Nat.le_trans hb7 (OW.out.lt q hq).1)
        have P10 : Hid (Rb 26 w w5.heap.size x w10) := ⟨by
          have h1 := (rb_next P9.out ((Below.refl _ _).alloc (Nat.le_refl _) (.cells #[.string ⟨zz.toArray⟩, .int .i64 3, .int .i64 0] 26))).kp
          exact (hgrow2.block _ (Array.getElem?_eq_some_iff.1 h1).1 (fun q => HNV.out q.symm)).trans h1, HB10.out, P9.out.ws⟩
        rw [more_flat] at hown2
        obtain ⟨A3, c3, e3, r3⟩ := own_rus (l := (List.range (n + 1)).map (moreF f n)) (f := moreF f n) (n := n + 1) hown2 (by simp) (fun j hj => by simp)
        have R3 := Lib.hid r3
        subst e3
        have CM1 := Lib.hid (CM.out _ A3 c3 R3.out HB10.out)
        clear hown2 hgrow2 r3 OW
        cases hml : mayL (moreF f n) (n + 1) with
        | false =>
          rw [hml] at CM1
          clear hml
          go_wp2_with fail
          refine CM1.out.mono ?_
          rintro e w11 ⟨rfl, h11⟩
          have HB11 := Lib.hid (HB10.out.trans (h11.mono HB10.out.size))
          clear h11
          go_wp2_with fail
          go_ret
          exact ⟨rfl, HB11.out⟩
        | true =>
          rw [hml] at CM1
          have HOK := Lib.hid (HMO.out hml)
          clear hml
          by_cases h5 : 5 ≤ S.size
          · have h5z : (5 : Int) ≤ (S.size : Int) := by omega
            obtain ⟨q5, hq5⟩ : ∃ q5, q5 = S.size - 5 := ⟨_, rfl⟩
            have w5' : IntKind.i64.wrap ((S.size : Int) - 5) = (q5 : Int) := by rw [IntKind.wrap_i64]; omega
            have z1 : (0 : Int) ≤ (q5 : Int) := by omega
            have z2 : (q5 : Int) ≤ (S.size : Int) := by omega
            obtain ⟨X, hX⟩ : ∃ X, X = d.drop q5 := ⟨_, rfl⟩
            have hx : S.extract q5 S.size = ⟨X.toArray⟩ := by rw [hX, HDD.out]; exact ext_end2 S q5
            by_cases hzz : X = zz
            · have s1 : (X == [48, 46, 48, 46, 48]) = true := by simp [hzz]
              clear hX hzz hq5
              go_wp2_with fail
              refine CM1.out.mono ?_
              rintro e w11 ⟨rfl, h11⟩
              have HB11 := Lib.hid (HB10.out.trans (h11.mono HB10.out.size))
              clear h11
              go_wp2_with fail
              go_ret
              exact ⟨rfl, HB11.out⟩
            · have s1 : (X == [48, 46, 48, 46, 48]) = false := by simpa using hzz
              have HNO : Hid (¬ (5 ≤ d.length ∧ d.drop (d.length - 5) = zz)) := fun g => hzz (by rw [hX, hq5, ← HDS.out]; exact g.2)
              clear hX hzz hq5
              obtain ⟨m1, m2⟩ := HMR.out HOK.out HNO.out
              go_wp2_with fail
              refine CM1.out.mono ?_
              rintro e w11 ⟨rfl, h11⟩
              have HB11 := Lib.hid (HB10.out.trans (h11.mono HB10.out.size))
              have P11 := Lib.hid (rb_next P10.out h11)
              have CN2 := Lib.hid (CN.out _ A3 c3 (rus_below R3.out h11) HB11.out)
              rw [m1, m2] at CN2
              clear h11 m1 m2
              go_wp2_with fail
              refine CN2.out.mono ?_
              rintro e w12 ⟨rfl, h12⟩
              have P12 := Lib.hid (rb_next (rb_next P11.out h12) ((Below.refl _ _).alloc (Nat.le_refl _) (.cells (ruA x) 26)))
              clear h12
              obtain ⟨b0, b1, b2⟩ := rb_cells P12.out
              go_wp2_with fail
              go_ret
              exact ⟨by simp, P12.out.bel⟩
          · have h5z : ¬ (5 : Int) ≤ (S.size : Int) := by omega
            have HNO : Hid (¬ (5 ≤ d.length ∧ d.drop (d.length - 5) = zz)) := fun g => h5 (by rw [← HDS.out]; exact g.1)
            obtain ⟨m1, m2⟩ := HMR.out HOK.out HNO.out
            go_wp2_with fail
            refine CM1.out.mono ?_
            rintro e w11 ⟨rfl, h11⟩
            have HB11 := Lib.hid (HB10.out.trans (h11.mono HB10.out.size))
            have P11 := Lib.hid (rb_next P10.out h11)
            have CN2 := Lib.hid (CN.out _ A3 c3 (rus_below R3.out h11) HB11.out)
            rw [m1, m2] at CN2
            clear h11 m1 m2
            go_wp2_with fail
            refine CN2.out.mono ?_
            rintro e w12 ⟨rfl, h12⟩
            have P12 := Lib.hid (rb_next (rb_next P11.out h12) ((Below.refl _ _).alloc (Nat.le_refl _) (.cells (ruA x) 26)))
            clear h12
            obtain ⟨b0, b1, b2⟩ := rb_cells P12.out
            go_wp2_with fail
            go_ret
            exact ⟨by simp, P12.out.bel⟩
theorem planLetters_any (m : Int) (A : Option Addr) (n c : Nat) (f : Nat → Ru) (T : List UInt8) (A2 : Option Addr) (len c2 : Nat) (gb : Nat → Bool) (w : World) (hm : w.cell? ⟨0, 0, none⟩ = some (.int .i64 m)) (hR : Rus w A n f) (hn : n ≤ reachBytes) (hz : A = none → n = 0 ∧ c = 0) (hT : T.length ≤ maxLen) (hB : Bos w A2 len gb) (hlen : len ≤ maxLen) :
    Calls Tryd.prog 9 #[.slice A n c, .string ⟨T.toArray⟩, .slice A2 len c2] w fun e w' => e = .returned (.bool true) ∧ Below w.heap.size w w' := letters_any A n c f ⟨T.toArray⟩ A2 len c2 gb m w hR hz (Nat.le_trans hn (by decide +kernel)) hB (Nat.le_trans hlen (by decide +kernel)) hm
end Go.Proofs.YtocjjfjcepflnaaDoor
