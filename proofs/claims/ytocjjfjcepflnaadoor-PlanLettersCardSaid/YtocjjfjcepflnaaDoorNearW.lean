/-
  PROVED HERE: PlanNear of the statements answers true.
-/
import Derived.Test.YtocjjfjcepflnaaDoorAwk
import Derived.Test.YtocjjfjcepflnaaDoorFits
import Derived.Test.YtocjjfjcepflnaaDoorEqR
import Derived.Deep.QuietTactic
set_option linter.unusedVariables false
namespace Go.Proofs.YtocjjfjcepflnaaDoor
open Go.RowKit
/-- Has one of the first rules been found? -/
def fdB (f : Nat → Ru) (x : Ru) (k : Nat) : Bool := (List.range k).any fun i => ruE (f i) x
theorem fdB_succ (f : Nat → Ru) (x : Ru) (k : Nat) : fdB f x (k + 1) = (fdB f x k || ruE (f k) x) := by
  unfold fdB
  rw [List.range_succ, List.any_append]
  simp
theorem fdB_yes {f : Nat → Ru} {x : Ru} {n k : Nat} (hk : k < n) (h : f k = x) : fdB f x n = true := by
  unfold fdB
  rw [List.any_eq_true]
  exact ⟨k, List.mem_range.2 hk, (ruE_iff _ _).2 h⟩
/-- What the loop over the rules knows. -/
structure Nw (w : World) (B C R cap : Nat) (D : List UInt8) (x : Ru) (W : World) : Prop where
  row : BRow W B D
  cell : W.cell? ⟨C, 0, none⟩ = some (.slice (some ⟨B, 0, none⟩) D.length cap)
  rb : Rb 26 w R x W
theorem brow_below {W W1 : World} {B : Nat} {L : List UInt8} (h : BRow W B L) (g : Below W.heap.size W W1) : BRow W1 B L := fun j hj => by
  obtain ⟨h1, h2⟩ := h j hj
  have hb := World.block_lt_of_cell? _ _ h1
  exact ⟨by rw [g.cell hb]; exact h1, by rw [g.frozen hb]; exact h2⟩
theorem nw_next {w W W1 : World} {B C R cap : Nat} {D : List UInt8} {x : Ru} (h : Nw w B C R cap D x W) (g : Below W.heap.size W W1) : Nw w B C R cap D x W1 := ⟨brow_below h.row g, later_cell g h.cell, rb_next h.rb g⟩
theorem nw_set {w W : World} {B C R cap : Nat} {D : List UInt8} {x : Ru} (h : Nw w B C R cap D x W) (hw : w.heap.size ≤ B) (h1 : C ≠ B) (h2 : R ≠ B) (i : Nat) (hi : i < D.length) (c : UInt8) (v : Int) (hv : v = (c.toNat : Int)) : Nw w B C R cap (D.set i c) x (W.setCell ⟨B, i, none⟩ (.int .u8 v)) :=
  ⟨brow_set h.row i hi c v hv, by rw [List.length_set, World.cell?_setCell_other _ _ _ _ (fun q => h1 (congrArg Addr.block q).symm)]; exact h.cell, ⟨(Below.heap_setCell _ _ _ _ (fun e => h2 e)).trans h.rb.kp, h.rb.bel.setCell hw _, h.rb.ws⟩⟩

set_option maxRecDepth 100000 in
set_option maxHeartbeats 8000000 in
theorem near_any (A : Option Addr) (n c : Nat) (f : Nat → Ru) (S : ByteArray) (m : Int) (w : World) (hR : Rus w A n f) (hn : n ≤ 4611686018427387904) (hm : w.cell? ⟨0, 0, none⟩ = some (.int .i64 m)) :
    Calls Tryd.prog 6 #[.slice A n c, .string S] w fun e w' => e = .returned (.bool true) ∧ Below w.heap.size w w' := by
  have HA := Lib.hid (awake_any m w hm)
  have HR := Lib.hid hR
  have HM := Lib.hid hm
  have hwl : 0 < w.heap.size := World.block_lt_of_cell? _ _ hm
  clear hR hm
  go_enter Tryd.func6, Tryd.ntmps6
  go_wp2_with fail
  refine HA.out.mono ?_
  rintro e w1 ⟨rfl, h1⟩
  have H1 := Lib.hid h1
  have CL := Lib.hid (large_any A n c f w1 (rus_below HR.out h1) hn)
  clear h1
  cases hl : lgR f n with
  | true =>
    rw [hl] at CL
    clear hl
    go_wp2_with fail
    refine CL.out.mono ?_
    rintro e w2 ⟨rfl, rfl⟩
    go_wp2_with fail
    go_ret
    exact ⟨rfl, H1.out⟩
  | false =>
    obtain ⟨hn6, hL⟩ := lgR_false hl
    rw [hl] at CL
    have HL : Hid (∀ k, k < n → (f k).dm.length < 4294967281) := fun k hk => by have := hL k hk; omega
    have HL5 := Lib.hid hL
    clear hl hL
    by_cases hs : 500 < S.size
    · have hsz : (500 : Int) < (S.size : Int) := by omega
      go_wp2_with fail
      refine CL.out.mono ?_
      rintro e w2 ⟨rfl, rfl⟩
      go_wp2_with fail
      go_ret
      exact ⟨rfl, H1.out⟩
    have hsz : ¬ (500 : Int) < (S.size : Int) := by omega
    have hT : S.data.toList.length < 4294967281 := by rw [← Lib.size_eq]; omega
    have CR : Hid (Calls Tryd.prog 12 #[.slice A n c, .string S] w1 fun e w' => e = .returned (.tuple #[.agg (ruA (rtR f n S.data.toList)), .bool (rtB f n S.data.toList)]) ∧ Below w1.heap.size w1 w') := by
      have q := route_any A n c f S.data.toList m w1 (rus_below HR.out H1.out) HL.out hn hT (by rw [H1.out.cell hwl]; exact HM.out)
      rw [Lib.mk_data] at q
      exact q
    by_cases hno : rtO f n S.data.toList = -1
    · obtain ⟨e1, e2⟩ := rt_no hno
      rw [e1, e2] at CR
      have heq := fun W => eql26 ruZ ruZ W
      have hre : ruE ruZ ruZ = true := rfl
      rw [hre] at heq
      have hgu := gua26
      clear hno e1 e2 hT hre
      go_wp2_with fail
      refine CL.out.mono ?_
      rintro e w2 ⟨rfl, rfl⟩
      go_wp2_with fail
      refine CR.out.mono ?_
      rintro e w3 ⟨rfl, h3⟩
      have H3 : Hid (Below w.heap.size w (w3.alloc (.cells (ruA ruZ) 26))) := (H1.out.trans (h3.mono H1.out.size)).alloc (by have := H1.out.size; have := h3.size; omega) _
      clear h3
      go_wp2_with fail
      go_ret
      exact ⟨by simp, H3.out⟩
    have hcs : ∃ k : Nat, rtO f n S.data.toList = k ∧ rtI f n (Adr.sml S.data.toList) = k := by
      unfold rtO at hno ⊢
      split at hno
      · rename_i hg
        rw [if_pos hg]
        rcases rtI_cases f n (Adr.sml S.data.toList) with e | ⟨k, e, _⟩
        · exact absurd e hno
        · exact ⟨k, e, e⟩
      · exact absurd rfl hno
    obtain ⟨i, hO, hI⟩ := hcs
    obtain ⟨e1, e2⟩ := rt_yes hO
    rw [e1, e2] at CR
    obtain ⟨hin, hpos, hbest⟩ := near_best hI
    have HPOS := Lib.hid hpos
    have HBEST := Lib.hid hbest
    have HFD : Hid (fdB f (f i) n = true) := fdB_yes hin rfl
    have HFS := Lib.hid (fdB_succ f (f i))
    have hxl : (f i).dm.length ≤ 100000 := by have := HL5.out i hin; omega
    have HXL := Lib.hid hxl
    clear hno hO hI e1 e2 hpos hbest hin hT hxl
    generalize f i = x at *
    have hconv := fun w s => run_bytes_of_string (P := Tryd.prog) w 9 52 5 s Tryd.underlying9 Tryd.underlying52 Tryd.underlying5
    have HZ := Lib.hid (Lib.size_eq S)
    go_wp2_with fail
    refine CL.out.mono ?_
    rintro e w2 ⟨rfl, rfl⟩
    go_wp2_with fail
    refine CR.out.mono ?_
    rintro e w3 ⟨rfl, h3⟩
    have P3 : Hid (Rb 26 w w3.heap.size x (w3.alloc (.cells (ruA x) 26))) := rb_new (H1.out.trans (h3.mono H1.out.size)) x
    clear h3
    go_wp2_with fail
    have HB0 := Lib.hid (brow_new (w3.alloc (.cells (ruA x) 26)) S)
    generalize hcp : grownCap (w3.alloc (.cells (ruA x) 26)) S.size 0 5 = cp at *
    have HZB : Hid (Below (w3.alloc (.cells (ruA x) 26)).heap.size (w3.alloc (.cells (ruA x) 26)) ((w3.alloc (.cells (ruA x) 26)).alloc (.cells (bytesRow S cp) 5 ((bytesRow S cp).size, (bytesRow S cp).size + 1))).drew) := ((Below.refl _ _).alloc (Nat.le_refl _) _).drew
    have HX4 : Hid (Nw w (w3.heap.size + 1) (w3.heap.size + 1 + 1) w3.heap.size cp (Adr.smlTo S.data.toList 0) x (((w3.alloc (.cells (ruA x) 26)).alloc (.cells (bytesRow S cp) 5 ((bytesRow S cp).size, (bytesRow S cp).size + 1))).alloc (.cells #[.slice (some ⟨w3.heap.size + 1, 0, none⟩) S.size cp] 52)).drew) := by
      have hb := HB0.out
      rw [World.size_alloc] at hb
      have ha : Below ((w3.alloc (.cells (ruA x) 26)).alloc (.cells (bytesRow S cp) 5 ((bytesRow S cp).size, (bytesRow S cp).size + 1))).drew.heap.size ((w3.alloc (.cells (ruA x) 26)).alloc (.cells (bytesRow S cp) 5 ((bytesRow S cp).size, (bytesRow S cp).size + 1))).drew (((w3.alloc (.cells (ruA x) 26)).alloc (.cells (bytesRow S cp) 5 ((bytesRow S cp).size, (bytesRow S cp).size + 1))).alloc (.cells #[.slice (some ⟨w3.heap.size + 1, 0, none⟩) S.size cp] 52)).drew := (Below.refl _ ((w3.alloc (.cells (ruA x) 26)).alloc (.cells (bytesRow S cp) 5 ((bytesRow S cp).size, (bytesRow S cp).size + 1))).drew).alloc (Nat.le_refl _) (.cells #[.slice (some ⟨w3.heap.size + 1, 0, none⟩) S.size cp] 52)
      refine ⟨brow_below hb ha, ?_, rb_next (rb_next P3.out HZB.out) ha⟩
      rw [Adr.smlTo_len, ← HZ.out]
      have hs2 : ((w3.alloc (.cells (ruA x) 26)).alloc (.cells (bytesRow S cp) 5 ((bytesRow S cp).size, (bytesRow S cp).size + 1))).heap.size = w3.heap.size + 1 + 1 := by rw [World.size_alloc, World.size_alloc]
      show (World.alloc _ _).cell? _ = _
      rw [← hs2, World.cell?_alloc_new]
      rfl
    have hwb : w.heap.size ≤ w3.heap.size + 1 := by have := P3.out.ws; omega
    have hn1 : w3.heap.size + 1 + 1 ≠ w3.heap.size + 1 := by omega
    have hn2 : w3.heap.size ≠ w3.heap.size + 1 := by omega
    have HNS := Lib.hid (fun (W : World) (D : List UInt8) (h : Nw w (w3.heap.size + 1) (w3.heap.size + 1 + 1) w3.heap.size cp D x W) => nw_set h hwb hn1 hn2)
    clear hconv hcp HB0 HZB P3 hn1 hn2
    generalize w3.heap.size + 1 + 1 = C at *
    generalize w3.heap.size + 1 = B at *
    generalize w3.heap.size = R at *
    generalize (World.alloc _ (.cells #[.slice (some ⟨B, 0, none⟩) S.size cp] 52)).drew = W4 at *
    go_loopw [36] (fun u wr => ∃ k : Nat, u = .int .i64 k ∧ k ≤ S.size ∧ Hid (Nw w B C R cp (Adr.smlTo S.data.toList k) x wr)) (fun u _ => S.size - (intOf u).toNat)
    case atStart => exact ⟨0, rfl, by omega, HX4⟩
    case round =>
      clear HX4
      obtain ⟨k, rfl, hk, HK⟩ := hrel
      have kc := HK.out.cell
      rw [Adr.smlTo_len, ← HZ.out] at kc
      by_cases hlt : k < S.size
      · have hltz : (k : Int) < (S.size : Int) := by omega
        have hkl : k < S.data.toList.length := by rw [← HZ.out]; exact hlt
        have hkl2 : k < (Adr.smlTo S.data.toList k).length := by rw [Adr.smlTo_len]; exact hkl
        obtain ⟨f1, f2⟩ := HK.out.row k hkl2
        rw [Adr.smlTo_at _ _ hkl] at f1
        have HSU := Lib.hid (Adr.smlTo_succ S.data.toList k hkl)
        have HSET := Lib.hid (HNS.out _ _ HK.out k hkl2)
        by_cases hg : 65 ≤ (S.data.toList[k]).toNat ∧ (S.data.toList[k]).toNat ≤ 90
        · have HL2 := Lib.hid (Adr.low_great _ hg)
          obtain ⟨g1, g2⟩ := hg
          have g1z : (65 : Int) ≤ ((S.data.toList[k]).toNat : Int) := by omega
          have g2z : ((S.data.toList[k]).toNat : Int) ≤ 90 := by omega
          clear hkl2
          generalize S.data.toList[k] = ch at *
          go_wp2_with fail
          go_roundw
          case rel => exact ⟨k + 1, by go_num, by omega, by rw [HSU.out]; exact HSET.out _ _ (by rw [HL2.out])⟩
          case measure => simp [intOf]; omega
        · have HSM : Hid (Adr.smlTo S.data.toList (k + 1) = Adr.smlTo S.data.toList k) := by
            show _ = _
            rw [HSU.out, Adr.low_same _ hg, ← Adr.smlTo_at _ _ hkl]
            exact List.set_getElem_self hkl2
          clear hkl2
          generalize S.data.toList[k] = ch at *
          by_cases g1 : 65 ≤ ch.toNat
          · have g2 : ¬ ch.toNat ≤ 90 := fun h => hg ⟨g1, h⟩
            have g1z : (65 : Int) ≤ (ch.toNat : Int) := by omega
            have g2z : ¬ (ch.toNat : Int) ≤ 90 := by omega
            clear hg
            go_wp2_with fail
            go_roundw
            case rel => exact ⟨k + 1, by go_num, by omega, by rw [HSM.out]; exact HK⟩
            case measure => simp [intOf]; omega
          · have g1z : ¬ (65 : Int) ≤ (ch.toNat : Int) := by omega
            clear hg
            go_wp2_with fail
            go_roundw
            case rel => exact ⟨k + 1, by go_num, by omega, by rw [HSM.out]; exact HK⟩
            case measure => simp [intOf]; omega
      · have hltz : ¬ (k : Int) < (S.size : Int) := by omega
        obtain rfl : k = S.size := by omega
        have e1 : Adr.smlTo S.data.toList S.size = Adr.sml S.data.toList := by rw [HZ.out]; exact Adr.smlTo_all _
        rw [e1] at HK
        have hDl : (Adr.sml S.data.toList).length ≤ 100000 := by
          have e2 : (Adr.sml S.data.toList).length = S.data.toList.length := by unfold Adr.sml; rw [List.length_map]
          rw [e2, ← HZ.out]; omega
        have HDL := Lib.hid hDl
        clear e1 kc HNS hDl
        generalize Adr.sml S.data.toList = D at *
        have CF : Hid (∀ (W : World) (s : List UInt8) (q : Nat), Nw w B C R cp D x W → s.length ≤ 100000 → Calls Tryd.prog 26 #[.string ⟨s.toArray⟩, .pointer (some ⟨C, 0, none⟩)] (W.drewN q) fun e w' => e = .returned (.int .i64 (Pln.fits D s)) ∧ w' = W.drewN q) := fun W s q h hs =>
          (fits_any D s B C cp (W.drewN q) h.cell h.row HDL.out hs).mono fun _ _ h => ⟨h.1, h.2.symm⟩
        go_wp2_with fail
        go_loopw [61, 10] (fun u v wq => ∃ k : Nat, u = .int .i64 k ∧ v = .bool (fdB f x k) ∧ k ≤ n ∧ Hid (Nw w B C R cp D x wq)) (fun u _ _ => n - (intOf u).toNat)
        case atStart => exact ⟨0, rfl, rfl, by omega, HK⟩
        case round =>
          clear HK
          obtain ⟨k, rfl, rfl, hk, HK⟩ := hrel
          have HRR := Lib.hid (fun k (hk : k < n) => rus_below HR.out HK.out.rb.bel k hk)
          obtain ⟨p0, p1, p2⟩ := rb_cells HK.out.rb
          have HBL := Lib.hid HK.out.rb.bel
          by_cases hlt : k < n
          · have hltz : (k : Int) < (n : Int) := by omega
            obtain ⟨b, off, rfl, ⟨t0, t1⟩, t2⟩ := HRR.out k hlt
            have C1 := Lib.hid (fun q => CF.out wr (f k).dm q HK.out (by have := HL5.out k hlt; omega))
            have C2 := Lib.hid (fun q => CF.out wr x.dm q HK.out HXL.out)
            have HNX := Lib.hid (fun q => nw_next HK.out (below_drewN (Below.refl wr.heap.size wr) q))
            have hle := HBEST.out k hlt
            have hnl : ¬ Pln.fits D x.dm < Pln.fits D (f k).dm := by omega
            have HF1 := Lib.hid (HFS.out k)
            have he := fun W => eql26 (f k) x W
            have hgu := gua26
            clear hle
            have HFE : Hid (∀ b, fdB f x k = b → fdB f x (k + 1) = (b || ruE (f k) x)) := fun b h => by rw [HFS.out, h]
            clear HF1
            generalize hfd : fdB f x k = fd at *
            have HF1 := Lib.hid (HFE.out fd rfl)
            clear hfd HFE
            generalize ruE (f k) x = re at *
            generalize f k = y at *
            generalize Pln.fits D x.dm = v2 at *
            generalize Pln.fits D y.dm = v1 at *
            have hnl2 : v1 ≤ v2 := by omega
            cases fd with
            | true =>
              have HF2 : Hid (fdB f x (k + 1) = true) := by show _ = _; rw [HF1.out]; rfl
              go_wp2_with fail
              go_quiet (first | (go_at_call 26; first | with_reducible exact Calls.quiet_of_same (C1.out _) | with_reducible exact Calls.quiet_of_same (C2.out _)))
              go_wp2_with fail
              go_quiet (fail)
              go_wp2
              go_roundw
              case rel => exact ⟨k + 1, by go_num, by rw [HF2.out], by omega, by first | exact HNX.out _ | (rw [World.drewN_drewN]; exact HNX.out _)⟩
              case measure => simp [intOf]; omega
            | false =>
              have HF2 : Hid (fdB f x (k + 1) = re) := by show _ = _; rw [HF1.out]; rfl
              go_wp2_with fail
              go_quiet (first | (go_at_call 26; first | with_reducible exact Calls.quiet_of_same (C1.out _) | with_reducible exact Calls.quiet_of_same (C2.out _)))
              go_wp2_with fail
              go_quiet (fail)
              go_wp2
              go_roundw
              case rel => exact ⟨k + 1, by go_num, by rw [HF2.out], by omega, by first | exact HNX.out _ | (rw [World.drewN_drewN]; exact HNX.out _)⟩
              case measure => simp [intOf]; omega
          · have hltz : ¬ (k : Int) < (n : Int) := by omega
            obtain rfl : k = n := by omega
            have C2 := Lib.hid (CF.out wr x.dm 0 HK.out HXL.out)
            have hp := HPOS.out
            rw [HFD.out]
            generalize Pln.fits D x.dm = v2 at *
            go_wp2_with fail
            refine C2.out.mono ?_
            rintro e w' ⟨rfl, rfl⟩
            go_wp2_with fail
            go_ret
            exact ⟨by first | rfl | (simp; done) | (simp; omega), HBL.out⟩
theorem planNear_any (m : Int) (A : Option Addr) (n c : Nat) (f : Nat → Ru) (T : List UInt8) (w : World) (hm : w.cell? ⟨0, 0, none⟩ = some (.int .i64 m)) (hR : Rus w A n f) (hn : n ≤ reachBytes) (hT : T.length ≤ maxLen) :
    Calls Tryd.prog 6 #[.slice A n c, .string ⟨T.toArray⟩] w fun e w' => e = .returned (.bool true) ∧ Below w.heap.size w w' := near_any A n c f ⟨T.toArray⟩ m w hR (Nat.le_trans hn (by decide +kernel)) hm
end Go.Proofs.YtocjjfjcepflnaaDoor
