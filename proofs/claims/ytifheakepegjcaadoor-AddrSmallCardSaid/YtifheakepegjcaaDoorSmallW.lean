/-
  PROVED HERE: AddrSmall answers true.
-/
import Derived.Test.YtifheakepegjcaaDoorGr
set_option linter.unusedVariables false
namespace Adr
/-- A mailbox, written, parted at its domain; what is read of it with another domain. -/
theorem wrt_part {l d : List UInt8} (h : mayB l d = true) : ∃ X, wrt l d = X ++ 64 :: d ∧ ∀ D, domB D = true → rdP (60 :: (X ++ 64 :: (D ++ [62]))) = some (l, sml D, []) := by
  obtain ⟨X, hX, hL, h62, h64⟩ := wrt_ahead h []
  rw [List.append_nil, List.append_nil] at hX
  refine ⟨X, hX, fun D hD => ?_⟩
  unfold rdP
  rw [tk_yes (by rfl), Option.bind_some, List.tail_cons]
  unfold rdP1
  rw [h62, if_neg (by decide)]
  unfold rdR
  rw [h64, if_neg (by decide), Option.bind_some, rdP2_box hL hD]
end Adr
namespace Go.Proofs.YtifheakepegjcaaDoor
open Go.RowKit
variable {m : Int} {w W W1 : World} {A : Nat} {x y : List UInt8}
theorem conv_new (l d : List UInt8) : ∃ (cp : World → Nat) (ww : World → World), (∀ W, (convert 9 46 (.string ⟨d.toArray⟩)).run Tryd.prog W = .ok (.slice (some ⟨W.heap.size, 0, none⟩) d.length (cp W)) (ww W)) ∧
    ∀ (m : Int) (w W : World), Bx m w w.heap.size l d W → Gs m w l d W.heap.size d (ww W) :=
  ⟨fun W => grownCap W (⟨d.toArray⟩ : ByteArray).size 0 5, fun W => (W.alloc (.cells (bytesRow ⟨d.toArray⟩ (grownCap W (⟨d.toArray⟩ : ByteArray).size 0 5)) 5 ((bytesRow ⟨d.toArray⟩ (grownCap W (⟨d.toArray⟩ : ByteArray).size 0 5)).size, (bytesRow ⟨d.toArray⟩ (grownCap W (⟨d.toArray⟩ : ByteArray).size 0 5)).size + 1))).drew,
    fun W => by
      have h := run_bytes_of_string (P := Tryd.prog) W 9 46 5 ⟨d.toArray⟩ Tryd.underlying9 Tryd.underlying46 Tryd.underlying5
      rw [show ((⟨d.toArray⟩ : ByteArray).size : Nat) = d.length from size_mk d] at *
      exact h,
    fun m w W h => gs_new h ⟨d.toArray⟩⟩

theorem gs_put {l d L : List UInt8} {B X : Nat} (h : Gs m w l d B L W) (hX : B < X) (u v : Value) : Gs m w l d B L ((W.setCell ⟨X, 0, none⟩ u).setCell ⟨X, 1, none⟩ v) := by
  have hb : Below X W ((W.setCell ⟨X, 0, none⟩ u).setCell ⟨X, 1, none⟩ v) := ((Below.refl _ _).setCell (p := ⟨X, 0, none⟩) (Nat.le_refl _) _).setCell (p := ⟨X, 1, none⟩) (Nat.le_refl _) _
  have hgt := h.gt
  refine ⟨⟨⟨h.bx.at'.below.trans (hb.mono (by omega)), by rw [hb.cell (p := ⟨0, 0, none⟩) (show 0 < X by omega)]; exact h.bx.at'.cell⟩, (hb.block _ (by omega)).trans h.bx.kp, h.bx.ws, h.bx.pos⟩, fun j hj => ⟨by rw [hb.cell (p := ⟨B, j, none⟩) hX]; exact (h.row j hj).1, by rw [hb.frozen (p := ⟨B, j, none⟩) hX]; exact (h.row j hj).2⟩, h.gt, Nat.lt_of_lt_of_le h.lt hb.size⟩

set_option maxRecDepth 100000 in
set_option maxHeartbeats 4000000 in
theorem smallw_any (l d : List UInt8) (A : Option Addr) (len cap : Nat) (f : Nat → Bool) (m : Int) (w : World) (hl : l.length ≤ 9223372036854775807) (hd : d.length ≤ 9223372036854775807) (hB : Bos w A len f) (hlen : len ≤ 9223372036854775807) (hm : w.cell? ⟨0, 0, none⟩ = some (.int .i64 m)) :
    Calls Tryd.prog 7 #[bxV l d, .slice A len cap] w fun e w' => e = .returned (.bool true) ∧ Below w.heap.size w w' := by
  have H0 := Lib.hid (bx_first hm l d)
  have HW := Lib.hid (awake_bx H0.out)
  have HBO := Lib.hid hB
  have HLG := Lib.hid (fun (W : World) (b : Nat) (h : W.cell? ⟨b, 0, none⟩ = some (.string ⟨l.toArray⟩) ∧ W.cell? ⟨b, 1, none⟩ = some (.string ⟨d.toArray⟩)) => large_two l d b W hl hd h.1 h.2)
  clear hm hB
  unfold bxV at *
  cases hg : Adr.lgB [l, d] with
  | true =>
    rw [hg] at HLG
    clear hg
    go_enter Tryd.func7, Tryd.ntmps7
    go_wp2_with fail
    refine HW.out.mono ?_
    rintro e w1 ⟨rfl, h1⟩
    have H1 := Lib.hid h1
    obtain ⟨⟨c1, f1⟩, c2, f2⟩ := bx_cells h1
    have H2 := Lib.hid (bx_alloc h1 (.cells #[.string ⟨l.toArray⟩, .string ⟨d.toArray⟩] 9))
    have c3 := pair_new w1 l d 9
    clear h1
    go_wp2_with fail
    refine (HLG.out _ _ c3).mono ?_
    rintro e w2 ⟨rfl, rfl⟩
    clear c1 f1 c2 f2 c3
    obtain ⟨⟨c1, f1⟩, c2, f2⟩ := bx_cells H2.out
    go_wp2_with fail
    go_ret
    exact ⟨rfl, H2.out.at'.below⟩
  | false =>
    rw [hg] at HLG
    have hle := Adr.lg_no hg (T := l) (by simp)
    have hle2 := Adr.lg_no hg (T := d) (by simp)
    clear hg
    have hl' : l.length < 4294967281 := by omega
    have hd' : d.length < 4294967281 := by omega
    have CM := Lib.hid (fun (W : World) (h : Bx m w w.heap.size l d W) => bx_call h (may_any l d m W hl' hd' h.at'.cell))
    unfold bxV at CM
    cases hmb : Adr.mayB l d with
    | false =>
      rw [hmb] at CM
      clear hmb
      go_enter Tryd.func7, Tryd.ntmps7
      go_wp2_with fail
      refine HW.out.mono ?_
      rintro e w1 ⟨rfl, h1⟩
      have H1 := Lib.hid h1
      obtain ⟨⟨c1, f1⟩, c2, f2⟩ := bx_cells h1
      have H2 := Lib.hid (bx_alloc h1 (.cells #[.string ⟨l.toArray⟩, .string ⟨d.toArray⟩] 9))
      have c3 := pair_new w1 l d 9
      clear h1
      go_wp2_with fail
      refine (HLG.out _ _ c3).mono ?_
      rintro e w2 ⟨rfl, rfl⟩
      clear c1 f1 c2 f2 c3
      obtain ⟨⟨c1, f1⟩, c2, f2⟩ := bx_cells H2.out
      go_wp2_with fail
      refine (CM.out _ H2.out).mono ?_
      rintro e w3 ⟨rfl, h3⟩
      have H3 := Lib.hid h3
      clear h3 c1 f1 c2 f2
      obtain ⟨⟨c1, f1⟩, c2, f2⟩ := bx_cells H3.out
      go_wp2_with fail
      go_ret
      exact ⟨rfl, H3.out.at'.below⟩
    | true =>
      rw [hmb] at CM
      rcases Adr.wrt_part hmb with ⟨X, hX, hXP⟩
      have hwl := wrt_len hmb
      obtain ⟨hdm, hsd, _⟩ := Adr.may_parts hmb
      obtain ⟨cp, ww, hconv, hww⟩ := conv_new l d
      have HWW := Lib.hid hww
      obtain ⟨WL, hWL⟩ : ∃ WL, WL = Adr.wrt l d := ⟨_, rfl⟩
      have CW := Lib.hid (fun (B : Nat) (L : List UInt8) (W : World) (h : Gs m w l d B L W) => gs_call h (write_any l d m W hl' hd' h.bx.at'.cell))
      rw [show wrtV l d = .tuple #[.string ⟨WL.toArray⟩, .int .i64 0] from by unfold wrtV; rw [if_pos hmb, hWL]; rfl] at CW
      unfold bxV at CW
      have HPL := Lib.hid (show ∀ D : List UInt8, D.length = d.length → Adr.sml D = d → Adr.domB D = true → (∀ (W : World) (h : At m w W), Calls Tryd.prog 14 #[.string ⟨(60 :: (X ++ 64 :: (D ++ [62]))).toArray⟩] W fun e w' => e = .returned (.tuple #[.agg #[.string ⟨l.toArray⟩, .string ⟨d.toArray⟩], .int .i64 0]) ∧ Below W.heap.size W w') from fun D hD1 hD2 hD3 W h => by
        have hp := parse_any (60 :: (X ++ 64 :: (D ++ [62]))) m W (by
          have := congrArg List.length hX
          simp only [List.length_append, List.length_cons, List.length_nil] at this ⊢
          omega) h.cell
        rw [parse_some (hXP D hD3), hD2] at hp
        exact hp)
      have HDM := Lib.hid (show ∀ D : List UInt8, D.length = d.length → Adr.sml D = d → Adr.domB D = true → (∀ (W : World) (h : At m w W), Calls Tryd.prog 17 #[.string ⟨D.toArray⟩] W fun e w' => e = .returned (.tuple #[.string ⟨d.toArray⟩, .int .i64 0]) ∧ Below W.heap.size W w') from fun D hD1 hD2 hD3 W h => by
        have hp := domain_any ⟨D.toArray⟩ m W (by rw [size_mk]; omega) h.cell
        rw [show (⟨D.toArray⟩ : ByteArray).data.toList = D from rfl, dom_yes hD3, hD2] at hp
        exact hp)
      obtain ⟨q, hq⟩ : ∃ q, q = X.length + 1 := ⟨_, rfl⟩
      have hWn : WL.length = q + d.length := by rw [hWL, hX, List.length_append, List.length_cons]; omega
      have hP0 : WL.take q = X ++ [64] := by
        rw [hWL, hX, hq, show X ++ 64 :: d = (X ++ [64]) ++ d by simp]
        exact List.take_left' (by simp)
      have hwl2 : WL.length ≤ 400 := by rw [hWL]; exact hwl
      have HX := Lib.hid hX
      have HP0 := Lib.hid hP0
      have hq2 : q ≤ 400 := by omega
      have hdn : d.length ≤ 400 := by omega
      have HDO := Lib.hid hdm
      have HSD := Lib.hid hsd
      clear hX hXP hwl hdm hsd hWL hP0 hl hd hle hle2 hl' hd' hmb hww
      go_enter Tryd.func7, Tryd.ntmps7
      go_wp2_with fail
      refine HW.out.mono ?_
      rintro e w1 ⟨rfl, h1⟩
      have H1 := Lib.hid h1
      obtain ⟨⟨c1, f1⟩, c2, f2⟩ := bx_cells h1
      have H2 := Lib.hid (bx_alloc h1 (.cells #[.string ⟨l.toArray⟩, .string ⟨d.toArray⟩] 9))
      have c3 := pair_new w1 l d 9
      clear h1
      go_wp2_with fail
      refine (HLG.out _ _ c3).mono ?_
      rintro e w2 ⟨rfl, rfl⟩
      clear c1 f1 c2 f2 c3
      obtain ⟨⟨c1, f1⟩, c2, f2⟩ := bx_cells H2.out
      go_wp2_with fail
      refine (CM.out _ H2.out).mono ?_
      rintro e w3 ⟨rfl, h3⟩
      have H3 := Lib.hid h3
      clear h3 c1 f1 c2 f2
      obtain ⟨⟨c1, f1⟩, c2, f2⟩ := bx_cells H3.out
      go_wp2_with fail
      have H4 := Lib.hid (HWW.out _ _ _ H3.out)
      clear c1 f1 c2 f2 HWW hconv
      generalize ww w3 = w4 at *
      go_loopw [31] (fun u wr => ∃ k : Nat, u = .int .i64 k ∧ k ≤ d.length ∧ Hid (Gs m w l d w3.heap.size (Adr.grTo d f k) wr)) (fun u _ => d.length - (intOf u).toNat)
      case atStart => exact ⟨0, rfl, by omega, by rw [Adr.grTo_zero]; exact H4⟩
      case round =>
        obtain ⟨k, rfl, hk, HK⟩ := hrel
        by_cases hlt : k < d.length
        · have hltz : (k : Int) < (d.length : Int) := by omega
          have hkl : k < (Adr.grTo d f k).length := by rw [Adr.grTo_len]; exact hlt
          obtain ⟨g1, g2⟩ := HK.out.row k hkl
          rw [Adr.grTo_at d f k hkl hlt] at g1
          have HBO2 := Lib.hid (bos_below HBO.out (HK.out.bx.at'.below))
          by_cases hlk : k < len
          · have hlkz : (k : Int) < (len : Int) := by omega
            obtain ⟨b1, o1, rfl, t1⟩ := HBO2.out.1 k hlk
            cases hfk : f k with
            | false =>
              rw [hfk] at t1
              have HSM := Lib.hid (Adr.grTo_same d f k hlt (by rw [hfk]; exact Adr.up_no _))
              clear hfk
              generalize hgen : d[k] = c at *
              clear hgen
              go_wp2_with fail
              go_roundw
              case rel => exact ⟨k + 1, by go_num, by omega, by rw [HSM.out]; exact HK⟩
              case measure => simp [intOf]; omega
            | true =>
              rw [hfk] at t1
              have HSU := Lib.hid (Adr.grTo_succ d f k hlt)
              have HSET := Lib.hid (gs_set HK.out k hkl)
              have HUY := Lib.hid (fun hx => Adr.up_yes (c := d[k]'hlt) hx)
              have HUO := Lib.hid (fun hx => Adr.grTo_same d f k hlt (Adr.up_out (b := f k) (c := d[k]'hlt) hx))
              rw [hfk] at HSU
              clear hfk
              generalize hgen : d[k] = c at *
              by_cases q1 : 97 ≤ c.toNat
              · have q1z : (97 : Int) ≤ (c.toNat : Int) := by omega
                by_cases q2 : c.toNat ≤ 122
                · have q2z : (c.toNat : Int) ≤ 122 := by omega
                  have HV := Lib.hid (HUY.out ⟨q1, q2⟩)
                  clear hgen hkl
                  go_wp2_with fail
                  go_roundw
                  case rel => exact ⟨k + 1, by go_num, by omega, by rw [HSU.out]; exact HSET.out _ _ (by rw [HV.out])⟩
                  case measure => simp [intOf]; omega
                · have q2z : ¬ (c.toNat : Int) ≤ 122 := by omega
                  have HSM := Lib.hid (HUO.out fun h => q2 h.2)
                  clear hgen
                  go_wp2_with fail
                  go_roundw
                  case rel => exact ⟨k + 1, by go_num, by omega, by rw [HSM.out]; exact HK⟩
                  case measure => simp [intOf]; omega
              · have q1z : ¬ (97 : Int) ≤ (c.toNat : Int) := by omega
                have HSM := Lib.hid (HUO.out fun h => q1 h.1)
                clear hgen
                go_wp2_with fail
                go_roundw
                case rel => exact ⟨k + 1, by go_num, by omega, by rw [HSM.out]; exact HK⟩
                case measure => simp [intOf]; omega
          · have hlkz : ¬ (k : Int) < (len : Int) := by omega
            have HSM := Lib.hid (Adr.grTo_same d f k hlt (by rw [HBO2.out.2 k (by omega)]; exact Adr.up_no _))
            generalize hgen : d[k] = c at *
            clear hgen
            go_wp2_with fail
            go_roundw
            case rel => exact ⟨k + 1, by go_num, by omega, by rw [HSM.out]; exact HK⟩
            case measure => simp [intOf]; omega
        · have hltz : ¬ (k : Int) < (d.length : Int) := by omega
          obtain rfl : k = d.length := by omega
          obtain ⟨D, hD⟩ : ∃ D, D = Adr.grTo d f d.length := ⟨_, rfl⟩
          have hDl : D.length = d.length := by rw [hD, Adr.grTo_len]
          have hDs : Adr.sml D = d := by rw [hD, Adr.sml_gr, HSD.out]
          have hDd : Adr.domB D = true := by rw [hD, Adr.domB_gr]; exact HDO.out
          rw [← hD] at HK
          have CP := Lib.hid (HPL.out D hDl hDs hDd)
          have CD := Lib.hid (HDM.out D hDl hDs hDd)
          have HBK := Lib.hid (fun (W : World) (h : Gs m w l d w3.heap.size D W) => back_row h.row (cp w3))
          rw [hDl] at HBK
          obtain ⟨P0, hP0⟩ : ∃ P0, P0 = X ++ [64] := ⟨_, rfl⟩
          obtain ⟨P1, hP1⟩ : ∃ P1, P1 = 60 :: P0 := ⟨_, rfl⟩
          obtain ⟨P2, hP2⟩ : ∃ P2, P2 = P1 ++ D := ⟨_, rfl⟩
          obtain ⟨P3, hP3⟩ : ∃ P3, P3 = P2 ++ [62] := ⟨_, rfl⟩
          have hP3e : 60 :: (X ++ 64 :: (D ++ [62])) = P3 := by rw [hP3, hP2, hP1, hP0]; simp
          rw [hP3e] at CP
          have z5 := take_k WL q
          rw [HP0.out, ← hP0] at z5
          have y1 : (⟨#[60]⟩ : ByteArray) ++ (⟨P0.toArray⟩ : ByteArray) = ⟨P1.toArray⟩ := by rw [hP1]; exact mk_append [60] P0
          have y2 : (⟨P1.toArray⟩ : ByteArray) ++ (⟨D.toArray⟩ : ByteArray) = ⟨P2.toArray⟩ := by rw [hP2]; exact mk_append P1 D
          have y3 : (⟨P2.toArray⟩ : ByteArray) ++ (⟨#[62]⟩ : ByteArray) = ⟨P3.toArray⟩ := by rw [hP3]; exact mk_append P2 [62]
          have n0 : P0.length ≤ 400 := by have := congrArg List.length HP0.out; rw [List.length_take] at this; rw [hP0, ← this]; omega
          have n1 : P1.length ≤ 401 := by rw [hP1, List.length_cons]; omega
          have n2 : P2.length ≤ 801 := by rw [hP2, List.length_append]; omega
          have z1 : ¬ WL.length < d.length := by omega
          have z1z : ¬ (WL.length : Int) < (d.length : Int) := by omega
          have z2 : IntKind.i64.wrap ((WL.length : Int) - (d.length : Int)) = (q : Int) := by rw [IntKind.wrap_i64]; omega
          have z4 : (q : Int) ≤ (WL.length : Int) := by omega
          have z3 : (0 : Int) ≤ (q : Int) := by omega
          have x1 : ¬ 9223372036854775807 < 1 + P0.length := by omega
          have x2 : ¬ 9223372036854775807 < P1.length + D.length := by omega
          have x2b : ¬ 9223372036854775807 < P1.length + d.length := by omega
          have x3 : ¬ 9223372036854775807 < P2.length + 1 := by omega
          have HDL := Lib.hid hDl
          clear hD hDs hDd hP0 hP1 hP2 hP3 hP3e hWn HP0 HX HPL HDM HSD HDO HBO hDl hq
          obtain ⟨⟨c1, f1⟩, c2, f2⟩ := bx_cells HK.out.bx
          go_wp2_with fail
          refine (CW.out _ _ _ HK.out).mono ?_
          rintro e w5 ⟨rfl, h5⟩
          have H5 := Lib.hid h5
          have b5 := HBK.out _ h5
          clear h5 c1 f1 c2 f2
          have hbk := HBK.out
          have g5 := H5.out
          have q1 := eq_same
          have q2 := gua25
          clear b5
          go_wp2_with fail
          go_region_held3 (fun W => Gs m w l d w3.heap.size D W) (first | assumption | exact gs_next H5.out (Below.refl _ _).drew | exact gs_next (by assumption) ((Below.refl _ _).alloc (Nat.le_refl _) _) | exact gs_put (by assumption) (Gs.lt (l := l) (d := d) (L := D) (by first | assumption | exact gs_next H5.out (Below.refl _ _).drew)) _ _) (first
            | (go_at_call 14; refine (CP.out _ (Gs.bx (l := l) (d := d) (B := w3.heap.size) (L := D) (by assumption)).at').mono ?_; rintro e w6 ⟨rfl, h6⟩; have g6 := gs_next (l := l) (d := d) (B := w3.heap.size) (L := D) (by assumption) h6
               first | (have A6 : Hid (Bx m w w5.heap.size [] [] w6) := bx_next (bx_new (Gs.bx (l := l) (d := d) (B := w3.heap.size) (L := D) (gs_next H5.out (Below.refl _ _).drew)).at' [] []) h6; have a7 : (w6.cell? ⟨w5.heap.size, 0, none⟩ = some (.string ⟨#[]⟩) ∧ w6.frozen? ⟨w5.heap.size, 0, none⟩ = false) ∧ w6.cell? ⟨w5.heap.size, 1, none⟩ = some (.string ⟨#[]⟩) ∧ w6.frozen? ⟨w5.heap.size, 1, none⟩ = false := bx_cells A6.out; obtain ⟨⟨a8, a9⟩, a10, a11⟩ := a7) | skip))
          · have HG := Lib.hid (gs_next g6 ((Below.refl _ _).alloc (Nat.le_refl _) (.cells #[.string ⟨l.toArray⟩, .string ⟨d.toArray⟩] 25)))
            have HX7 := Lib.hid (bx_new g6.bx.at' l d)
            clear hbk g5 g6 h6
            have t1 := HBK.out _ HG.out
            obtain ⟨⟨c1, f1⟩, c2, f2⟩ := bx_cells HG.out.bx
            obtain ⟨⟨b1, b2⟩, b3, b4⟩ := bx_cells HX7.out
            go_wp2_with fail
            refine (CD.out _ HG.out.bx.at').mono ?_
            rintro e w8 ⟨rfl, h8⟩
            have HG8 := Lib.hid (gs_next HG.out h8)
            have HX8 := Lib.hid (bx_next HX7.out h8)
            clear h8 t1 c1 f1 c2 f2 b1 b2 b3 b4
            obtain ⟨⟨c1, f1⟩, c2, f2⟩ := bx_cells HG8.out.bx
            obtain ⟨⟨b1, b2⟩, b3, b4⟩ := bx_cells HX8.out
            go_wp2_with fail
            go_ret
            exact ⟨rfl, HG8.out.bx.at'.below⟩
          · have HG := Lib.hid (gs_put g6 H5.out.lt (.string ⟨l.toArray⟩) (.string ⟨d.toArray⟩))
            have HX7 := Lib.hid (bx_put A6.out l d)
            clear hbk g5 g6 h6 a8 a9 a10 a11 A6
            have t1 := HBK.out _ HG.out
            obtain ⟨⟨c1, f1⟩, c2, f2⟩ := bx_cells HG.out.bx
            obtain ⟨⟨b1, b2⟩, b3, b4⟩ := bx_cells HX7.out
            go_wp2_with fail
            refine (CD.out _ HG.out.bx.at').mono ?_
            rintro e w8 ⟨rfl, h8⟩
            have HG8 := Lib.hid (gs_next HG.out h8)
            have HX8 := Lib.hid (bx_next HX7.out h8)
            clear h8 t1 c1 f1 c2 f2 b1 b2 b3 b4
            obtain ⟨⟨c1, f1⟩, c2, f2⟩ := bx_cells HG8.out.bx
            obtain ⟨⟨b1, b2⟩, b3, b4⟩ := bx_cells HX8.out
            go_wp2_with fail
            go_ret
            exact ⟨rfl, HG8.out.bx.at'.below⟩
theorem addrSmall_any (m : Int) (l d : List UInt8) (A : Option Addr) (len cap : Nat) (f : Nat → Bool) (w : World) (hm : w.cell? ⟨0, 0, none⟩ = some (.int .i64 m)) (hl : l.length ≤ maxLen) (hd : d.length ≤ maxLen) (hB : Bos w A len f) (hlen : len ≤ maxLen) :
    Calls Tryd.prog 7 #[.agg #[.string ⟨l.toArray⟩, .string ⟨d.toArray⟩], .slice A len cap] w fun e w' => e = .returned (.bool true) ∧ Below w.heap.size w w' := smallw_any l d A len cap f m w hl hd hB hlen hm
end Go.Proofs.YtifheakepegjcaaDoor
