/-
  PROVED HERE: the library's stableCmpFunc and SortStableFunc leave a row as a stable sort leaves it, whatever its length.
-/
import Derived.Test.YtocjjfjcepflnaaDoorKg
namespace Go.Proofs.YtocjjfjcepflnaaDoor
open Go.Shelf Go.RowKit Go.Lib Go.Sort
variable {α : Type} [Inhabited α] {P : Program} {kc : Nat}

set_option maxHeartbeats 4000000 in
set_option maxRecDepth 1000000 in
theorem stable_s (E : Env P kc) (enc : α → List Value) (cf : α → α → Int) (g : Nat) (cb : Array Value) (blk off cap len : Nat) (d0 d : Array α) (w0 w : World)
    (eg : ∀ args w, (callFunc g args).run P w = .ok (.enter g args) w) (hcmp : CmpLays P g cb enc kc cf blk off len w0) (R : RowK enc kc w0 blk off d0) (hs : d0.size = len) (hl : d.size = len) (S : SWK enc kc w0 blk off d w)
    (hsz : len < 1152921504606846976) (hW : Stb.Swo (ltOf cf)) :
    Calls P 51 #[.slice (some ⟨blk, off, none⟩) len cap, .int .i64 len, .func (.func g) #[] cb] w fun e w' => e = .returned (.tuple #[]) ∧ ∃ d' : Array α, d'.size = len ∧
      Stb.seg (Gd d') 0 len = Stb.isort (ltOf cf) (Stb.seg (Gd d) 0 len) ∧ SWK enc kc w0 blk off d' w' := by
  have mixed := E.mixed; have t0 := E.t0; have a0 := E.a0; have z0 := E.z0; have v0 := E.v0; have t3 := E.t3; have a3 := E.a3; have z3 := E.z3; have v3 := E.v3; have t4 := E.t4; have a4 := E.a4; have z4 := E.z4; have v4 := E.v4
  have t72 := E.t72; have a72 := E.a72; have z72 := E.z72; have v72 := E.v72; have t77 := E.t77; have a77 := E.a77; have z77 := E.z77; have v77 := E.v77; have aE := E.aE; have zE := E.zE
  have u72 := run_underlying E.t72
  have t95 := E.t95; have a95 := E.a95; have z95 := E.z95; have v95 := E.v95; have u95 := run_underlying E.t95; have u3 := run_underlying E.t3
  have g77 := E.e77; have g70 := E.e70; have g61 := E.e61; have g60 := E.e60; have g51 := E.e51
  have EE : Aside (Env P kc) := E
  clear E
  have hsym := symMerge_s EE.out enc cf g cb blk off cap len d0 w0 eg hcmp R hs (by omega) hW
  have SY : Aside (∀ k, SymOk P kc enc cf g cb blk off cap len w0 k) := hsym
  have HC : Aside _ := hcmp
  have S0 : Aside (SWK enc kc w0 blk off d w) := S
  have HL := Lib.hid hl
  have HS := Lib.hid hs
  have HW := Lib.hid hW
  have EG : Aside _ := eg
  have RR : Aside (RowK enc kc w0 blk off d0) := R
  clear S hcmp hl hs R hsym hW eg
  have F := EE.out.f51
  go_enter F, Tryd.ntmps51
  go_wp2
  go_loopg [7, 8] (len / 20 + 1) (fun g1 va vb wr => ∃ (A : Nat) (dk : Array α), va = .int .i64 A ∧ vb = .int .i64 ((A : Int) + 20) ∧ A ≤ len ∧ (len - A) / 20 + 1 ≤ g1 ∧ Hid (A % 20 = 0 ∧ dk.size = len ∧ Stb.Fst (ltOf cf) (Gd d) (Gd dk) 20 A) ∧ Aside (SWK enc kc w0 blk off dk wr))
  case atStart => exact ⟨0, d, rfl, rfl, by omega, by omega, ⟨rfl, HL.out, Stb.fst_zero _ _⟩, S0⟩
  case round =>
    clear S0
    obtain ⟨A, dk, rfl, rfl, hA, hg1, HO, S1⟩ := hrel
    by_cases hlt : A + 20 ≤ len
    · have hltz : (A : Int) + 20 ≤ (len : Int) := by omega
      go_wp2_with fail
      refine (insertion_l EE.out enc cf g cb blk off cap A (A + 20) len _ _ d0 dk w0 _ EG.out HC.out RR.out HS.out HO.out.2.1 S1.out rfl (by omega) (by omega) hlt (by omega) HW.out).mono ?_
      rintro e w1 ⟨rfl, d1, hd1, hq1, hq2, S2⟩
      have S3 : Aside (SWK enc kc w0 blk off d1 w1) := S2
      have HD := Lib.hid hd1
      have HQ1 := Lib.hid hq1
      have HQ2 := Lib.hid hq2
      clear S2 hd1 hq1 hq2
      go_wp2
      go_roundg ((len - (A + 20)) / 20 + 1)
      case measure => omega
      case rel =>
        refine ⟨A + 20, d1, by go_num, by go_num, by omega, by omega, ⟨by have := HO.out.1; omega, HD.out, ?_⟩, S3⟩
        have q := HQ1.out
        rw [show A + 20 - A = 20 from by omega] at q
        exact Stb.fst_step HO.out.2.2 HO.out.1 (fun k hk => HQ2.out k hk) q
    · have hltz : ¬ (A : Int) + 20 ≤ (len : Int) := by omega
      go_wp2_with fail
      refine (insertion_l EE.out enc cf g cb blk off cap A len len _ _ d0 dk w0 _ EG.out HC.out RR.out HS.out HO.out.2.1 S1.out rfl rfl hA (by omega) (by omega) HW.out).mono ?_
      rintro e w1 ⟨rfl, d1, hd1, hq1, hq2, S2⟩
      have S3 : Aside (SWK enc kc w0 blk off d1 w1) := S2
      have HB : Hid (d1.size = len ∧ Stb.Blk (ltOf cf) (Gd d) (Gd d1) len 20) := ⟨hd1, Stb.fst_end HO.out.2.2 HO.out.1 hA (by omega) hq2 hq1⟩
      clear S2 hd1 hq1 hq2 S1 HO
      go_wp2
      go_loopg [6] len (fun g2 vs wr => ∃ (bs : Nat) (dk : Array α), vs = .int .i64 bs ∧ 20 ≤ bs ∧ (bs ≤ 2 * len ∨ bs = 20) ∧ len - bs ≤ g2 ∧ Hid (dk.size = len ∧ Stb.Blk (ltOf cf) (Gd d) (Gd dk) len bs) ∧ Aside (SWK enc kc w0 blk off dk wr))
      case atStart => exact ⟨20, d1, rfl, by omega, .inr rfl, by omega, HB, S3⟩
      case round =>
        clear S3 HB
        obtain ⟨bs, dk2, rfl, hb1, hb2, hg2, HO2, S4⟩ := hrel
        by_cases hbl : bs < len
        · have hblz : (bs : Int) < (len : Int) := by omega
          go_wp2
          go_loopg [7, 8] (len + 1) (fun g3 va vb wr => ∃ (A : Nat) (dk : Array α), va = .int .i64 A ∧ vb = .int .i64 ((A : Int) + 2 * (bs : Int)) ∧ A ≤ len ∧ len - A + 1 ≤ g3 ∧ Hid (A % (2 * bs) = 0 ∧ dk.size = len ∧ Stb.Pass (ltOf cf) (Gd d) (Gd dk) len bs A) ∧ Aside (SWK enc kc w0 blk off dk wr))
          case atStart => exact ⟨0, dk2, rfl, by go_num, by omega, by omega, ⟨Nat.zero_mod _, HO2.out.1, Stb.pass_start HO2.out.2⟩, S4⟩
          case round =>
            clear S4 HO2
            obtain ⟨B, dk3, rfl, rfl, hB, hg3, HO3, S5⟩ := hrel
            by_cases hlt3 : B + 2 * bs ≤ len
            · have hlt3z : (B : Int) + 2 * (bs : Int) ≤ (len : Int) := by omega
              obtain ⟨u1, u2⟩ := Stb.pass_sorted (B := B + 2 * bs) HW.out HO3.out.2.2 HO3.out.1 (by omega) (by omega)
              have U1 : Aside _ := u1
              have U2 : Aside _ := u2
              clear u1 u2
              go_wp2_with fail
              refine (SY.out _ B (B + bs) (B + 2 * bs) _ _ _ dk3 _ (Nat.le_refl _) HO3.out.2.1 S5.out rfl (by omega) (by omega) (by omega) (by omega) (by omega) U1.out U2.out).mono ?_
              rintro e w2 ⟨rfl, d4, hd4, hm4, S6⟩
              have S7 : Aside (SWK enc kc w0 blk off d4 w2) := S6
              have HP : Hid ((B + 2 * bs) % (2 * bs) = 0 ∧ d4.size = len ∧ Stb.Pass (ltOf cf) (Gd d) (Gd d4) len bs (B + 2 * bs)) := ⟨Stb.mod_next HO3.out.1, hd4, Stb.pass_step HW.out HO3.out.2.2 HO3.out.1 (by omega) (by omega) hm4⟩
              clear S6 hd4 hm4 S5 HO3
              go_wp2
              go_roundg (len - (B + 2 * bs) + 1)
              case measure => omega
              case rel => exact ⟨B + 2 * bs, d4, by go_num, by go_num, by omega, by omega, HP, S7⟩
            · have hlt3z : ¬ (B : Int) + 2 * (bs : Int) ≤ (len : Int) := by omega
              by_cases hm : B + bs < len
              · have hmz : (B : Int) + (bs : Int) < (len : Int) := by omega
                obtain ⟨u1, u2⟩ := Stb.pass_sorted (B := len) HW.out HO3.out.2.2 HO3.out.1 (by omega) (by omega)
                have U1 : Aside _ := u1
                have U2 : Aside _ := u2
                clear u1 u2
                go_wp2_with fail
                refine (SY.out _ B (B + bs) len _ _ _ dk3 _ (Nat.le_refl _) HO3.out.2.1 S5.out rfl (by omega) rfl (by omega) (by omega) (by omega) U1.out U2.out).mono ?_
                rintro e w2 ⟨rfl, d4, hd4, hm4, S6⟩
                have S7 : Aside (SWK enc kc w0 blk off d4 w2) := S6
                have HP : Hid (d4.size = len ∧ Stb.Blk (ltOf cf) (Gd d) (Gd d4) len (2 * bs)) := ⟨hd4, Stb.pass_end (Stb.pass_step HW.out HO3.out.2.2 HO3.out.1 (by omega) (by omega) hm4) (by omega)⟩
                clear S6 hd4 hm4 S5 HO3
                go_wp2
                go_roundg (len - 2 * bs)
                case measure => omega
                case rel => exact ⟨2 * bs, d4, by first | go_num | (congr 1; omega), by omega, .inl (by omega), by omega, HP, S7⟩
              · have hmz : ¬ (B : Int) + (bs : Int) < (len : Int) := by omega
                have HP : Hid (dk3.size = len ∧ Stb.Blk (ltOf cf) (Gd d) (Gd dk3) len (2 * bs)) := ⟨HO3.out.2.1, Stb.pass_skip HO3.out.2.2 HO3.out.1 (by omega)⟩
                clear HO3
                go_wp2
                go_roundg (len - 2 * bs)
                case measure => omega
                case rel => exact ⟨2 * bs, dk3, by first | go_num | (congr 1; omega), by omega, .inl (by omega), by omega, HP, S5⟩
        · have hblz : ¬ (bs : Int) < (len : Int) := by omega
          go_wp2
          first | go_end0 | refine bodyPost_ret (results_none rfl _ _ _) rfl ?_
          exact ⟨rfl, dk2, HO2.out.1, Stb.blk_all HO2.out.2 (by omega), S4.out⟩

set_option maxHeartbeats 400000 in
theorem sortStable_s (E : Env P kc) (enc : α → List Value) (cf : α → α → Int) (g : Nat) (cb : Array Value) (blk off cap len : Nat) (d : Array α) (w : World)
    (eg : ∀ args w, (callFunc g args).run P w = .ok (.enter g args) w) (hcmp : CmpLays P g cb enc kc cf blk off len w) (R : RowK enc kc w blk off d) (hl : d.size = len) (hsz : len < 1152921504606846976) (hW : Stb.Swo (ltOf cf)) :
    Calls P 37 #[.slice (some ⟨blk, off, none⟩) len cap, .func (.func g) #[] cb] w fun e w' => e = .returned (.tuple #[]) ∧ ∃ d' : Array α, d'.size = len ∧
      Stb.seg (Gd d') 0 len = Stb.isort (ltOf cf) (Stb.seg (Gd d) 0 len) ∧ SWK enc kc w blk off d' w' := by
  have mixed := E.mixed; have t0 := E.t0; have a0 := E.a0; have z0 := E.z0; have v0 := E.v0; have t3 := E.t3; have a3 := E.a3; have z3 := E.z3; have v3 := E.v3; have t4 := E.t4; have a4 := E.a4; have z4 := E.z4; have v4 := E.v4
  have t72 := E.t72; have a72 := E.a72; have z72 := E.z72; have v72 := E.v72; have t77 := E.t77; have a77 := E.a77; have z77 := E.z77; have v77 := E.v77; have aE := E.aE; have zE := E.zE
  have u72 := run_underlying E.t72
  have t95 := E.t95; have a95 := E.a95; have z95 := E.z95; have v95 := E.v95; have u95 := run_underlying E.t95; have u3 := run_underlying E.t3
  have g77 := E.e77; have g70 := E.e70; have g61 := E.e61; have g60 := E.e60; have g51 := E.e51
  have EE : Aside (Env P kc) := E
  clear E
  have c := stable_s EE.out enc cf g cb blk off cap len d d w w eg hcmp R hl hl (SWK.start R.hH) hsz hW
  have C := Lib.hid c
  clear c hcmp R eg hW
  have F := EE.out.f37
  go_enter F, Tryd.ntmps37
  go_wp2_with fail
  refine Calls.mono C.out ?_
  rintro e w' ⟨rfl, hq⟩
  have HQ := Lib.hid hq
  clear hq
  go_wp2
  go_end0
  exact ⟨rfl, HQ.out⟩

end Go.Proofs.YtocjjfjcepflnaaDoor
