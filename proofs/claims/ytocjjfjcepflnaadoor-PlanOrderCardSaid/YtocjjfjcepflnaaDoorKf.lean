/-
  PROVED HERE: what the library's symMergeCmpFunc does to a row: two sorted rows side by side are merged. Turned from worked proofs of the kit on the library's sort; the ways behind the search are written out by a small program (gen_sorte.py).
-/
import Derived.Test.YtocjjfjcepflnaaDoorKe
namespace Go.Proofs.YtocjjfjcepflnaaDoor
open Go.Shelf Go.RowKit Go.Lib Go.Sort
variable {α : Type} [Inhabited α] {P : Program} {kc : Nat}

theorem rotate_l (E : Env P kc) (enc : α → List Value) (fv : Value) (blk off cap a m b len : Nat) (ia im ib : Int) (d0 d : Array α) (w0 w : World) (hl : d.size = len)
    (R : RowK enc kc w0 blk off d0) (hs : d0.size = len) (S : SWK enc kc w0 blk off d w) (h1 : ia = a) (h2 : im = m) (h3 : ib = b) (ham : a < m) (hmb : m < b) (hb : b ≤ len) (hsz : len < 4611686018427387904) :
    Calls P 70 #[.slice (some ⟨blk, off, none⟩) len cap, .int .i64 ia, .int .i64 im, .int .i64 ib, fv] w fun e w' => e = .returned (.tuple #[]) ∧ ∃ d' : Array α, d'.size = len ∧ Gd d' = Stb.rotF (Gd d) a m b ∧ SWK enc kc w0 blk off d' w' :=
  rotate_s E enc fv blk off cap a m b len ia im ib d0 d w0 w hl R hs S h1 h2 h3 ham hmb hb hsz

/-- What symMergeCmpFunc does, for rows of at most so many places. -/
def SymOk (P : Program) (kc : Nat) (enc : α → List Value) (cf : α → α → Int) (g : Nat) (cb : Array Value) (blk off cap len : Nat) (w0 : World) (k : Nat) : Prop :=
  ∀ (a m b : Nat) (ia im ib : Int) (d : Array α) (w : World), b - a ≤ k → d.size = len → SWK enc kc w0 blk off d w → ia = a → im = m → ib = b → a < m → m < b → b ≤ len →
    Stb.SortedSeg (ltOf cf) (Gd d) a m → Stb.SortedSeg (ltOf cf) (Gd d) m b →
    Calls P 61 #[.slice (some ⟨blk, off, none⟩) len cap, .int .i64 ia, .int .i64 im, .int .i64 ib, .func (.func g) #[] cb] w fun e w' => e = .returned (.tuple #[]) ∧ ∃ d' : Array α, d'.size = len ∧ Stb.MG (ltOf cf) (Gd d) a m b (Gd d') ∧ SWK enc kc w0 blk off d' w'

set_option maxHeartbeats 8000000 in
set_option maxRecDepth 1000000 in
theorem symMerge_ways (E : Env P kc) (enc : α → List Value) (cf : α → α → Int) (g : Nat) (cb : Array Value) (blk off cap a m b len k : Nat) (ia im ib : Int) (d0 d : Array α) (w0 w : World)
    (eg : ∀ args w, (callFunc g args).run P w = .ok (.enter g args) w) (hcmp : CmpLays P g cb enc kc cf blk off len w0) (R : RowK enc kc w0 blk off d0) (hs : d0.size = len) (hl : d.size = len) (S : SWK enc kc w0 blk off d w)
    (h1 : ia = a) (h2 : im = m) (h3 : ib = b) (ham : a + 1 < m) (hmb : m + 1 < b) (hb : b ≤ len) (hsz : len < 4611686018427387904) (hs1 : Stb.SortedSeg (ltOf cf) (Gd d) a m) (hs2 : Stb.SortedSeg (ltOf cf) (Gd d) m b) (hW : Stb.Swo (ltOf cf))
    (ih : SymOk P kc enc cf g cb blk off cap len w0 k) (hk : b - a ≤ k + 1) :
    Calls P 61 #[.slice (some ⟨blk, off, none⟩) len cap, .int .i64 ia, .int .i64 im, .int .i64 ib, .func (.func g) #[] cb] w fun e w' => e = .returned (.tuple #[]) ∧ ∃ d' : Array α, d'.size = len ∧ Stb.MG (ltOf cf) (Gd d) a m b (Gd d') ∧ SWK enc kc w0 blk off d' w' := by
  obtain ⟨st0, r0, hsr⟩ : ∃ s r : Nat, (m > (a + b) / 2 ∧ s = (a + b) / 2 + m - b ∧ r = (a + b) / 2) ∨ (¬ m > (a + b) / 2 ∧ s = a ∧ r = m) := by
    by_cases h : m > (a + b) / 2
    · exact ⟨_, _, .inl ⟨h, rfl, rfl⟩⟩
    · exact ⟨_, _, .inr ⟨h, rfl, rfl⟩⟩
  obtain ⟨c, hc1, hc2, hc3, hac, hcm, hcmid, hmen, henb, hXX, hYY⟩ := Stb.mg_cut hW (Gd d) a m b (by omega) (by omega) hs1 hs2 st0 r0 hsr
  obtain ⟨mid, hmid⟩ : ∃ mid, mid = (a + b) / 2 := ⟨_, rfl⟩
  rw [← hmid] at hsr hc3 hcmid hmen henb hXX hYY
  obtain ⟨en, hen⟩ : ∃ en, en = mid + m - c := ⟨_, rfl⟩
  rw [← hen] at hmen henb hXX hYY
  have hmz : ((a : Int) + (b : Int)) / 2 = (mid : Int) := by omega
  have henz : (mid : Int) + (m : Int) - (c : Int) = (en : Int) := by omega
  obtain ⟨p, hp⟩ : ∃ p : Nat, (mid : Int) + (m : Int) - 1 = (p : Int) := ⟨mid + m - 1, by omega⟩
  have hmida : a < mid := by omega
  have hmidb : mid < b := by omega
  have henc : en + c = mid + m := by omega
  have XX : Aside _ := hXX
  have YY : Aside _ := hYY
  have C3 : Aside _ := hc3
  have HS1 : Aside _ := hs1
  have HS2 : Aside _ := hs2
  have IH : Aside (SymOk P kc enc cf g cb blk off cap len w0 k) := ih
  have HMID := Lib.hid hmid
  have HEN := Lib.hid hen
  clear hXX hYY hc3 hs1 hs2 hW ih hmid hen
  have mixed := E.mixed; have t0 := E.t0; have a0 := E.a0; have z0 := E.z0; have v0 := E.v0; have t3 := E.t3; have a3 := E.a3; have z3 := E.z3; have v3 := E.v3; have t4 := E.t4; have a4 := E.a4; have z4 := E.z4; have v4 := E.v4
  have t72 := E.t72; have a72 := E.a72; have z72 := E.z72; have v72 := E.v72; have t77 := E.t77; have a77 := E.a77; have z77 := E.z77; have v77 := E.v77; have aE := E.aE; have zE := E.zE
  have u72 := run_underlying E.t72
  have t95 := E.t95; have a95 := E.a95; have z95 := E.z95; have v95 := E.v95; have u95 := run_underlying E.t95; have u3 := run_underlying E.t3
  have g77 := E.e77; have g70 := E.e70; have g61 := E.e61; have g60 := E.e60; have g51 := E.e51
  have EE : Aside (Env P kc) := E
  clear E
  have HC : Aside _ := hcmp
  have S0 : Aside (SWK enc kc w0 blk off d w) := S
  have HL := Lib.hid hl
  have HS := Lib.hid hs
  have RR : Aside (RowK enc kc w0 blk off d0) := R
  clear S hcmp hl hs R
  subst h1 h2 h3
  have t0 : ((m : Int) - (a : Int) == 1) = false := by simp; omega
  have t1 : ((b : Int) - (m : Int) == 1) = false := by simp; omega
  have hb5 : st0 ≤ r0 ∧ a ≤ st0 ∧ r0 ≤ m ∧ r0 ≤ mid ∧ mid + m ≤ b + st0 := by have := HMID.out; omega
  obtain ⟨b1, b2, b3, b4, b5⟩ := hb5
  rcases hsr with ⟨g1, g2, g3⟩ | ⟨g1, g2, g3⟩
  · have hz2 : (mid : Int) + (m : Int) - (b : Int) = (st0 : Int) := by have := HMID.out; omega
    have g4 : mid < m := by have := HMID.out; omega
    have g5 : mid ≤ r0 := by have := HMID.out; omega
    have HG2 := Lib.hid g2
    have HG3 := Lib.hid g3
    clear g1 g2 g3
    have F := EE.out.f61
    go_enter F, Tryd.ntmps61
    go_wp2
    go_loopg [20, 21] (r0 - st0) (fun g1 vi vj wr => ∃ (i j : Nat), vi = .int .i64 i ∧ vj = .int .i64 j ∧ st0 ≤ i ∧ i ≤ c ∧ c ≤ j ∧ j ≤ r0 ∧ j - i ≤ g1 ∧ Aside (SWK enc kc w0 blk off d wr))
    case atStart => exact ⟨st0, mid, by first | rfl | go_num, by first | rfl | go_num, by omega, by omega, by omega, by omega, by omega, S0⟩
    case round =>
      clear S0
      obtain ⟨i, j, rfl, rfl, hi1, hi2, hj1, hj2, hg1, SJ⟩ := hrel
      by_cases hlt : i < j
      · have hltz : (i : Int) < (j : Int) := by omega
        obtain ⟨h, hh⟩ : ∃ h : Nat, h = (i + j) / 2 := ⟨_, rfl⟩
        have hz : ((i : Int) + (j : Int)) / 2 = (h : Int) := by omega
        have hh1 : i ≤ h := by omega
        have hh2 : h < j := by omega
        clear hh
        obtain ⟨iN, hiN⟩ : ∃ q, q = mid + m - 1 - h := ⟨_, rfl⟩
        have ea : (p : Int) - (h : Int) = (iN : Int) := by omega
        have ba1 : (iN : Int) < (len : Int) := by omega
        have pa1 : (0 : Int) ≤ (iN : Int) := by omega
        have ra1 : IntKind.i64.wrap (iN : Int) = (iN : Int) := by rw [IntKind.wrap_i64]; omega
        have ba2 : (h : Int) < (len : Int) := by omega
        have pa2 : (0 : Int) ≤ (h : Int) := by omega
        obtain ⟨x, hx⟩ : ∃ x, x = d[mid + m - 1 - h]! := ⟨_, rfl⟩
        obtain ⟨y, hy⟩ : ∃ x, x = d[h]! := ⟨_, rfl⟩
        have hv := C3.out h (by omega) (by omega)
        have hv' : decide (cf x y < 0) = !decide (h < c) := by rw [hx, hy, ← hv, Bool.not_not]; rfl
        clear hv
        have la := SJ.out.ld RR.out (by rw [HL.out, HS.out]) P (mid + m - 1 - h) (by rw [HL.out]; omega)
        have lb := SJ.out.ld RR.out (by rw [HL.out, HS.out]) P h (by rw [HL.out]; omega)
        rw [← hx, ← hiN] at la
        rw [← hy] at lb
        have hc := SJ.out.cmp HC.out HL.out x y
        clear hx hy hiN
        by_cases hcc : h < c
        · rw [decide_eq_true hcc, Bool.not_true] at hv'
          go_wp2_with fail
          go_quiet_grown (first | (go_at_fn g; refine Calls.grown_of (hc _ _)))
          have S2 : Aside (SWK enc kc w0 blk off d (grow (wr.drewN nq) osq)) := SJ.out.grown nq osq
          clear la lb hc SJ ea ra1
          generalize grow (wr.drewN nq) osq = w2 at S2 ⊢
          clear nq osq
          go_wp2
          go_roundg (j - (h + 1))
          case measure => omega
          case rel => exact ⟨h + 1, j, by go_num, rfl, by omega, by omega, by omega, by omega, by omega, S2⟩
        · rw [decide_eq_false hcc, Bool.not_false] at hv'
          go_wp2_with fail
          go_quiet_grown (first | (go_at_fn g; refine Calls.grown_of (hc _ _)))
          have S2 : Aside (SWK enc kc w0 blk off d (grow (wr.drewN nq) osq)) := SJ.out.grown nq osq
          clear la lb hc SJ ea ra1
          generalize grow (wr.drewN nq) osq = w2 at S2 ⊢
          clear nq osq
          go_wp2
          go_roundg (h - i)
          case measure => omega
          case rel => exact ⟨i, h, rfl, rfl, by omega, by omega, by omega, by omega, by omega, S2⟩
      · have hltz : ¬ (i : Int) < (j : Int) := by omega
        have hic : c = i := by omega
        have S9 : Aside (SWK enc kc w0 blk off d wr) := SJ
        clear SJ C3 HC
        subst hic
        rcases (show (c < m ∧ m < en ∧ a < c ∧ c < mid ∧ mid < en ∧ en < b) ∨ (c < m ∧ m < en ∧ c ≤ a ∧ mid < en ∧ en < b) ∨ (c < m ∧ m < en ∧ a < c ∧ c < mid ∧ mid < en ∧ b ≤ en) ∨ (c < m ∧ m < en ∧ c ≤ a ∧ mid < en ∧ b ≤ en) ∨ (m ≤ c ∧ en ≤ mid ∧ m < mid ∧ a < c ∧ c < mid) ∨ (m ≤ c ∧ en ≤ mid ∧ mid ≤ m ∧ a < c ∧ mid ≤ c) ∨ (c < m ∧ en ≤ m ∧ mid ≤ c ∧ a < c ∧ mid < en ∧ en < b) from by omega) with ⟨f0, f1, f2, f3, f4, f5⟩ | ⟨f0, f1, f2, f3, f4⟩ | ⟨f0, f1, f2, f3, f4, f5⟩ | ⟨f0, f1, f2, f3, f4⟩ | ⟨f0, f1, f2, f3, f4⟩ | ⟨f0, f1, f2, f3, f4⟩ | ⟨f0, f1, f2, f3, f4, f5⟩
        · first
            | (exfalso; omega)
            | (go_wp2_with fail
               refine (rotate_l EE.out enc _ blk off cap c m en len _ _ _ d0 d w0 _ HL.out RR.out HS.out S9.out rfl rfl rfl (by omega) (by omega) (by omega) hsz).mono ?_
               rintro e w1 ⟨rfl, d1, hd1, hG, S3⟩
               have S4 : Aside (SWK enc kc w0 blk off d1 w1) := S3
               have HG := Lib.hid hG
               have HD1 := Lib.hid hd1
               clear S3 hG hd1
               obtain ⟨q1, q2⟩ := Stb.rot_sorted1 (lt := ltOf cf) HS1.out HS2.out hcm hmen henb
               rw [← HG.out] at q1 q2
               rw [show c + (en - m) = mid from by omega] at q2
               have Q1 : Aside (Stb.SortedSeg (ltOf cf) (Gd d1) a c) := q1
               have Q2 : Aside (Stb.SortedSeg (ltOf cf) (Gd d1) c mid) := q2
               clear q1 q2
               go_wp2_with fail
               refine (IH.out a c mid _ _ _ d1 _ (by omega) HD1.out S4.out rfl rfl rfl (by omega) (by omega) (by omega) Q1.out Q2.out).mono ?_
               rintro e w2 ⟨rfl, d2, hd2, hM, S5⟩
               have S6 : Aside (SWK enc kc w0 blk off d2 w2) := S5
               have HM2 := Lib.hid hM
               have HD2 := Lib.hid hd2
               clear S5 hM hd2
               obtain ⟨q3, q4⟩ := Stb.rot_sorted2 (lt := ltOf cf) (F := Gd d2) HS1.out HS2.out hac hcm hmen (by
                 intro k hk
                 rw [HM2.out.1 k (by omega), HG.out])
               rw [show c + (en - m) = mid from by omega] at q3
               have Q3 : Aside (Stb.SortedSeg (ltOf cf) (Gd d2) mid en) := q3
               have Q4 : Aside (Stb.SortedSeg (ltOf cf) (Gd d2) en b) := q4
               clear q3 q4
               go_wp2_with fail
               refine (IH.out mid en b _ _ _ d2 _ (by omega) HD2.out S6.out rfl rfl rfl (by omega) (by omega) (by omega) Q3.out Q4.out).mono ?_
               rintro e w3 ⟨rfl, d3, hd3, hM3, S7⟩
               have S8 : Aside (SWK enc kc w0 blk off d3 w3) := S7
               have HM3 := Lib.hid hM3
               have HD3 := Lib.hid hd3
               clear S7 hM3 hd3
               go_wp2
               first | go_end0 | refine bodyPost_ret (results_none rfl _ _ _) rfl ?_
               refine ⟨rfl, d3, HD3.out, ?_, S8.out⟩
               have m1 := HM2.out
               have m2 := HM3.out
               rw [HG.out] at m1
               rw [show mid = c + (en - m) from by omega] at m1 m2
               exact Stb.mg_step (Gd d) (Gd d2) (Gd d3) a m b c en hac hcm hmen henb XX.out YY.out m1 m2)
        · first
            | (exfalso; omega)
            | (go_wp2_with fail
               refine (rotate_l EE.out enc _ blk off cap c m en len _ _ _ d0 d w0 _ HL.out RR.out HS.out S9.out rfl rfl rfl (by omega) (by omega) (by omega) hsz).mono ?_
               rintro e w1 ⟨rfl, d1, hd1, hG, S3⟩
               have S4 : Aside (SWK enc kc w0 blk off d1 w1) := S3
               have HG := Lib.hid hG
               have HD1 := Lib.hid hd1
               clear S3 hG hd1
               obtain ⟨q1, q2⟩ := Stb.rot_sorted1 (lt := ltOf cf) HS1.out HS2.out hcm hmen henb
               rw [← HG.out] at q1 q2
               rw [show c + (en - m) = mid from by omega] at q2
               have Q1 : Aside (Stb.SortedSeg (ltOf cf) (Gd d1) a c) := q1
               have Q2 : Aside (Stb.SortedSeg (ltOf cf) (Gd d1) c mid) := q2
               clear q1 q2
               go_wp2_with fail
               obtain ⟨d2, hd2, hM, S5⟩ : ∃ d2 : Array α, d2.size = len ∧ Stb.MG (ltOf cf) (Gd d1) a c mid (Gd d2) ∧ SWK enc kc w0 blk off d2 w1 := ⟨d1, HD1.out, Stb.mg_same _ _ _ _ hac (by omega) (by omega), S4.out⟩
               have S6 : Aside (SWK enc kc w0 blk off d2 w1) := S5
               have HM2 := Lib.hid hM
               have HD2 := Lib.hid hd2
               clear S5 hM hd2
               obtain ⟨q3, q4⟩ := Stb.rot_sorted2 (lt := ltOf cf) (F := Gd d2) HS1.out HS2.out hac hcm hmen (by
                 intro k hk
                 rw [HM2.out.1 k (by omega), HG.out])
               rw [show c + (en - m) = mid from by omega] at q3
               have Q3 : Aside (Stb.SortedSeg (ltOf cf) (Gd d2) mid en) := q3
               have Q4 : Aside (Stb.SortedSeg (ltOf cf) (Gd d2) en b) := q4
               clear q3 q4
               refine (IH.out mid en b _ _ _ d2 _ (by omega) HD2.out S6.out rfl rfl rfl (by omega) (by omega) (by omega) Q3.out Q4.out).mono ?_
               rintro e w3 ⟨rfl, d3, hd3, hM3, S7⟩
               have S8 : Aside (SWK enc kc w0 blk off d3 w3) := S7
               have HM3 := Lib.hid hM3
               have HD3 := Lib.hid hd3
               clear S7 hM3 hd3
               go_wp2
               first | go_end0 | refine bodyPost_ret (results_none rfl _ _ _) rfl ?_
               refine ⟨rfl, d3, HD3.out, ?_, S8.out⟩
               have m1 := HM2.out
               have m2 := HM3.out
               rw [HG.out] at m1
               rw [show mid = c + (en - m) from by omega] at m1 m2
               exact Stb.mg_step (Gd d) (Gd d2) (Gd d3) a m b c en hac hcm hmen henb XX.out YY.out m1 m2)
        · first
            | (exfalso; omega)
            | (go_wp2_with fail
               refine (rotate_l EE.out enc _ blk off cap c m en len _ _ _ d0 d w0 _ HL.out RR.out HS.out S9.out rfl rfl rfl (by omega) (by omega) (by omega) hsz).mono ?_
               rintro e w1 ⟨rfl, d1, hd1, hG, S3⟩
               have S4 : Aside (SWK enc kc w0 blk off d1 w1) := S3
               have HG := Lib.hid hG
               have HD1 := Lib.hid hd1
               clear S3 hG hd1
               obtain ⟨q1, q2⟩ := Stb.rot_sorted1 (lt := ltOf cf) HS1.out HS2.out hcm hmen henb
               rw [← HG.out] at q1 q2
               rw [show c + (en - m) = mid from by omega] at q2
               have Q1 : Aside (Stb.SortedSeg (ltOf cf) (Gd d1) a c) := q1
               have Q2 : Aside (Stb.SortedSeg (ltOf cf) (Gd d1) c mid) := q2
               clear q1 q2
               go_wp2_with fail
               refine (IH.out a c mid _ _ _ d1 _ (by omega) HD1.out S4.out rfl rfl rfl (by omega) (by omega) (by omega) Q1.out Q2.out).mono ?_
               rintro e w2 ⟨rfl, d2, hd2, hM, S5⟩
               have S6 : Aside (SWK enc kc w0 blk off d2 w2) := S5
               have HM2 := Lib.hid hM
               have HD2 := Lib.hid hd2
               clear S5 hM hd2
               obtain ⟨q3, q4⟩ := Stb.rot_sorted2 (lt := ltOf cf) (F := Gd d2) HS1.out HS2.out hac hcm hmen (by
                 intro k hk
                 rw [HM2.out.1 k (by omega), HG.out])
               rw [show c + (en - m) = mid from by omega] at q3
               have Q3 : Aside (Stb.SortedSeg (ltOf cf) (Gd d2) mid en) := q3
               have Q4 : Aside (Stb.SortedSeg (ltOf cf) (Gd d2) en b) := q4
               clear q3 q4
               go_wp2_with fail
               obtain ⟨d3, hd3, hM3, S7⟩ : ∃ d3 : Array α, d3.size = len ∧ Stb.MG (ltOf cf) (Gd d2) mid en b (Gd d3) ∧ SWK enc kc w0 blk off d3 w2 := ⟨d2, HD2.out, Stb.mg_same _ _ _ _ (by omega) henb (by omega), S6.out⟩
               have S8 : Aside (SWK enc kc w0 blk off d3 w2) := S7
               have HM3 := Lib.hid hM3
               have HD3 := Lib.hid hd3
               clear S7 hM3 hd3
               first | go_end0 | refine bodyPost_ret (results_none rfl _ _ _) rfl ?_
               refine ⟨rfl, d3, HD3.out, ?_, S8.out⟩
               have m1 := HM2.out
               have m2 := HM3.out
               rw [HG.out] at m1
               rw [show mid = c + (en - m) from by omega] at m1 m2
               exact Stb.mg_step (Gd d) (Gd d2) (Gd d3) a m b c en hac hcm hmen henb XX.out YY.out m1 m2)
        · first
            | (exfalso; omega)
            | (go_wp2_with fail
               refine (rotate_l EE.out enc _ blk off cap c m en len _ _ _ d0 d w0 _ HL.out RR.out HS.out S9.out rfl rfl rfl (by omega) (by omega) (by omega) hsz).mono ?_
               rintro e w1 ⟨rfl, d1, hd1, hG, S3⟩
               have S4 : Aside (SWK enc kc w0 blk off d1 w1) := S3
               have HG := Lib.hid hG
               have HD1 := Lib.hid hd1
               clear S3 hG hd1
               obtain ⟨q1, q2⟩ := Stb.rot_sorted1 (lt := ltOf cf) HS1.out HS2.out hcm hmen henb
               rw [← HG.out] at q1 q2
               rw [show c + (en - m) = mid from by omega] at q2
               have Q1 : Aside (Stb.SortedSeg (ltOf cf) (Gd d1) a c) := q1
               have Q2 : Aside (Stb.SortedSeg (ltOf cf) (Gd d1) c mid) := q2
               clear q1 q2
               go_wp2_with fail
               obtain ⟨d2, hd2, hM, S5⟩ : ∃ d2 : Array α, d2.size = len ∧ Stb.MG (ltOf cf) (Gd d1) a c mid (Gd d2) ∧ SWK enc kc w0 blk off d2 w1 := ⟨d1, HD1.out, Stb.mg_same _ _ _ _ hac (by omega) (by omega), S4.out⟩
               have S6 : Aside (SWK enc kc w0 blk off d2 w1) := S5
               have HM2 := Lib.hid hM
               have HD2 := Lib.hid hd2
               clear S5 hM hd2
               obtain ⟨q3, q4⟩ := Stb.rot_sorted2 (lt := ltOf cf) (F := Gd d2) HS1.out HS2.out hac hcm hmen (by
                 intro k hk
                 rw [HM2.out.1 k (by omega), HG.out])
               rw [show c + (en - m) = mid from by omega] at q3
               have Q3 : Aside (Stb.SortedSeg (ltOf cf) (Gd d2) mid en) := q3
               have Q4 : Aside (Stb.SortedSeg (ltOf cf) (Gd d2) en b) := q4
               clear q3 q4
               obtain ⟨d3, hd3, hM3, S7⟩ : ∃ d3 : Array α, d3.size = len ∧ Stb.MG (ltOf cf) (Gd d2) mid en b (Gd d3) ∧ SWK enc kc w0 blk off d3 w1 := ⟨d2, HD2.out, Stb.mg_same _ _ _ _ (by omega) henb (by omega), S6.out⟩
               have S8 : Aside (SWK enc kc w0 blk off d3 w1) := S7
               have HM3 := Lib.hid hM3
               have HD3 := Lib.hid hd3
               clear S7 hM3 hd3
               first | go_end0 | refine bodyPost_ret (results_none rfl _ _ _) rfl ?_
               refine ⟨rfl, d3, HD3.out, ?_, S8.out⟩
               have m1 := HM2.out
               have m2 := HM3.out
               rw [HG.out] at m1
               rw [show mid = c + (en - m) from by omega] at m1 m2
               exact Stb.mg_step (Gd d) (Gd d2) (Gd d3) a m b c en hac hcm hmen henb XX.out YY.out m1 m2)
        · first
            | (exfalso; omega)
            | (go_wp2_with fail
               obtain ⟨d1, hd1, hG, S3⟩ : ∃ d1 : Array α, d1.size = len ∧ Gd d1 = Stb.rotF (Gd d) c m en ∧ SWK enc kc w0 blk off d1 wr := ⟨d, HL.out, (Stb.rotF_same _ _ _ _ (by omega) (by omega) (by omega)).symm, S9.out⟩
               have S4 : Aside (SWK enc kc w0 blk off d1 wr) := S3
               have HG := Lib.hid hG
               have HD1 := Lib.hid hd1
               clear S3 hG hd1
               obtain ⟨q1, q2⟩ := Stb.rot_sorted1 (lt := ltOf cf) HS1.out HS2.out hcm hmen henb
               rw [← HG.out] at q1 q2
               rw [show c + (en - m) = mid from by omega] at q2
               have Q1 : Aside (Stb.SortedSeg (ltOf cf) (Gd d1) a c) := q1
               have Q2 : Aside (Stb.SortedSeg (ltOf cf) (Gd d1) c mid) := q2
               clear q1 q2
               refine (IH.out a c mid _ _ _ d1 _ (by omega) HD1.out S4.out rfl rfl rfl (by omega) (by omega) (by omega) Q1.out Q2.out).mono ?_
               rintro e w2 ⟨rfl, d2, hd2, hM, S5⟩
               have S6 : Aside (SWK enc kc w0 blk off d2 w2) := S5
               have HM2 := Lib.hid hM
               have HD2 := Lib.hid hd2
               clear S5 hM hd2
               obtain ⟨q3, q4⟩ := Stb.rot_sorted2 (lt := ltOf cf) (F := Gd d2) HS1.out HS2.out hac hcm hmen (by
                 intro k hk
                 rw [HM2.out.1 k (by omega), HG.out])
               rw [show c + (en - m) = mid from by omega] at q3
               have Q3 : Aside (Stb.SortedSeg (ltOf cf) (Gd d2) mid en) := q3
               have Q4 : Aside (Stb.SortedSeg (ltOf cf) (Gd d2) en b) := q4
               clear q3 q4
               go_wp2_with fail
               obtain ⟨d3, hd3, hM3, S7⟩ : ∃ d3 : Array α, d3.size = len ∧ Stb.MG (ltOf cf) (Gd d2) mid en b (Gd d3) ∧ SWK enc kc w0 blk off d3 w2 := ⟨d2, HD2.out, Stb.mg_same _ _ _ _ (by omega) henb (by omega), S6.out⟩
               have S8 : Aside (SWK enc kc w0 blk off d3 w2) := S7
               have HM3 := Lib.hid hM3
               have HD3 := Lib.hid hd3
               clear S7 hM3 hd3
               first | go_end0 | refine bodyPost_ret (results_none rfl _ _ _) rfl ?_
               refine ⟨rfl, d3, HD3.out, ?_, S8.out⟩
               have m1 := HM2.out
               have m2 := HM3.out
               rw [HG.out] at m1
               rw [show mid = c + (en - m) from by omega] at m1 m2
               exact Stb.mg_step (Gd d) (Gd d2) (Gd d3) a m b c en hac hcm hmen henb XX.out YY.out m1 m2)
        · first
            | (exfalso; omega)
            | (go_wp2_with fail
               obtain ⟨d1, hd1, hG, S3⟩ : ∃ d1 : Array α, d1.size = len ∧ Gd d1 = Stb.rotF (Gd d) c m en ∧ SWK enc kc w0 blk off d1 wr := ⟨d, HL.out, (Stb.rotF_same _ _ _ _ (by omega) (by omega) (by omega)).symm, S9.out⟩
               have S4 : Aside (SWK enc kc w0 blk off d1 wr) := S3
               have HG := Lib.hid hG
               have HD1 := Lib.hid hd1
               clear S3 hG hd1
               obtain ⟨q1, q2⟩ := Stb.rot_sorted1 (lt := ltOf cf) HS1.out HS2.out hcm hmen henb
               rw [← HG.out] at q1 q2
               rw [show c + (en - m) = mid from by omega] at q2
               have Q1 : Aside (Stb.SortedSeg (ltOf cf) (Gd d1) a c) := q1
               have Q2 : Aside (Stb.SortedSeg (ltOf cf) (Gd d1) c mid) := q2
               clear q1 q2
               obtain ⟨d2, hd2, hM, S5⟩ : ∃ d2 : Array α, d2.size = len ∧ Stb.MG (ltOf cf) (Gd d1) a c mid (Gd d2) ∧ SWK enc kc w0 blk off d2 wr := ⟨d1, HD1.out, Stb.mg_same _ _ _ _ hac (by omega) (by omega), S4.out⟩
               have S6 : Aside (SWK enc kc w0 blk off d2 wr) := S5
               have HM2 := Lib.hid hM
               have HD2 := Lib.hid hd2
               clear S5 hM hd2
               obtain ⟨q3, q4⟩ := Stb.rot_sorted2 (lt := ltOf cf) (F := Gd d2) HS1.out HS2.out hac hcm hmen (by
                 intro k hk
                 rw [HM2.out.1 k (by omega), HG.out])
               rw [show c + (en - m) = mid from by omega] at q3
               have Q3 : Aside (Stb.SortedSeg (ltOf cf) (Gd d2) mid en) := q3
               have Q4 : Aside (Stb.SortedSeg (ltOf cf) (Gd d2) en b) := q4
               clear q3 q4
               obtain ⟨d3, hd3, hM3, S7⟩ : ∃ d3 : Array α, d3.size = len ∧ Stb.MG (ltOf cf) (Gd d2) mid en b (Gd d3) ∧ SWK enc kc w0 blk off d3 wr := ⟨d2, HD2.out, Stb.mg_same _ _ _ _ (by omega) henb (by omega), S6.out⟩
               have S8 : Aside (SWK enc kc w0 blk off d3 wr) := S7
               have HM3 := Lib.hid hM3
               have HD3 := Lib.hid hd3
               clear S7 hM3 hd3
               first | go_end0 | refine bodyPost_ret (results_none rfl _ _ _) rfl ?_
               refine ⟨rfl, d3, HD3.out, ?_, S8.out⟩
               have m1 := HM2.out
               have m2 := HM3.out
               rw [HG.out] at m1
               rw [show mid = c + (en - m) from by omega] at m1 m2
               exact Stb.mg_step (Gd d) (Gd d2) (Gd d3) a m b c en hac hcm hmen henb XX.out YY.out m1 m2)
        · first
            | (exfalso; omega)
            | (go_wp2_with fail
               obtain ⟨d1, hd1, hG, S3⟩ : ∃ d1 : Array α, d1.size = len ∧ Gd d1 = Stb.rotF (Gd d) c m en ∧ SWK enc kc w0 blk off d1 wr := ⟨d, HL.out, (Stb.rotF_same _ _ _ _ (by omega) (by omega) (by omega)).symm, S9.out⟩
               have S4 : Aside (SWK enc kc w0 blk off d1 wr) := S3
               have HG := Lib.hid hG
               have HD1 := Lib.hid hd1
               clear S3 hG hd1
               obtain ⟨q1, q2⟩ := Stb.rot_sorted1 (lt := ltOf cf) HS1.out HS2.out hcm hmen henb
               rw [← HG.out] at q1 q2
               rw [show c + (en - m) = mid from by omega] at q2
               have Q1 : Aside (Stb.SortedSeg (ltOf cf) (Gd d1) a c) := q1
               have Q2 : Aside (Stb.SortedSeg (ltOf cf) (Gd d1) c mid) := q2
               clear q1 q2
               obtain ⟨d2, hd2, hM, S5⟩ : ∃ d2 : Array α, d2.size = len ∧ Stb.MG (ltOf cf) (Gd d1) a c mid (Gd d2) ∧ SWK enc kc w0 blk off d2 wr := ⟨d1, HD1.out, Stb.mg_same _ _ _ _ hac (by omega) (by omega), S4.out⟩
               have S6 : Aside (SWK enc kc w0 blk off d2 wr) := S5
               have HM2 := Lib.hid hM
               have HD2 := Lib.hid hd2
               clear S5 hM hd2
               obtain ⟨q3, q4⟩ := Stb.rot_sorted2 (lt := ltOf cf) (F := Gd d2) HS1.out HS2.out hac hcm hmen (by
                 intro k hk
                 rw [HM2.out.1 k (by omega), HG.out])
               rw [show c + (en - m) = mid from by omega] at q3
               have Q3 : Aside (Stb.SortedSeg (ltOf cf) (Gd d2) mid en) := q3
               have Q4 : Aside (Stb.SortedSeg (ltOf cf) (Gd d2) en b) := q4
               clear q3 q4
               refine (IH.out mid en b _ _ _ d2 _ (by omega) HD2.out S6.out rfl rfl rfl (by omega) (by omega) (by omega) Q3.out Q4.out).mono ?_
               rintro e w3 ⟨rfl, d3, hd3, hM3, S7⟩
               have S8 : Aside (SWK enc kc w0 blk off d3 w3) := S7
               have HM3 := Lib.hid hM3
               have HD3 := Lib.hid hd3
               clear S7 hM3 hd3
               go_wp2
               first | go_end0 | refine bodyPost_ret (results_none rfl _ _ _) rfl ?_
               refine ⟨rfl, d3, HD3.out, ?_, S8.out⟩
               have m1 := HM2.out
               have m2 := HM3.out
               rw [HG.out] at m1
               rw [show mid = c + (en - m) from by omega] at m1 m2
               exact Stb.mg_step (Gd d) (Gd d2) (Gd d3) a m b c en hac hcm hmen henb XX.out YY.out m1 m2)
  · have g4 : ¬ mid < m := by have := HMID.out; omega
    have g5 : st0 ≤ a := by omega
    have g6 : m ≤ r0 := by omega
    have HG2 := Lib.hid g2
    have HG3 := Lib.hid g3
    clear g1 g2 g3
    have F := EE.out.f61
    go_enter F, Tryd.ntmps61
    go_wp2
    go_loopg [20, 21] (r0 - st0) (fun g1 vi vj wr => ∃ (i j : Nat), vi = .int .i64 i ∧ vj = .int .i64 j ∧ st0 ≤ i ∧ i ≤ c ∧ c ≤ j ∧ j ≤ r0 ∧ j - i ≤ g1 ∧ Aside (SWK enc kc w0 blk off d wr))
    case atStart => exact ⟨a, m, by first | rfl | go_num, by first | rfl | go_num, by omega, by omega, by omega, by omega, by omega, S0⟩
    case round =>
      clear S0
      obtain ⟨i, j, rfl, rfl, hi1, hi2, hj1, hj2, hg1, SJ⟩ := hrel
      by_cases hlt : i < j
      · have hltz : (i : Int) < (j : Int) := by omega
        obtain ⟨h, hh⟩ : ∃ h : Nat, h = (i + j) / 2 := ⟨_, rfl⟩
        have hz : ((i : Int) + (j : Int)) / 2 = (h : Int) := by omega
        have hh1 : i ≤ h := by omega
        have hh2 : h < j := by omega
        clear hh
        obtain ⟨iN, hiN⟩ : ∃ q, q = mid + m - 1 - h := ⟨_, rfl⟩
        have ea : (p : Int) - (h : Int) = (iN : Int) := by omega
        have ba1 : (iN : Int) < (len : Int) := by omega
        have pa1 : (0 : Int) ≤ (iN : Int) := by omega
        have ra1 : IntKind.i64.wrap (iN : Int) = (iN : Int) := by rw [IntKind.wrap_i64]; omega
        have ba2 : (h : Int) < (len : Int) := by omega
        have pa2 : (0 : Int) ≤ (h : Int) := by omega
        obtain ⟨x, hx⟩ : ∃ x, x = d[mid + m - 1 - h]! := ⟨_, rfl⟩
        obtain ⟨y, hy⟩ : ∃ x, x = d[h]! := ⟨_, rfl⟩
        have hv := C3.out h (by omega) (by omega)
        have hv' : decide (cf x y < 0) = !decide (h < c) := by rw [hx, hy, ← hv, Bool.not_not]; rfl
        clear hv
        have la := SJ.out.ld RR.out (by rw [HL.out, HS.out]) P (mid + m - 1 - h) (by rw [HL.out]; omega)
        have lb := SJ.out.ld RR.out (by rw [HL.out, HS.out]) P h (by rw [HL.out]; omega)
        rw [← hx, ← hiN] at la
        rw [← hy] at lb
        have hc := SJ.out.cmp HC.out HL.out x y
        clear hx hy hiN
        by_cases hcc : h < c
        · rw [decide_eq_true hcc, Bool.not_true] at hv'
          go_wp2_with fail
          go_quiet_grown (first | (go_at_fn g; refine Calls.grown_of (hc _ _)))
          have S2 : Aside (SWK enc kc w0 blk off d (grow (wr.drewN nq) osq)) := SJ.out.grown nq osq
          clear la lb hc SJ ea ra1
          generalize grow (wr.drewN nq) osq = w2 at S2 ⊢
          clear nq osq
          go_wp2
          go_roundg (j - (h + 1))
          case measure => omega
          case rel => exact ⟨h + 1, j, by go_num, rfl, by omega, by omega, by omega, by omega, by omega, S2⟩
        · rw [decide_eq_false hcc, Bool.not_false] at hv'
          go_wp2_with fail
          go_quiet_grown (first | (go_at_fn g; refine Calls.grown_of (hc _ _)))
          have S2 : Aside (SWK enc kc w0 blk off d (grow (wr.drewN nq) osq)) := SJ.out.grown nq osq
          clear la lb hc SJ ea ra1
          generalize grow (wr.drewN nq) osq = w2 at S2 ⊢
          clear nq osq
          go_wp2
          go_roundg (h - i)
          case measure => omega
          case rel => exact ⟨i, h, rfl, rfl, by omega, by omega, by omega, by omega, by omega, S2⟩
      · have hltz : ¬ (i : Int) < (j : Int) := by omega
        have hic : c = i := by omega
        have S9 : Aside (SWK enc kc w0 blk off d wr) := SJ
        clear SJ C3 HC
        subst hic
        rcases (show (c < m ∧ m < en ∧ a < c ∧ c < mid ∧ mid < en ∧ en < b) ∨ (c < m ∧ m < en ∧ c ≤ a ∧ mid < en ∧ en < b) ∨ (c < m ∧ m < en ∧ a < c ∧ c < mid ∧ mid < en ∧ b ≤ en) ∨ (c < m ∧ m < en ∧ c ≤ a ∧ mid < en ∧ b ≤ en) ∨ (m ≤ c ∧ en ≤ mid ∧ m < mid ∧ a < c ∧ c < mid) ∨ (m ≤ c ∧ en ≤ mid ∧ mid ≤ m ∧ a < c ∧ mid ≤ c) ∨ (c < m ∧ en ≤ m ∧ mid ≤ c ∧ a < c ∧ mid < en ∧ en < b) from by omega) with ⟨f0, f1, f2, f3, f4, f5⟩ | ⟨f0, f1, f2, f3, f4⟩ | ⟨f0, f1, f2, f3, f4, f5⟩ | ⟨f0, f1, f2, f3, f4⟩ | ⟨f0, f1, f2, f3, f4⟩ | ⟨f0, f1, f2, f3, f4⟩ | ⟨f0, f1, f2, f3, f4, f5⟩
        · first
            | (exfalso; omega)
            | (go_wp2_with fail
               refine (rotate_l EE.out enc _ blk off cap c m en len _ _ _ d0 d w0 _ HL.out RR.out HS.out S9.out rfl rfl rfl (by omega) (by omega) (by omega) hsz).mono ?_
               rintro e w1 ⟨rfl, d1, hd1, hG, S3⟩
               have S4 : Aside (SWK enc kc w0 blk off d1 w1) := S3
               have HG := Lib.hid hG
               have HD1 := Lib.hid hd1
               clear S3 hG hd1
               obtain ⟨q1, q2⟩ := Stb.rot_sorted1 (lt := ltOf cf) HS1.out HS2.out hcm hmen henb
               rw [← HG.out] at q1 q2
               rw [show c + (en - m) = mid from by omega] at q2
               have Q1 : Aside (Stb.SortedSeg (ltOf cf) (Gd d1) a c) := q1
               have Q2 : Aside (Stb.SortedSeg (ltOf cf) (Gd d1) c mid) := q2
               clear q1 q2
               go_wp2_with fail
               refine (IH.out a c mid _ _ _ d1 _ (by omega) HD1.out S4.out rfl rfl rfl (by omega) (by omega) (by omega) Q1.out Q2.out).mono ?_
               rintro e w2 ⟨rfl, d2, hd2, hM, S5⟩
               have S6 : Aside (SWK enc kc w0 blk off d2 w2) := S5
               have HM2 := Lib.hid hM
               have HD2 := Lib.hid hd2
               clear S5 hM hd2
               obtain ⟨q3, q4⟩ := Stb.rot_sorted2 (lt := ltOf cf) (F := Gd d2) HS1.out HS2.out hac hcm hmen (by
                 intro k hk
                 rw [HM2.out.1 k (by omega), HG.out])
               rw [show c + (en - m) = mid from by omega] at q3
               have Q3 : Aside (Stb.SortedSeg (ltOf cf) (Gd d2) mid en) := q3
               have Q4 : Aside (Stb.SortedSeg (ltOf cf) (Gd d2) en b) := q4
               clear q3 q4
               go_wp2_with fail
               refine (IH.out mid en b _ _ _ d2 _ (by omega) HD2.out S6.out rfl rfl rfl (by omega) (by omega) (by omega) Q3.out Q4.out).mono ?_
               rintro e w3 ⟨rfl, d3, hd3, hM3, S7⟩
               have S8 : Aside (SWK enc kc w0 blk off d3 w3) := S7
               have HM3 := Lib.hid hM3
               have HD3 := Lib.hid hd3
               clear S7 hM3 hd3
               go_wp2
               first | go_end0 | refine bodyPost_ret (results_none rfl _ _ _) rfl ?_
               refine ⟨rfl, d3, HD3.out, ?_, S8.out⟩
               have m1 := HM2.out
               have m2 := HM3.out
               rw [HG.out] at m1
               rw [show mid = c + (en - m) from by omega] at m1 m2
               exact Stb.mg_step (Gd d) (Gd d2) (Gd d3) a m b c en hac hcm hmen henb XX.out YY.out m1 m2)
        · first
            | (exfalso; omega)
            | (go_wp2_with fail
               refine (rotate_l EE.out enc _ blk off cap c m en len _ _ _ d0 d w0 _ HL.out RR.out HS.out S9.out rfl rfl rfl (by omega) (by omega) (by omega) hsz).mono ?_
               rintro e w1 ⟨rfl, d1, hd1, hG, S3⟩
               have S4 : Aside (SWK enc kc w0 blk off d1 w1) := S3
               have HG := Lib.hid hG
               have HD1 := Lib.hid hd1
               clear S3 hG hd1
               obtain ⟨q1, q2⟩ := Stb.rot_sorted1 (lt := ltOf cf) HS1.out HS2.out hcm hmen henb
               rw [← HG.out] at q1 q2
               rw [show c + (en - m) = mid from by omega] at q2
               have Q1 : Aside (Stb.SortedSeg (ltOf cf) (Gd d1) a c) := q1
               have Q2 : Aside (Stb.SortedSeg (ltOf cf) (Gd d1) c mid) := q2
               clear q1 q2
               go_wp2_with fail
               obtain ⟨d2, hd2, hM, S5⟩ : ∃ d2 : Array α, d2.size = len ∧ Stb.MG (ltOf cf) (Gd d1) a c mid (Gd d2) ∧ SWK enc kc w0 blk off d2 w1 := ⟨d1, HD1.out, Stb.mg_same _ _ _ _ hac (by omega) (by omega), S4.out⟩
               have S6 : Aside (SWK enc kc w0 blk off d2 w1) := S5
               have HM2 := Lib.hid hM
               have HD2 := Lib.hid hd2
               clear S5 hM hd2
               obtain ⟨q3, q4⟩ := Stb.rot_sorted2 (lt := ltOf cf) (F := Gd d2) HS1.out HS2.out hac hcm hmen (by
                 intro k hk
                 rw [HM2.out.1 k (by omega), HG.out])
               rw [show c + (en - m) = mid from by omega] at q3
               have Q3 : Aside (Stb.SortedSeg (ltOf cf) (Gd d2) mid en) := q3
               have Q4 : Aside (Stb.SortedSeg (ltOf cf) (Gd d2) en b) := q4
               clear q3 q4
               refine (IH.out mid en b _ _ _ d2 _ (by omega) HD2.out S6.out rfl rfl rfl (by omega) (by omega) (by omega) Q3.out Q4.out).mono ?_
               rintro e w3 ⟨rfl, d3, hd3, hM3, S7⟩
               have S8 : Aside (SWK enc kc w0 blk off d3 w3) := S7
               have HM3 := Lib.hid hM3
               have HD3 := Lib.hid hd3
               clear S7 hM3 hd3
               go_wp2
               first | go_end0 | refine bodyPost_ret (results_none rfl _ _ _) rfl ?_
               refine ⟨rfl, d3, HD3.out, ?_, S8.out⟩
               have m1 := HM2.out
               have m2 := HM3.out
               rw [HG.out] at m1
               rw [show mid = c + (en - m) from by omega] at m1 m2
               exact Stb.mg_step (Gd d) (Gd d2) (Gd d3) a m b c en hac hcm hmen henb XX.out YY.out m1 m2)
        · first
            | (exfalso; omega)
            | (go_wp2_with fail
               refine (rotate_l EE.out enc _ blk off cap c m en len _ _ _ d0 d w0 _ HL.out RR.out HS.out S9.out rfl rfl rfl (by omega) (by omega) (by omega) hsz).mono ?_
               rintro e w1 ⟨rfl, d1, hd1, hG, S3⟩
               have S4 : Aside (SWK enc kc w0 blk off d1 w1) := S3
               have HG := Lib.hid hG
               have HD1 := Lib.hid hd1
               clear S3 hG hd1
               obtain ⟨q1, q2⟩ := Stb.rot_sorted1 (lt := ltOf cf) HS1.out HS2.out hcm hmen henb
               rw [← HG.out] at q1 q2
               rw [show c + (en - m) = mid from by omega] at q2
               have Q1 : Aside (Stb.SortedSeg (ltOf cf) (Gd d1) a c) := q1
               have Q2 : Aside (Stb.SortedSeg (ltOf cf) (Gd d1) c mid) := q2
               clear q1 q2
               go_wp2_with fail
               refine (IH.out a c mid _ _ _ d1 _ (by omega) HD1.out S4.out rfl rfl rfl (by omega) (by omega) (by omega) Q1.out Q2.out).mono ?_
               rintro e w2 ⟨rfl, d2, hd2, hM, S5⟩
               have S6 : Aside (SWK enc kc w0 blk off d2 w2) := S5
               have HM2 := Lib.hid hM
               have HD2 := Lib.hid hd2
               clear S5 hM hd2
               obtain ⟨q3, q4⟩ := Stb.rot_sorted2 (lt := ltOf cf) (F := Gd d2) HS1.out HS2.out hac hcm hmen (by
                 intro k hk
                 rw [HM2.out.1 k (by omega), HG.out])
               rw [show c + (en - m) = mid from by omega] at q3
               have Q3 : Aside (Stb.SortedSeg (ltOf cf) (Gd d2) mid en) := q3
               have Q4 : Aside (Stb.SortedSeg (ltOf cf) (Gd d2) en b) := q4
               clear q3 q4
               go_wp2_with fail
               obtain ⟨d3, hd3, hM3, S7⟩ : ∃ d3 : Array α, d3.size = len ∧ Stb.MG (ltOf cf) (Gd d2) mid en b (Gd d3) ∧ SWK enc kc w0 blk off d3 w2 := ⟨d2, HD2.out, Stb.mg_same _ _ _ _ (by omega) henb (by omega), S6.out⟩
               have S8 : Aside (SWK enc kc w0 blk off d3 w2) := S7
               have HM3 := Lib.hid hM3
               have HD3 := Lib.hid hd3
               clear S7 hM3 hd3
               first | go_end0 | refine bodyPost_ret (results_none rfl _ _ _) rfl ?_
               refine ⟨rfl, d3, HD3.out, ?_, S8.out⟩
               have m1 := HM2.out
               have m2 := HM3.out
               rw [HG.out] at m1
               rw [show mid = c + (en - m) from by omega] at m1 m2
               exact Stb.mg_step (Gd d) (Gd d2) (Gd d3) a m b c en hac hcm hmen henb XX.out YY.out m1 m2)
        · first
            | (exfalso; omega)
            | (go_wp2_with fail
               refine (rotate_l EE.out enc _ blk off cap c m en len _ _ _ d0 d w0 _ HL.out RR.out HS.out S9.out rfl rfl rfl (by omega) (by omega) (by omega) hsz).mono ?_
               rintro e w1 ⟨rfl, d1, hd1, hG, S3⟩
               have S4 : Aside (SWK enc kc w0 blk off d1 w1) := S3
               have HG := Lib.hid hG
               have HD1 := Lib.hid hd1
               clear S3 hG hd1
               obtain ⟨q1, q2⟩ := Stb.rot_sorted1 (lt := ltOf cf) HS1.out HS2.out hcm hmen henb
               rw [← HG.out] at q1 q2
               rw [show c + (en - m) = mid from by omega] at q2
               have Q1 : Aside (Stb.SortedSeg (ltOf cf) (Gd d1) a c) := q1
               have Q2 : Aside (Stb.SortedSeg (ltOf cf) (Gd d1) c mid) := q2
               clear q1 q2
               go_wp2_with fail
               obtain ⟨d2, hd2, hM, S5⟩ : ∃ d2 : Array α, d2.size = len ∧ Stb.MG (ltOf cf) (Gd d1) a c mid (Gd d2) ∧ SWK enc kc w0 blk off d2 w1 := ⟨d1, HD1.out, Stb.mg_same _ _ _ _ hac (by omega) (by omega), S4.out⟩
               have S6 : Aside (SWK enc kc w0 blk off d2 w1) := S5
               have HM2 := Lib.hid hM
               have HD2 := Lib.hid hd2
               clear S5 hM hd2
               obtain ⟨q3, q4⟩ := Stb.rot_sorted2 (lt := ltOf cf) (F := Gd d2) HS1.out HS2.out hac hcm hmen (by
                 intro k hk
                 rw [HM2.out.1 k (by omega), HG.out])
               rw [show c + (en - m) = mid from by omega] at q3
               have Q3 : Aside (Stb.SortedSeg (ltOf cf) (Gd d2) mid en) := q3
               have Q4 : Aside (Stb.SortedSeg (ltOf cf) (Gd d2) en b) := q4
               clear q3 q4
               obtain ⟨d3, hd3, hM3, S7⟩ : ∃ d3 : Array α, d3.size = len ∧ Stb.MG (ltOf cf) (Gd d2) mid en b (Gd d3) ∧ SWK enc kc w0 blk off d3 w1 := ⟨d2, HD2.out, Stb.mg_same _ _ _ _ (by omega) henb (by omega), S6.out⟩
               have S8 : Aside (SWK enc kc w0 blk off d3 w1) := S7
               have HM3 := Lib.hid hM3
               have HD3 := Lib.hid hd3
               clear S7 hM3 hd3
               first | go_end0 | refine bodyPost_ret (results_none rfl _ _ _) rfl ?_
               refine ⟨rfl, d3, HD3.out, ?_, S8.out⟩
               have m1 := HM2.out
               have m2 := HM3.out
               rw [HG.out] at m1
               rw [show mid = c + (en - m) from by omega] at m1 m2
               exact Stb.mg_step (Gd d) (Gd d2) (Gd d3) a m b c en hac hcm hmen henb XX.out YY.out m1 m2)
        · first
            | (exfalso; omega)
            | (go_wp2_with fail
               obtain ⟨d1, hd1, hG, S3⟩ : ∃ d1 : Array α, d1.size = len ∧ Gd d1 = Stb.rotF (Gd d) c m en ∧ SWK enc kc w0 blk off d1 wr := ⟨d, HL.out, (Stb.rotF_same _ _ _ _ (by omega) (by omega) (by omega)).symm, S9.out⟩
               have S4 : Aside (SWK enc kc w0 blk off d1 wr) := S3
               have HG := Lib.hid hG
               have HD1 := Lib.hid hd1
               clear S3 hG hd1
               obtain ⟨q1, q2⟩ := Stb.rot_sorted1 (lt := ltOf cf) HS1.out HS2.out hcm hmen henb
               rw [← HG.out] at q1 q2
               rw [show c + (en - m) = mid from by omega] at q2
               have Q1 : Aside (Stb.SortedSeg (ltOf cf) (Gd d1) a c) := q1
               have Q2 : Aside (Stb.SortedSeg (ltOf cf) (Gd d1) c mid) := q2
               clear q1 q2
               refine (IH.out a c mid _ _ _ d1 _ (by omega) HD1.out S4.out rfl rfl rfl (by omega) (by omega) (by omega) Q1.out Q2.out).mono ?_
               rintro e w2 ⟨rfl, d2, hd2, hM, S5⟩
               have S6 : Aside (SWK enc kc w0 blk off d2 w2) := S5
               have HM2 := Lib.hid hM
               have HD2 := Lib.hid hd2
               clear S5 hM hd2
               obtain ⟨q3, q4⟩ := Stb.rot_sorted2 (lt := ltOf cf) (F := Gd d2) HS1.out HS2.out hac hcm hmen (by
                 intro k hk
                 rw [HM2.out.1 k (by omega), HG.out])
               rw [show c + (en - m) = mid from by omega] at q3
               have Q3 : Aside (Stb.SortedSeg (ltOf cf) (Gd d2) mid en) := q3
               have Q4 : Aside (Stb.SortedSeg (ltOf cf) (Gd d2) en b) := q4
               clear q3 q4
               go_wp2_with fail
               obtain ⟨d3, hd3, hM3, S7⟩ : ∃ d3 : Array α, d3.size = len ∧ Stb.MG (ltOf cf) (Gd d2) mid en b (Gd d3) ∧ SWK enc kc w0 blk off d3 w2 := ⟨d2, HD2.out, Stb.mg_same _ _ _ _ (by omega) henb (by omega), S6.out⟩
               have S8 : Aside (SWK enc kc w0 blk off d3 w2) := S7
               have HM3 := Lib.hid hM3
               have HD3 := Lib.hid hd3
               clear S7 hM3 hd3
               first | go_end0 | refine bodyPost_ret (results_none rfl _ _ _) rfl ?_
               refine ⟨rfl, d3, HD3.out, ?_, S8.out⟩
               have m1 := HM2.out
               have m2 := HM3.out
               rw [HG.out] at m1
               rw [show mid = c + (en - m) from by omega] at m1 m2
               exact Stb.mg_step (Gd d) (Gd d2) (Gd d3) a m b c en hac hcm hmen henb XX.out YY.out m1 m2)
        · first
            | (exfalso; omega)
            | (go_wp2_with fail
               obtain ⟨d1, hd1, hG, S3⟩ : ∃ d1 : Array α, d1.size = len ∧ Gd d1 = Stb.rotF (Gd d) c m en ∧ SWK enc kc w0 blk off d1 wr := ⟨d, HL.out, (Stb.rotF_same _ _ _ _ (by omega) (by omega) (by omega)).symm, S9.out⟩
               have S4 : Aside (SWK enc kc w0 blk off d1 wr) := S3
               have HG := Lib.hid hG
               have HD1 := Lib.hid hd1
               clear S3 hG hd1
               obtain ⟨q1, q2⟩ := Stb.rot_sorted1 (lt := ltOf cf) HS1.out HS2.out hcm hmen henb
               rw [← HG.out] at q1 q2
               rw [show c + (en - m) = mid from by omega] at q2
               have Q1 : Aside (Stb.SortedSeg (ltOf cf) (Gd d1) a c) := q1
               have Q2 : Aside (Stb.SortedSeg (ltOf cf) (Gd d1) c mid) := q2
               clear q1 q2
               obtain ⟨d2, hd2, hM, S5⟩ : ∃ d2 : Array α, d2.size = len ∧ Stb.MG (ltOf cf) (Gd d1) a c mid (Gd d2) ∧ SWK enc kc w0 blk off d2 wr := ⟨d1, HD1.out, Stb.mg_same _ _ _ _ hac (by omega) (by omega), S4.out⟩
               have S6 : Aside (SWK enc kc w0 blk off d2 wr) := S5
               have HM2 := Lib.hid hM
               have HD2 := Lib.hid hd2
               clear S5 hM hd2
               obtain ⟨q3, q4⟩ := Stb.rot_sorted2 (lt := ltOf cf) (F := Gd d2) HS1.out HS2.out hac hcm hmen (by
                 intro k hk
                 rw [HM2.out.1 k (by omega), HG.out])
               rw [show c + (en - m) = mid from by omega] at q3
               have Q3 : Aside (Stb.SortedSeg (ltOf cf) (Gd d2) mid en) := q3
               have Q4 : Aside (Stb.SortedSeg (ltOf cf) (Gd d2) en b) := q4
               clear q3 q4
               obtain ⟨d3, hd3, hM3, S7⟩ : ∃ d3 : Array α, d3.size = len ∧ Stb.MG (ltOf cf) (Gd d2) mid en b (Gd d3) ∧ SWK enc kc w0 blk off d3 wr := ⟨d2, HD2.out, Stb.mg_same _ _ _ _ (by omega) henb (by omega), S6.out⟩
               have S8 : Aside (SWK enc kc w0 blk off d3 wr) := S7
               have HM3 := Lib.hid hM3
               have HD3 := Lib.hid hd3
               clear S7 hM3 hd3
               first | go_end0 | refine bodyPost_ret (results_none rfl _ _ _) rfl ?_
               refine ⟨rfl, d3, HD3.out, ?_, S8.out⟩
               have m1 := HM2.out
               have m2 := HM3.out
               rw [HG.out] at m1
               rw [show mid = c + (en - m) from by omega] at m1 m2
               exact Stb.mg_step (Gd d) (Gd d2) (Gd d3) a m b c en hac hcm hmen henb XX.out YY.out m1 m2)
        · first
            | (exfalso; omega)
            | (go_wp2_with fail
               obtain ⟨d1, hd1, hG, S3⟩ : ∃ d1 : Array α, d1.size = len ∧ Gd d1 = Stb.rotF (Gd d) c m en ∧ SWK enc kc w0 blk off d1 wr := ⟨d, HL.out, (Stb.rotF_same _ _ _ _ (by omega) (by omega) (by omega)).symm, S9.out⟩
               have S4 : Aside (SWK enc kc w0 blk off d1 wr) := S3
               have HG := Lib.hid hG
               have HD1 := Lib.hid hd1
               clear S3 hG hd1
               obtain ⟨q1, q2⟩ := Stb.rot_sorted1 (lt := ltOf cf) HS1.out HS2.out hcm hmen henb
               rw [← HG.out] at q1 q2
               rw [show c + (en - m) = mid from by omega] at q2
               have Q1 : Aside (Stb.SortedSeg (ltOf cf) (Gd d1) a c) := q1
               have Q2 : Aside (Stb.SortedSeg (ltOf cf) (Gd d1) c mid) := q2
               clear q1 q2
               obtain ⟨d2, hd2, hM, S5⟩ : ∃ d2 : Array α, d2.size = len ∧ Stb.MG (ltOf cf) (Gd d1) a c mid (Gd d2) ∧ SWK enc kc w0 blk off d2 wr := ⟨d1, HD1.out, Stb.mg_same _ _ _ _ hac (by omega) (by omega), S4.out⟩
               have S6 : Aside (SWK enc kc w0 blk off d2 wr) := S5
               have HM2 := Lib.hid hM
               have HD2 := Lib.hid hd2
               clear S5 hM hd2
               obtain ⟨q3, q4⟩ := Stb.rot_sorted2 (lt := ltOf cf) (F := Gd d2) HS1.out HS2.out hac hcm hmen (by
                 intro k hk
                 rw [HM2.out.1 k (by omega), HG.out])
               rw [show c + (en - m) = mid from by omega] at q3
               have Q3 : Aside (Stb.SortedSeg (ltOf cf) (Gd d2) mid en) := q3
               have Q4 : Aside (Stb.SortedSeg (ltOf cf) (Gd d2) en b) := q4
               clear q3 q4
               refine (IH.out mid en b _ _ _ d2 _ (by omega) HD2.out S6.out rfl rfl rfl (by omega) (by omega) (by omega) Q3.out Q4.out).mono ?_
               rintro e w3 ⟨rfl, d3, hd3, hM3, S7⟩
               have S8 : Aside (SWK enc kc w0 blk off d3 w3) := S7
               have HM3 := Lib.hid hM3
               have HD3 := Lib.hid hd3
               clear S7 hM3 hd3
               go_wp2
               first | go_end0 | refine bodyPost_ret (results_none rfl _ _ _) rfl ?_
               refine ⟨rfl, d3, HD3.out, ?_, S8.out⟩
               have m1 := HM2.out
               have m2 := HM3.out
               rw [HG.out] at m1
               rw [show mid = c + (en - m) from by omega] at m1 m2
               exact Stb.mg_step (Gd d) (Gd d2) (Gd d3) a m b c en hac hcm hmen henb XX.out YY.out m1 m2)

end Go.Proofs.YtocjjfjcepflnaaDoor
