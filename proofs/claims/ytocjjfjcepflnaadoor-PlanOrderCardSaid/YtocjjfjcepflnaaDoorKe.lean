/-
  PROVED HERE: what the library's symMergeCmpFunc does to a row where one side has one place: the sides are merged. Turned from worked proofs of the kit on the library's sort.
-/
import Derived.Test.YtocjjfjcepflnaaDoorKd
namespace Go.Proofs.YtocjjfjcepflnaaDoor
open Go.Shelf Go.RowKit Go.Lib Go.Sort
variable {α : Type} [Inhabited α] {P : Program} {kc : Nat}

set_option maxHeartbeats 2000000 in
set_option maxRecDepth 1000000 in
theorem symMerge_dn (E : Env P kc) (enc : α → List Value) (cf : α → α → Int) (g : Nat) (cb : Array Value) (blk off cap a m b len : Nat) (ia im ib : Int) (d0 d : Array α) (w0 w : World)
    (eg : ∀ args w, (callFunc g args).run P w = .ok (.enter g args) w) (hcmp : CmpLays P g cb enc kc cf blk off len w0) (R : RowK enc kc w0 blk off d0) (hs : d0.size = len) (hl : d.size = len) (S : SWK enc kc w0 blk off d w)
    (h1 : ia = a) (h2 : im = m) (h3 : ib = b) (ham : a + 1 < m) (hmb : b = m + 1) (hb : b ≤ len) (hsz : len < 4611686018427387904) (s1 : Stb.SortedSeg (ltOf cf) (Gd d) a m) (hW : Stb.Swo (ltOf cf)) :
    Calls P 61 #[.slice (some ⟨blk, off, none⟩) len cap, .int .i64 ia, .int .i64 im, .int .i64 ib, .func (.func g) #[] cb] w fun e w' => e = .returned (.tuple #[]) ∧ ∃ d' : Array α, d'.size = len ∧ Stb.MG (ltOf cf) (Gd d) a m b (Gd d') ∧ SWK enc kc w0 blk off d' w' := by
  obtain ⟨c, c1, c2, c3⟩ := Stb.cut_exists (fun h => !ltOf cf (Gd d m) (Gd d h)) a m (by omega) (by
    intro k l k1 k2 k3 e
    simp only [Bool.not_eq_true'] at e ⊢
    exact hW.not_tr (s1 k l k1 k2 k3) e)
  have MG0 : Aside (Stb.MG (ltOf cf) (Gd d) a m b (Stb.dnF (Gd d) m c)) := by subst hmb; exact Stb.mg_dn (Gd d) a m c c1 c2 c3
  have C3 : Aside (∀ k, a ≤ k → k < m → (!ltOf cf (Gd d m) (Gd d k)) = decide (k < c)) := c3
  have hmb1 : m < b := by omega
  clear c3 s1 hW
  have mixed := E.mixed; have t0 := E.t0; have a0 := E.a0; have z0 := E.z0; have v0 := E.v0; have t3 := E.t3; have a3 := E.a3; have z3 := E.z3; have v3 := E.v3; have t4 := E.t4; have a4 := E.a4; have z4 := E.z4; have v4 := E.v4
  have t72 := E.t72; have a72 := E.a72; have z72 := E.z72; have v72 := E.v72; have t77 := E.t77; have a77 := E.a77; have z77 := E.z77; have v77 := E.v77; have aE := E.aE; have zE := E.zE
  have u72 := run_underlying E.t72
  have t95 := E.t95; have a95 := E.a95; have z95 := E.z95; have v95 := E.v95; have u95 := run_underlying E.t95; have u3 := run_underlying E.t3
  have g77 := E.e77; have g70 := E.e70; have g61 := E.e61; have g60 := E.e60; have g51 := E.e51
  have EE : Aside (Env P kc) := E
  clear E
  have HC : Aside _ := hcmp
  have S0 : Aside (SWK enc kc w0 blk off d w) := S
  have HL := Lib.hid hl
  have HS := Lib.hid hs
  have RR : Aside (RowK enc kc w0 blk off d0) := R
  clear S hcmp hl hs R
  subst h1 h2 h3
  have t0 : ((m : Int) - (a : Int) == 1) = false := by simp; omega
  have t1 : ((b : Int) - (m : Int) == 1) = true := by simp; omega
  have HM := Lib.hid hmb
  clear hmb
  have F := EE.out.f61
  go_enter F, Tryd.ntmps61
  go_wp2
  go_loopg [14, 15] (m - a) (fun g1 vi vj wr => ∃ (i j : Nat), vi = .int .i64 i ∧ vj = .int .i64 j ∧ a ≤ i ∧ i ≤ c ∧ c ≤ j ∧ j ≤ m ∧ j - i ≤ g1 ∧ Aside (SWK enc kc w0 blk off d wr))
  case atStart => exact ⟨a, m, rfl, rfl, by omega, by omega, by omega, by omega, by omega, S0⟩
  case round =>
    clear S0
    obtain ⟨i, j, rfl, rfl, hi1, hi2, hj1, hj2, hg1, SJ⟩ := hrel
    by_cases hlt : i < j
    · have hltz : (i : Int) < (j : Int) := by omega
      obtain ⟨h, hh⟩ : ∃ h : Nat, h = (i + j) / 2 := ⟨_, rfl⟩
      have hz : ((i : Int) + (j : Int)) / 2 = (h : Int) := by omega
      have hh1 : i ≤ h := by omega
      have hh2 : h < j := by omega
      clear hh
      have ba1 : (h : Int) < (len : Int) := by omega
      have ba2 : (m : Int) < (len : Int) := by omega
      have pa1 : (0 : Int) ≤ (h : Int) := by omega
      have pa2 : (0 : Int) ≤ (m : Int) := by omega
      obtain ⟨x, hx⟩ : ∃ x, x = d[m]! := ⟨_, rfl⟩
      obtain ⟨y, hy⟩ : ∃ x, x = d[h]! := ⟨_, rfl⟩
      have hv := C3.out h (by omega) (by omega)
      have hv' : decide (cf x y < 0) = !decide (h < c) := by rw [hx, hy, ← hv, Bool.not_not]; rfl
      clear hv
      have la := SJ.out.ld RR.out (by rw [HL.out, HS.out]) P m (by rw [HL.out]; omega)
      have lb := SJ.out.ld RR.out (by rw [HL.out, HS.out]) P h (by rw [HL.out]; omega)
      rw [← hx] at la
      rw [← hy] at lb
      have hc := SJ.out.cmp HC.out HL.out x y
      clear hx hy
      by_cases hcc : h < c
      · rw [decide_eq_true hcc, Bool.not_true] at hv'
        go_wp2_with fail
        go_quiet_grown (first | (go_at_fn g; refine Calls.grown_of (hc _ _)))
        have S2 : Aside (SWK enc kc w0 blk off d (grow (wr.drewN nq) osq)) := SJ.out.grown nq osq
        clear la lb hc SJ
        generalize grow (wr.drewN nq) osq = w2 at S2 ⊢
        clear nq osq
        go_wp2
        go_roundg (j - (h + 1))
        case measure => omega
        case rel => exact ⟨h + 1, j, by go_num, rfl, by omega, by omega, by omega, by omega, by omega, S2⟩
      · rw [decide_eq_false hcc, Bool.not_false] at hv'
        go_wp2_with fail
        go_quiet_grown (first | (go_at_fn g; refine Calls.grown_of (hc _ _)))
        have S2 : Aside (SWK enc kc w0 blk off d (grow (wr.drewN nq) osq)) := SJ.out.grown nq osq
        clear la lb hc SJ
        generalize grow (wr.drewN nq) osq = w2 at S2 ⊢
        clear nq osq
        go_wp2
        go_roundg (h - i)
        case measure => omega
        case rel => exact ⟨i, h, rfl, rfl, by omega, by omega, by omega, by omega, by omega, S2⟩
    · have hltz : ¬ (i : Int) < (j : Int) := by omega
      obtain rfl : i = c := by omega
      go_wp2
      go_loopg [17] (m - i) (fun g2 vk wr2 => ∃ (k : Nat) (dk : Array α), vk = .int .i64 k ∧ i ≤ k ∧ k ≤ m ∧ k - i ≤ g2 ∧ dk.size = len ∧ Aside (SWK enc kc w0 blk off dk wr2) ∧ Hid (Gd dk = Stb.dnF (Gd d) m k))
      case atStart => exact ⟨m, d, rfl, by omega, by omega, by omega, HL.out, SJ, (Stb.dn_zero _ _).symm⟩
      case round =>
        clear SJ
        obtain ⟨k, dj, rfl, hk1, hk2, hg2, hsj, S2, HO⟩ := hrel
        by_cases hkc : i < k
        · have hkz : (i : Int) < (k : Int) := by omega
          go_wp2_with fail
          obtain ⟨iN, hiN⟩ : ∃ q, q = k := ⟨_, rfl⟩
          obtain ⟨jN, hjN⟩ : ∃ q, q = k - 1 := ⟨_, rfl⟩
          have ea : ((k : Int)).toNat = iN := by omega
          have pa : (0 : Int) ≤ (k : Int) := by omega
          have ba : (k : Int) < (len : Int) := by omega
          have ra : IntKind.i64.wrap (k : Int) = (k : Int) := by rw [IntKind.wrap_i64]; omega
          have ec : ((k : Int) - 1).toNat = jN := by omega
          have pc : (0 : Int) ≤ (k : Int) - 1 := by omega
          have bc : (k : Int) - 1 < (len : Int) := by omega
          have rc : IntKind.i64.wrap ((k : Int) - 1) = (k : Int) - 1 := by rw [IntKind.wrap_i64]; omega
          obtain ⟨x, hx⟩ : ∃ x, x = dj[k]! := ⟨_, rfl⟩
          obtain ⟨y, hy⟩ : ∃ x, x = dj[k - 1]! := ⟨_, rfl⟩
          have S3 : Aside (SWK enc kc w0 blk off (swp dj k (k - 1)) ((wr.drew.setCells blk (off + iN * kc) (enc y)).setCells blk (off + jN * kc) (enc x))) := by rw [hiN, hjN, hx, hy]; exact S2.out.swapped RR.out k (k - 1) (by omega) (by omega)
          have l1 := S2.out.ld1 RR.out (by rw [hsj, HS.out]) P k (by omega)
          have l2 := S2.out.ld1 RR.out (by rw [hsj, HS.out]) P (k - 1) (by omega)
          have s1 := S2.out.st1 RR.out (by rw [hsj, HS.out]) P k (by omega) y
          have s2 := S2.out.st2 RR.out (by rw [hsj, HS.out]) P k (k - 1) (by omega) (by omega) y x
          have hsX : (enc x).length = kc := RR.out.hk _
          have hsY : (enc y).length = kc := RR.out.hk _
          rw [← hx, ← hiN] at l1
          rw [← hy, ← hjN] at l2
          rw [← hiN] at s1
          rw [← hjN, ← hiN] at s2
          obtain ⟨cX, hcX⟩ : ∃ c, c = enc x := ⟨_, rfl⟩
          obtain ⟨cY, hcY⟩ : ∃ c, c = enc y := ⟨_, rfl⟩
          rw [← hcX] at l1 hsX
          rw [← hcY] at l2 hsY s1
          rw [← hcX, ← hcY] at s2 S3
          have HSJ := Lib.hid hsj
          clear S2 hx hy hiN hjN hsj hcX hcY
          go_wp2_with fail
          go_big_region_o
          clear l1 l2 s1 s2
          generalize ((wr.drew.setCells blk (off + iN * kc) cY).setCells blk (off + jN * kc) cX) = w3 at S3 ⊢
          clear ea ec
          go_wp2
          go_roundg (k - 1 - i)
          case measure => omega
          case rel =>
            refine ⟨k - 1, swp dj k (k - 1), by go_num, by omega, by omega, by omega, by rw [size_swp]; exact HSJ.out, S3, (show Hid _ from ?_)⟩
            show _ = _
            have e := Stb.dn_step (Gd d) m (k - 1) (by omega)
            rw [show k - 1 + 1 = k from by omega] at e
            rw [Gd_swp _ _ _ (by rw [HSJ.out]; omega) (by rw [HSJ.out]; omega), HO.out, e]
        · have hkz : ¬ (i : Int) < (k : Int) := by omega
          go_wp2
          first | go_end0 | refine bodyPost_ret (results_none rfl _ _ _) rfl ?_
          exact ⟨rfl, dj, hsj, by rw [HO.out, show k = i from by omega]; exact MG0.out, S2.out⟩

end Go.Proofs.YtocjjfjcepflnaaDoor
