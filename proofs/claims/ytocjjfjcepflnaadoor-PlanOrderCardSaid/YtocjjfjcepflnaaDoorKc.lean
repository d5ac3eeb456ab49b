/-
  PROVED HERE: what the library's swapRangeCmpFunc and rotateCmpFunc do to a row. Turned from worked proofs of the kit on the library's sort.
-/
import Derived.Test.YtocjjfjcepflnaaDoorKb
import Derived.Lib.Hide
namespace Go.Proofs.YtocjjfjcepflnaaDoor
open Go.Shelf Go.RowKit Go.Lib Go.Sort
variable {α : Type} [Inhabited α] {P : Program} {kc : Nat}

theorem swapRange_l (E : Env P kc) (enc : α → List Value) (fv : Value) (blk off cap a b n len : Nat) (ia ib ic : Int) (d0 d : Array α) (w0 w : World) (hl : d.size = len)
    (R : RowK enc kc w0 blk off d0) (hs : d0.size = len) (S : SWK enc kc w0 blk off d w) (h1 : ia = a) (h2 : ib = b) (h3 : ic = n) (hab : a + n ≤ b) (hb : b + n ≤ len) (hsz : len < 4611686018427387904) :
    Calls P 77 #[.slice (some ⟨blk, off, none⟩) len cap, .int .i64 ia, .int .i64 ib, .int .i64 ic, fv] w fun e w' => e = .returned (.tuple #[]) ∧ ∃ d' : Array α, d'.size = len ∧ Gd d' = Stb.srF (Gd d) a b n ∧ SWK enc kc w0 blk off d' w' := by
  subst hl
  exact swapRange_k E enc fv blk off cap a b n ia ib ic d0 d w0 w R hs S h1 h2 h3 hab hb hsz

set_option maxHeartbeats 800000 in
set_option maxRecDepth 1000000 in
theorem rotate_s (E : Env P kc) (enc : α → List Value) (fv : Value) (blk off cap a m b len : Nat) (ia im ib : Int) (d0 d : Array α) (w0 w : World) (hl : d.size = len)
    (R : RowK enc kc w0 blk off d0) (hs : d0.size = len) (S : SWK enc kc w0 blk off d w) (h1 : ia = a) (h2 : im = m) (h3 : ib = b) (ham : a < m) (hmb : m < b) (hb : b ≤ len) (hsz : len < 4611686018427387904) :
    Calls P 70 #[.slice (some ⟨blk, off, none⟩) len cap, .int .i64 ia, .int .i64 im, .int .i64 ib, fv] w fun e w' => e = .returned (.tuple #[]) ∧ ∃ d' : Array α, d'.size = len ∧ Gd d' = Stb.rotF (Gd d) a m b ∧ SWK enc kc w0 blk off d' w' := by
  have mixed := E.mixed; have t0 := E.t0; have a0 := E.a0; have z0 := E.z0; have v0 := E.v0; have t3 := E.t3; have a3 := E.a3; have z3 := E.z3; have v3 := E.v3; have t4 := E.t4; have a4 := E.a4; have z4 := E.z4; have v4 := E.v4
  have t72 := E.t72; have a72 := E.a72; have z72 := E.z72; have v72 := E.v72; have t77 := E.t77; have a77 := E.a77; have z77 := E.z77; have v77 := E.v77; have aE := E.aE; have zE := E.zE
  have u72 := run_underlying E.t72
  have t95 := E.t95; have a95 := E.a95; have z95 := E.z95; have v95 := E.v95; have u95 := run_underlying E.t95; have u3 := run_underlying E.t3
  have g77 := E.e77; have g70 := E.e70; have g61 := E.e61; have g60 := E.e60; have g51 := E.e51
  have EE : Aside (Env P kc) := E
  clear E
  have HDL := Lib.hid hl
  clear hl
  have S0 : Aside (SWK enc kc w0 blk off d w) := S
  clear S
  have RR : Aside (RowK enc kc w0 blk off d0) := R
  clear R
  have HL := Lib.hid hs
  clear hs
  subst h1 h2 h3
  have F := EE.out.f70
  go_enter F, Tryd.ntmps70
  go_wp2
  go_loopg [10, 11] (b - a) (fun g1 vi vj wr => ∃ (i j : Nat) (dk : Array α), vi = .int .i64 i ∧ vj = .int .i64 j ∧ 1 ≤ i ∧ 1 ≤ j ∧ a + i ≤ m ∧ m + j ≤ b ∧ i + j ≤ g1 ∧ dk.size = len ∧ Aside (SWK enc kc w0 blk off dk wr) ∧ Hid (Stb.rotF (Gd dk) (m - i) m (m + j) = Stb.rotF (Gd d) a m b))
  case atStart => exact ⟨m - a, b - m, d, by go_num, by go_num, by omega, by omega, by omega, by omega, by omega, HDL.out, S0, (show Hid _ from by show _ = _; rw [show m - (m - a) = a from by omega, show m + (b - m) = b from by omega])⟩
  case round =>
    clear S0
    obtain ⟨i, j, dj, rfl, rfl, hi1, hj1, hi, hj, hg1, hsj, S2, HO⟩ := hrel
    have HS := Lib.hid hsj
    clear hsj
    rcases Nat.lt_trichotomy i j with c | c | c
    · have c1 : (i : Int) < (j : Int) := by omega
      have c2 : ((i : Int) != (j : Int)) = true := by simp; omega
      go_wp2_with fail
      refine (swapRange_l EE.out enc _ blk off cap (m - i) (m + j - i) i len _ _ _ d0 dj w0 _ HS.out RR.out HL.out S2.out (by omega) (by omega) rfl (by omega) (by omega) (by omega)).mono ?_
      rintro e w1 ⟨rfl, d1, hd1, hG, S3⟩
      have S4 : Aside (SWK enc kc w0 blk off d1 w1) := S3
      have HG := Lib.hid hG
      have HD := Lib.hid hd1
      clear S2 S3 hG hd1
      go_wp2
      go_roundg (i + (j - i))
      case measure => omega
      case rel =>
        refine ⟨i, j - i, d1, rfl, by go_num, by omega, by omega, by omega, by omega, by omega, HD.out, S4, (show Hid _ from ?_)⟩
        show _ = _
        have e := Stb.rot_lt (Gd dj) (m - i) m (m + j) (by omega) (by omega)
        rw [show m - (m - i) = i from by omega] at e
        rw [HG.out, ← HO.out, ← e, show m + (j - i) = m + j - i from by omega]
    · subst c
      have c2 : ((i : Int) != (i : Int)) = false := by simp
      go_wp2_with fail
      refine (swapRange_l EE.out enc _ blk off cap (m - i) m i len _ _ _ d0 dj w0 _ HS.out RR.out HL.out S2.out (by omega) (by omega) rfl (by omega) (by omega) (by omega)).mono ?_
      rintro e w1 ⟨rfl, d1, hd1, hG, S3⟩
      have S4 : Aside (SWK enc kc w0 blk off d1 w1) := S3
      have HG := Lib.hid hG
      have HD := Lib.hid hd1
      clear S2 S3 hG hd1
      go_wp2
      go_end0
      refine ⟨rfl, d1, HD.out, ?_, S4.out⟩
      have e := Stb.rot_eq (Gd dj) (m - i) m (m + i) (by omega) (by omega) (by omega)
      rw [show m - (m - i) = i from by omega] at e
      rw [HG.out, ← HO.out, ← e]
    · have c1 : (j : Int) < (i : Int) := by omega
      have c2 : ((i : Int) != (j : Int)) = true := by simp; omega
      go_wp2_with fail
      refine (swapRange_l EE.out enc _ blk off cap (m - i) m j len _ _ _ d0 dj w0 _ HS.out RR.out HL.out S2.out (by omega) rfl rfl (by omega) (by omega) (by omega)).mono ?_
      rintro e w1 ⟨rfl, d1, hd1, hG, S3⟩
      have S4 : Aside (SWK enc kc w0 blk off d1 w1) := S3
      have HG := Lib.hid hG
      have HD := Lib.hid hd1
      clear S2 S3 hG hd1
      go_wp2
      go_roundg (i - j + j)
      case measure => omega
      case rel =>
        refine ⟨i - j, j, d1, by go_num, rfl, by omega, by omega, by omega, by omega, by omega, HD.out, S4, (show Hid _ from ?_)⟩
        show _ = _
        have e := Stb.rot_gt (Gd dj) (m - i) m (m + j) (by omega) (by omega)
        rw [show m + j - m = j from by omega] at e
        rw [HG.out, ← HO.out, ← e, show m - (i - j) = m - i + j from by omega]

end Go.Proofs.YtocjjfjcepflnaaDoor
