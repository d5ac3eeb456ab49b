/-
  PROVED HERE: what the library's swapRangeCmpFunc and rotateCmpFunc do to a row. Turned from worked proofs of the kit on the library's sort.
-/
import Derived.Test.YtpfcdpmpfgdnaaaSortA
import Derived.Test.YtpfcdpmpfgdnaaaStb
import Derived.Lib.Hide
namespace Go.Proofs.Ytpfcdpmpfgdnaaa
open Go.Shelf Go.RowKit Go.Lib Go.Sort
variable {α : Type} [Inhabited α]

/-- A row as a function of the place. -/
def Gd (d : Array α) : Nat → α := fun k => d[k]!
theorem get_set (d : Array α) (i k : Nat) (v : α) : (d.setIfInBounds i v)[k]! = if k = i ∧ i < d.size then v else d[k]! := by
  simp only [getElem!_def, Array.getElem?_setIfInBounds]
  by_cases h : i = k
  · subst h
    by_cases h2 : i < d.size
    · simp [h2]
    · simp [h2]
  · rw [if_neg h, if_neg (by omega)]
theorem Gd_swp (d : Array α) (i j : Nat) (hi : i < d.size) (hj : j < d.size) : Gd (swp d i j) = Stb.swF (Gd d) i j := by
  funext k
  unfold Gd Stb.swF swp
  rw [get_set, get_set]
  simp only [Array.size_setIfInBounds, hi, hj, and_true]
  by_cases h1 : k = j
  · rw [if_pos h1]
    by_cases h2 : k = i
    · rw [if_pos h2, show i = j from by omega]
    · rw [if_neg h2, if_pos h1]
  · rw [if_neg h1]
    by_cases h2 : k = i
    · rw [if_pos h2, if_pos h2]
    · rw [if_neg h2, if_neg h2, if_neg h1]
set_option maxHeartbeats 800000 in
set_option maxRecDepth 1000000 in
theorem swapRange_s (enc : α → Value) (fv : Value) (blk off cap a b n : Nat) (ia ib ic : Int) (d0 d : Array α) (w0 w : World)
    (R : Row1 enc w0 blk off d0) (hs : d0.size = d.size) (S : SW enc w0 blk off d w) (h1 : ia = a) (h2 : ib = b) (h3 : ic = n) (hab : a + n ≤ b) (hb : b + n ≤ d.size) (hsz : d.size < 4611686018427387904) :
    Calls Try.prog 45 #[.slice (some ⟨blk, off, none⟩) d.size cap, .int .i64 ia, .int .i64 ib, .int .i64 ic, fv] w fun e w' => e = .returned (.tuple #[]) ∧ ∃ d' : Array α, d'.size = d.size ∧ Gd d' = Stb.srF (Gd d) a b n ∧ SW enc w0 blk off d' w' := by
  have mixed : Try.prog.follows .mixedOrders = true := by kernel_rfl
  have hcl0 := R.hO.cells
  simp only [Value.cells] at hcl0
  have hst := R.hO.store Try.prog
  have S0 : Aside (SW enc w0 blk off d w) := S
  clear S
  subst h1 h2 h3
  go_enter Try.func45, Try.ntmps45
  go_wp2
  go_loopg [10] n (fun g1 vi wr => ∃ (i : Nat) (dk : Array α), vi = .int .i64 i ∧ i ≤ n ∧ n - i ≤ g1 ∧ dk.size = d.size ∧ Aside (SW enc w0 blk off dk wr) ∧ Hid (Gd dk = Stb.srF (Gd d) a b i))
  case atStart => exact ⟨0, d, rfl, by omega, by omega, rfl, S0, (Stb.sr_zero _ _ _).symm⟩
  case round =>
    clear S0
    obtain ⟨i, dj, rfl, hin, hg1, hsj, S2, HO⟩ := hrel
    by_cases hlt : i < n
    · have hltz : (i : Int) < (n : Int) := by omega
      go_wp2
      obtain ⟨iN, hiN⟩ : ∃ q, q = a + i := ⟨_, rfl⟩
      obtain ⟨jN, hjN⟩ : ∃ q, q = b + i := ⟨_, rfl⟩
      have ea : ((a : Int) + (i : Int)).toNat = iN := by omega
      have pa : (0 : Int) ≤ (a : Int) + (i : Int) := by omega
      have ba : (a : Int) + (i : Int) < (d.size : Int) := by omega
      have ra : IntKind.i64.wrap ((a : Int) + (i : Int)) = (a : Int) + (i : Int) := by rw [IntKind.wrap_i64]; omega
      have ec : ((b : Int) + (i : Int)).toNat = jN := by omega
      have pc : (0 : Int) ≤ (b : Int) + (i : Int) := by omega
      have bc : (b : Int) + (i : Int) < (d.size : Int) := by omega
      have rc : IntKind.i64.wrap ((b : Int) + (i : Int)) = (b : Int) + (i : Int) := by rw [IntKind.wrap_i64]; omega
      obtain ⟨x, hx⟩ : ∃ x, x = dj[a + i]! := ⟨_, rfl⟩
      obtain ⟨y, hy⟩ : ∃ x, x = dj[b + i]! := ⟨_, rfl⟩
      have S3 : Aside (SW enc w0 blk off (swp dj (a + i) (b + i)) ((wr.setCell ⟨blk, off + iN, none⟩ (enc y)).setCell ⟨blk, off + jN, none⟩ (enc x)).drew) := by rw [hiN, hjN, hx, hy]; exact S2.out.swapped R (a + i) (b + i) (by omega) (by omega)
      have ca := S2.out.c1 R (by omega) (a + i) (by omega)
      have cb := S2.out.c1 R (by omega) (b + i) (by omega)
      have fa := S2.out.f1 R (by omega) (a + i) (by omega)
      have fb := S2.out.f1 R (by omega) (b + i) (by omega)
      obtain ⟨u, cc⟩ := S2.out.c2 R (by omega) (a + i) (b + i) (by omega) (by omega) (enc y)
      rw [← hjN, ← hiN] at cc
      rw [← hx, ← hiN] at ca
      rw [← hy, ← hjN] at cb
      rw [← hiN] at fa
      rw [← hjN] at fb
      clear S2 hx hy hiN hjN
      go_wp2_with fail
      go_big_region_o
      clear ca cb cc fa fb
      generalize ((wr.setCell ⟨blk, off + iN, none⟩ (enc y)).setCell ⟨blk, off + jN, none⟩ (enc x)).drew = w3 at S3 ⊢
      clear ea ec
      go_wp2
      go_roundg (n - (i + 1))
      case measure => omega
      case rel => exact ⟨i + 1, swp dj (a + i) (b + i), by go_num, by omega, by omega, by rw [size_swp]; exact hsj, S3, (show Hid _ from by show _ = _; rw [Gd_swp _ _ _ (by omega) (by omega), HO.out, Stb.sr_step _ _ _ _ (by omega)])⟩
    · have hltz : ¬ (i : Int) < (n : Int) := by omega
      go_wp2
      go_end0
      exact ⟨rfl, dj, hsj, by rw [HO.out, show i = n from by omega], S2.out⟩

theorem swapRange_l (enc : α → Value) (fv : Value) (blk off cap a b n len : Nat) (ia ib ic : Int) (d0 d : Array α) (w0 w : World) (hl : d.size = len)
    (R : Row1 enc w0 blk off d0) (hs : d0.size = len) (S : SW enc w0 blk off d w) (h1 : ia = a) (h2 : ib = b) (h3 : ic = n) (hab : a + n ≤ b) (hb : b + n ≤ len) (hsz : len < 4611686018427387904) :
    Calls Try.prog 45 #[.slice (some ⟨blk, off, none⟩) len cap, .int .i64 ia, .int .i64 ib, .int .i64 ic, fv] w fun e w' => e = .returned (.tuple #[]) ∧ ∃ d' : Array α, d'.size = len ∧ Gd d' = Stb.srF (Gd d) a b n ∧ SW enc w0 blk off d' w' := by
  subst hl
  exact swapRange_s enc fv blk off cap a b n ia ib ic d0 d w0 w R hs S h1 h2 h3 hab hb hsz

set_option maxHeartbeats 800000 in
set_option maxRecDepth 1000000 in
theorem rotate_s (enc : α → Value) (fv : Value) (blk off cap a m b len : Nat) (ia im ib : Int) (d0 d : Array α) (w0 w : World) (hl : d.size = len)
    (R : Row1 enc w0 blk off d0) (hs : d0.size = len) (S : SW enc w0 blk off d w) (h1 : ia = a) (h2 : im = m) (h3 : ib = b) (ham : a < m) (hmb : m < b) (hb : b ≤ len) (hsz : len < 4611686018427387904) :
    Calls Try.prog 44 #[.slice (some ⟨blk, off, none⟩) len cap, .int .i64 ia, .int .i64 im, .int .i64 ib, fv] w fun e w' => e = .returned (.tuple #[]) ∧ ∃ d' : Array α, d'.size = len ∧ Gd d' = Stb.rotF (Gd d) a m b ∧ SW enc w0 blk off d' w' := by
  have HDL := Lib.hid hl
  clear hl
  have S0 : Aside (SW enc w0 blk off d w) := S
  clear S
  have RR : Aside (Row1 enc w0 blk off d0) := R
  clear R
  have HL := Lib.hid hs
  clear hs
  subst h1 h2 h3
  go_enter Try.func44, Try.ntmps44
  go_wp2
  go_loopg [10, 11] (b - a) (fun g1 vi vj wr => ∃ (i j : Nat) (dk : Array α), vi = .int .i64 i ∧ vj = .int .i64 j ∧ 1 ≤ i ∧ 1 ≤ j ∧ a + i ≤ m ∧ m + j ≤ b ∧ i + j ≤ g1 ∧ dk.size = len ∧ Aside (SW enc w0 blk off dk wr) ∧ Hid (Stb.rotF (Gd dk) (m - i) m (m + j) = Stb.rotF (Gd d) a m b))
  case atStart => exact ⟨m - a, b - m, d, by go_num, by go_num, by omega, by omega, by omega, by omega, by omega, HDL.out, S0, (show Hid _ from by show _ = _; rw [show m - (m - a) = a from by omega, show m + (b - m) = b from by omega])⟩
  case round =>
    clear S0
    obtain ⟨i, j, dj, rfl, rfl, hi1, hj1, hi, hj, hg1, hsj, S2, HO⟩ := hrel
    have HS := Lib.hid hsj
    clear hsj
    rcases Nat.lt_trichotomy i j with c | c | c
    · have c1 : (i : Int) < (j : Int) := by omega
      have c2 : ((i : Int) != (j : Int)) = true := by simp; omega
      go_wp2_with fail
      refine (swapRange_l enc _ blk off cap (m - i) (m + j - i) i len _ _ _ d0 dj w0 _ HS.out RR.out HL.out S2.out (by omega) (by omega) rfl (by omega) (by omega) (by omega)).mono ?_
      rintro e w1 ⟨rfl, d1, hd1, hG, S3⟩
      have S4 : Aside (SW enc w0 blk off d1 w1) := S3
      have HG := Lib.hid hG
      have HD := Lib.hid hd1
      clear S2 S3 hG hd1
      go_wp2
      go_roundg (i + (j - i))
      case measure => omega
      case rel =>
        refine ⟨i, j - i, d1, rfl, by go_num, by omega, by omega, by omega, by omega, by omega, HD.out, S4, (show Hid _ from ?_)⟩
        show _ = _
        have e := Stb.rot_lt (Gd dj) (m - i) m (m + j) (by omega) (by omega)
        rw [show m - (m - i) = i from by omega] at e
        rw [HG.out, ← HO.out, ← e, show m + (j - i) = m + j - i from by omega]
    · subst c
      have c2 : ((i : Int) != (i : Int)) = false := by simp
      go_wp2_with fail
      refine (swapRange_l enc _ blk off cap (m - i) m i len _ _ _ d0 dj w0 _ HS.out RR.out HL.out S2.out (by omega) (by omega) rfl (by omega) (by omega) (by omega)).mono ?_
      rintro e w1 ⟨rfl, d1, hd1, hG, S3⟩
      have S4 : Aside (SW enc w0 blk off d1 w1) := S3
      have HG := Lib.hid hG
      have HD := Lib.hid hd1
      clear S2 S3 hG hd1
      go_wp2
      go_end0
      refine ⟨rfl, d1, HD.out, ?_, S4.out⟩
      have e := Stb.rot_eq (Gd dj) (m - i) m (m + i) (by omega) (by omega) (by omega)
      rw [show m - (m - i) = i from by omega] at e
      rw [HG.out, ← HO.out, ← e]
    · have c1 : (j : Int) < (i : Int) := by omega
      have c2 : ((i : Int) != (j : Int)) = true := by simp; omega
      go_wp2_with fail
      refine (swapRange_l enc _ blk off cap (m - i) m j len _ _ _ d0 dj w0 _ HS.out RR.out HL.out S2.out (by omega) rfl rfl (by omega) (by omega) (by omega)).mono ?_
      rintro e w1 ⟨rfl, d1, hd1, hG, S3⟩
      have S4 : Aside (SW enc w0 blk off d1 w1) := S3
      have HG := Lib.hid hG
      have HD := Lib.hid hd1
      clear S2 S3 hG hd1
      go_wp2
      go_roundg (i - j + j)
      case measure => omega
      case rel =>
        refine ⟨i - j, j, d1, by go_num, rfl, by omega, by omega, by omega, by omega, by omega, HD.out, S4, (show Hid _ from ?_)⟩
        show _ = _
        have e := Stb.rot_gt (Gd dj) (m - i) m (m + j) (by omega) (by omega)
        rw [show m + j - m = j from by omega] at e
        rw [HG.out, ← HO.out, ← e, show m - (i - j) = m - i + j from by omega]

end Go.Proofs.Ytpfcdpmpfgdnaaa
