/-
  PROVED HERE: LineReads of the statements answers true (the walk).
-/
import Derived.Test.YtakhgoifgpdgiaaDoorTwo
set_option linter.unusedVariables false
namespace Go.Proofs.YtakhgoifgpdgiaaDoor
open Go.RowKit

/-- Bytes in memory, as integers. -/
def IsBytes (w : World) (a : Option Addr) (len : Nat) (zs : List Int) : Prop := ∀ k, k < len → ∃ b off, a = some ⟨b, off, none⟩ ∧ w.cell? ⟨b, off + k, none⟩ = some (.int .u8 (zs.getD k 0)) ∧ 0 ≤ zs.getD k 0 ∧ zs.getD k 0 < 256
theorem bytes_below {w w' : World} {a : Option Addr} {len : Nat} {zs : List Int} (h : IsBytes w a len zs) (hb : Below w.heap.size w w') : IsBytes w' a len zs := fun k hk => by
  obtain ⟨b, off, e, f, g⟩ := h k hk
  exact ⟨b, off, e, by rw [hb.cell (World.block_lt_of_cell? _ _ f)]; exact f, g⟩

set_option maxRecDepth 100000 in
set_option maxHeartbeats 8000000 in
theorem lineReads_any (m : Int) (n : Int) (A : Option Addr) (cap : Nat) (l : List (List UInt8)) (B : Option Addr) (la cap2 : Nat) (zs : List Int) (w : World) (hm : w.cell? ⟨0, 0, none⟩ = some (.int .i64 m)) (hn : (Lit.int .i64 n).wf = true) (hT : Txs w A l) (hx : ∀ x ∈ l, x.length ≤ reachBytes) (hl : l.length ≤ reachBytes) (hB : IsBytes w B la zs) :
    Calls Tryd.prog 4 #[.int .i64 n, .slice A l.length cap, .slice B la cap2] w fun e w' => e = .returned (.bool true) ∧ Below w.heap.size w w' := by
  have HW := Lib.hid (awake_at m w hm)
  have h0 : 0 < w.heap.size := World.block_lt_of_cell? _ _ hm
  have HT := Lib.hid hT
  have HX := Lib.hid hx
  have HL := Lib.hid hl
  have HB := Lib.hid hB
  have hrb : reachBytes = 140737488351232 := rfl
  have hlN : l.length ≤ 140737488351232 := by omega
  obtain ⟨N, hN⟩ : ∃ N, N = l.length := ⟨_, rfl⟩
  have HN := Lib.hid hN
  rw [← hN]
  clear hm hT hx hl hN hB hrb
  have HLG := Lib.hid (fun (W : World) (h : At m w W) => large_any A cap l W (at_txs h HT.out) HX.out HL.out)
  rw [← HN.out] at HLG
  cases hlg : lrg l with
  | true =>
    rw [hlg] at HLG
    go_enter Tryd.func4, Tryd.ntmps4
    go_wp2_with (first
      | (go_at_call 9; refine HW.out.mono ?_; rintro e w1 ⟨rfl, hb⟩; have HA := Lib.hid hb; clear hb)
      | (go_at_call 10; refine (HLG.out _ HA.out).mono ?_; rintro e w' ⟨rfl, rfl⟩))
    go_ret
    exact ⟨rfl, HA.out.below⟩
  | false =>
    rw [hlg] at HLG
    obtain ⟨hl1, hl2⟩ := lrg_false hlg
    have HL1 := Lib.hid hl1
    have HL2 := Lib.hid hl2
    have hn100 : N ≤ 100 := by rw [HN.out]; exact hl1
    clear hlg hl1 hl2 hlN
    by_cases hlow : n < 1
    · go_enter Tryd.func4, Tryd.ntmps4
      go_wp2_with (first
        | (go_at_call 9; refine HW.out.mono ?_; rintro e w1 ⟨rfl, hb⟩; have HA := Lib.hid hb; clear hb)
        | (go_at_call 10; refine (HLG.out _ HA.out).mono ?_; rintro e w' ⟨rfl, rfl⟩)
        | (go_at_call 22; refine (new_low n _ hlow).mono ?_; rintro e w' ⟨rfl, rfl⟩))
      go_ret
      exact ⟨rfl, HA.out.below⟩
    by_cases hhigh : 1000 < n
    · go_enter Tryd.func4, Tryd.ntmps4
      go_wp2_with (first
        | (go_at_call 9; refine HW.out.mono ?_; rintro e w1 ⟨rfl, hb⟩; have HA := Lib.hid hb; clear hb)
        | (go_at_call 10; refine (HLG.out _ HA.out).mono ?_; rintro e w' ⟨rfl, rfl⟩)
        | (go_at_call 22; refine (new_high n _ hhigh).mono ?_; rintro e w' ⟨rfl, rfl⟩))
      go_ret
      exact ⟨rfl, HA.out.below⟩
    have hn1 : 1 ≤ n := by omega
    have hn2 : n ≤ 1000 := by omega
    have HNEW := Lib.hid (fun W : World => new_in n W hn1 hn2)
    go_enter Tryd.func4, Tryd.ntmps4
    go_wp2_with (first
      | (go_at_call 9; refine HW.out.mono ?_; rintro e w1 ⟨rfl, hb⟩; have HA := Lib.hid hb; clear hb)
      | (go_at_call 10; refine (HLG.out _ HA.out).mono ?_; rintro e w' ⟨rfl, rfl⟩)
      | (go_at_call 22; refine (HNEW.out _).mono ?_; rintro e w' ⟨rfl, rfl⟩))
    have H2 := Lib.hid (two_new (n := n) HA.out)
    generalize w1.heap.size + 1 = c at H2 ⊢
    generalize w1.heap.size = b at H2 ⊢
    generalize (w1.alloc (.cells #[.int .i64 n, .string ⟨#[]⟩, .int .i64 0] 66)).alloc (.cells #[.int .i64 n, .string ⟨#[]⟩] 39) = w2 at H2 ⊢
    clear HLG HNEW HA HW
    go_loopw [36] (fun u wr => ∃ (k : Nat) (T : List UInt8), u = .int .i64 k ∧ k ≤ N ∧ Hid (Two m n w b c wr T T) ∧ Hid (T.length ≤ Lin.tot (l.take k))) (fun u _ => N - (intOf u).toNat)
    case atStart => exact ⟨0, [], rfl, Nat.zero_le _, H2, Nat.zero_le _⟩
    case round =>
      obtain ⟨k, T, rfl, hk, HK, HTL⟩ := hrel
      by_cases hlt : k < N
      · have hltz : (k : Int) < (N : Int) := by omega
        have hkl : k < l.length := by rw [← HN.out]; exact hlt
        obtain ⟨b1, o1, rfl, f1⟩ := (at_txs HK.out.at' HT.out) k hkl
        have HF := Lib.hid (fun (W : World) (h : At m w W) => (at_txs h HT.out) k hkl)
        have hts := tot_succ l k hkl
        have htl := tot_take_le l (k + 1)
        have hsum : T.length + (at' l k).length ≤ Lin.tot (l.take (k + 1)) := by
          have := HTL.out
          omega
        have hsum2 : T.length + (at' l k).length ≤ 4096 := by
          have := HL2.out
          omega
        have HSUM := Lib.hid hsum
        clear hts htl hsum hkl
        generalize at' l k = X at *
        have HADD := Lib.hid (two_add h0 HK.out X (by omega))
        have hg1 : ¬ 9223372036854775807 < T.length + X.length := by omega
        have hcat := mk_append T X
        go_wp2_with (go_at_call 23; refine HADD.out.mono ?_; rintro e w3 ⟨rfl, h3⟩; have HK3 := Lib.hid h3; clear h3)
        clear f1
        obtain ⟨d0, d1, g1⟩ := rrd_cells HK3.out.rr
        obtain ⟨b3, o3, q3, f3⟩ := HF.out _ HK3.out.at'
        cases q3
        go_big_region
        have HK4 := Lib.hid (two_grown (two_radd h0 HK3.out (T ++ X) 0) (Below.refl _ _).drew)
        rw [World.drewN_zero] at HK4
        generalize (w3.setCell ⟨c, 1, none⟩ (.string ⟨(T ++ X).toArray⟩)).drew = w4 at HK4 ⊢
        by_cases hask : k < la
        · have hasz : (k : Int) < (la : Int) := by omega
          obtain ⟨b4, o4, rfl, f4, z1, z2⟩ := (bytes_below HB.out HK4.out.at'.below) k hask
          generalize zs.getD k 0 = z at *
          go_wp2_with fail
          go_loopw [10] (fun u wr => ∃ (j : Nat) (U : List UInt8), u = .int .i64 j ∧ j ≤ 200 ∧ Hid (Two m n w b c wr U U) ∧ Hid (U.length ≤ Lin.tot (l.take (k + 1)))) (fun u _ => (intOf u).toNat)
          case atStart => exact ⟨(z % 4).toNat, T ++ X, by rw [Int.toNat_of_nonneg (by omega)], by omega, HK4, by show _ ≤ _; rw [List.length_append]; exact HSUM.out⟩
          case round =>
            obtain ⟨j, U, rfl, hj, HI, HUL⟩ := hrel
            have hUb : U.length < 4294967281 := by
              have h1 := HUL.out
              have h2 := tot_take_le l (k + 1)
              have h3 := HL2.out
              omega
            by_cases hj0 : 0 < j
            · have hjz : (0 : Int) < (j : Int) := by omega
              have HN1 := Lib.hid (fun (W : World) (h : Two m n w b c W U U) => two_next h0 h hUb)
              have HN2 := Lib.hid (fun (W : World) (V : List UInt8) (h : Two m n w b c W V U) => two_rnext h0 h hUb)
              have HLE := Lib.hid (Nat.le_trans (nxt_le n U) HUL.out)
              clear hUb
              unfold nxtV sV at HN1 HN2
              generalize (Lin.nxt n U).1 = y1 at *
              generalize (Lin.nxt n U).2.1 = y2 at *
              generalize (Lin.nxt n U).2.2.1 = y3 at *
              generalize (Lin.nxt n U).2.2.2 = y4 at *
              go_wp2_with (first
                | (go_at_call 24; refine (HN1.out _ HI.out).mono ?_; rintro e w5 ⟨rfl, h5⟩; have HI5 := Lib.hid h5; clear h5)
                | (go_at_call 25; refine (HN2.out _ _ HI5.out).mono ?_; rintro e w6 ⟨rfl, h6⟩; have HI6 := Lib.hid h6; clear h6))
              go_roundw
              case rel => exact ⟨j - 1, y4, by go_num, by omega, HI6, HLE⟩
              case measure => simp [intOf]; omega
            · obtain rfl : j = 0 := by omega
              have HLN := Lib.hid (fun q : Nat => (two_len (two_grown HI.out (below_drewN (Below.refl _ _) q))).mono fun e w' h => (⟨h.1, h.2.symm⟩ : e = _ ∧ w' = _))
              obtain ⟨d0, d1, g1⟩ := rrd_cells HI.out.rr
              have e1 : ((U.length : Int) == (U.length : Int)) = true := by simp
              have e2 : ((U.length : Int) != (U.length : Int)) = false := by simp
              go_wp2_with fail
              go_quiet ((go_at_call 26; exact Calls.quiet_of_same (HLN.out _)))
              go_wp2
              go_roundw
              case rel => exact ⟨k + 1, U, by go_num, by omega, two_grown HI.out (below_drewN (Below.refl _ _) _), HUL⟩
              case measure => simp [intOf]; omega
        · have hasz : ¬ (k : Int) < (la : Int) := by omega
          go_wp2_with fail
          go_loopw [10] (fun u wr => ∃ (j : Nat) (U : List UInt8), u = .int .i64 j ∧ j ≤ 200 ∧ Hid (Two m n w b c wr U U) ∧ Hid (U.length ≤ Lin.tot (l.take (k + 1)))) (fun u _ => (intOf u).toNat)
          case atStart => exact ⟨200, T ++ X, rfl, Nat.le_refl _, HK4, by show _ ≤ _; rw [List.length_append]; exact HSUM.out⟩
          case round =>
            obtain ⟨j, U, rfl, hj, HI, HUL⟩ := hrel
            have hUb : U.length < 4294967281 := by
              have h1 := HUL.out
              have h2 := tot_take_le l (k + 1)
              have h3 := HL2.out
              omega
            by_cases hj0 : 0 < j
            · have hjz : (0 : Int) < (j : Int) := by omega
              have HN1 := Lib.hid (fun (W : World) (h : Two m n w b c W U U) => two_next h0 h hUb)
              have HN2 := Lib.hid (fun (W : World) (V : List UInt8) (h : Two m n w b c W V U) => two_rnext h0 h hUb)
              have HLE := Lib.hid (Nat.le_trans (nxt_le n U) HUL.out)
              clear hUb
              unfold nxtV sV at HN1 HN2
              generalize (Lin.nxt n U).1 = y1 at *
              generalize (Lin.nxt n U).2.1 = y2 at *
              generalize (Lin.nxt n U).2.2.1 = y3 at *
              generalize (Lin.nxt n U).2.2.2 = y4 at *
              go_wp2_with (first
                | (go_at_call 24; refine (HN1.out _ HI.out).mono ?_; rintro e w5 ⟨rfl, h5⟩; have HI5 := Lib.hid h5; clear h5)
                | (go_at_call 25; refine (HN2.out _ _ HI5.out).mono ?_; rintro e w6 ⟨rfl, h6⟩; have HI6 := Lib.hid h6; clear h6))
              go_roundw
              case rel => exact ⟨j - 1, y4, by go_num, by omega, HI6, HLE⟩
              case measure => simp [intOf]; omega
            · obtain rfl : j = 0 := by omega
              have HLN := Lib.hid (fun q : Nat => (two_len (two_grown HI.out (below_drewN (Below.refl _ _) q))).mono fun e w' h => (⟨h.1, h.2.symm⟩ : e = _ ∧ w' = _))
              obtain ⟨d0, d1, g1⟩ := rrd_cells HI.out.rr
              have e1 : ((U.length : Int) == (U.length : Int)) = true := by simp
              have e2 : ((U.length : Int) != (U.length : Int)) = false := by simp
              go_wp2_with fail
              go_quiet ((go_at_call 26; exact Calls.quiet_of_same (HLN.out _)))
              go_wp2
              go_roundw
              case rel => exact ⟨k + 1, U, by go_num, by omega, two_grown HI.out (below_drewN (Below.refl _ _) _), HUL⟩
              case measure => simp [intOf]; omega
      · have hltz : ¬ (k : Int) < (N : Int) := by omega
        go_wp2_with fail
        go_ret
        exact ⟨rfl, HK.out.at'.below⟩
end Go.Proofs.YtakhgoifgpdgiaaDoor
