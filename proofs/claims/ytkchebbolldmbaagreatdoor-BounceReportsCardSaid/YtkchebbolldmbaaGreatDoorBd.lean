/-
  PROVED HERE: what FormatUint at base 10, num and Stamp of the program compute.
-/
import Derived.Test.YtkchebbolldmbaaGreatDoorBs
import Derived.Lib.AppendIntMem
import Derived.Shelf.Strconv.Itoa1
set_option linter.unusedVariables false
namespace Bnc
def num (n : Nat) : List UInt8 := Go.Lib.decDigits n
def st1 : List UInt8 := [82, 101, 99, 101, 105, 118, 101, 100, 58, 32, 102, 114, 111, 109, 32]
def st2 : List UInt8 := [32, 98, 121, 32]
def st3 : List UInt8 := [32, 105, 100, 32]
def st4 : List UInt8 := [59, 32]
def stamp (h g : List UInt8) (i n : Nat) : List UInt8 := st1 ++ shw g ++ st2 ++ shw h ++ st3 ++ num i ++ st4 ++ num n
end Bnc
namespace Go.Proofs.YtkchebbolldmbaaGreatDoor
open Go.RowKit Go.Sort
/-- The table of powers of ten lies. -/
abbrev Tabs (w : World) : Prop := Lib.TabIs Tryz.prog w "internal/strconv.uint64pow10" .u64 Lib.pow10Tab

set_option maxRecDepth 100000 in
set_option maxHeartbeats 6400000 in
theorem fmt_any (u : Nat) (hu64 : u < 18446744073709551616) (w : World) (htab : Tabs w) :
    Calls Tryz.prog 70 #[.int .u64 u, .int .i64 10] w fun e w' => e = .returned (.string ⟨(Lib.decDigits u).toArray⟩) ∧ Below w.heap.size w w' := by
  by_cases hs : u < 100
  · have hsz : (u : Int) < 100 := by omega
    have HS := Lib.hid (Tryz.internal_strconv_small u hs w)
    generalize Lib.decDigits u = D at *
    go_enter Tryz.func70, Tryz.ntmps70
    go_wp2_with fail
    refine HS.out.mono ?_
    rintro e w' ⟨rfl, rfl⟩
    go_wp2_with fail
    go_ret
    exact ⟨rfl, Below.refl _ _⟩
  · have hsz : ¬ (u : Int) < 100 := by omega
    have hu1 : 1 ≤ u := by omega
    have hnd20 : Lib.nDigits u ≤ 20 := by have := Lib.numDigits_eq u hu1 hu64; split at this <;> omega
    have hal : Tryz.prog.arrayLen 115 = 24 := by kernel_rfl
    have hsl1 : ∀ W, (Instr.sliceAt 115 (.pointer (some ⟨w.heap.size, 0, none⟩)) none (some (.int .i64 (Lib.nDigits u : Int))) none).run Tryz.prog W = .ok (.slice (some ⟨w.heap.size, 0, none⟩) (Lib.nDigits u) 24) W := fun W => by
      rw [run_sliceAt_array_h W 115 ⟨w.heap.size, 0, none⟩ (by simp [Program.arrayLen, Program.elem, Tryz.underlying115]) .i64 (Lib.nDigits u : Int) (by omega) (by rw [hal]; omega)]
      go_simp
    have hH0 := Lib.holds_zero0 w 115 (Lib.nDigits u) (by omega)
    have hfmt := Tryz.internal_strconv_formatBase10 w.heap.size 0 24 u (Array.replicate (Lib.nDigits u) 0) (w.alloc (.cells Lib.zeros24 115)) hH0 (by rw [Array.size_replicate]; exact Lib.lt_pow_nDigits u) hu64 (by rw [Array.size_replicate]; omega)
    rw [Array.size_replicate] at hfmt
    have HH0 := Lib.hid hH0
    have HND := Lib.hid (Tryz.internal_strconv_numDigits u hu1 hu64 (w.alloc (.cells Lib.zeros24 115)) (Lib.tabIs_alloc htab _))
    have HFM := Lib.hid hfmt
    clear hH0 hal hfmt htab
    go_enter Tryz.func70, Tryz.ntmps70
    go_wp2_with fail
    refine HND.out.mono ?_
    rintro e w' ⟨rfl, rfl⟩
    go_wp2_with fail
    refine HFM.out.mono ?_
    rintro e w' ⟨rfl, k, v', dk, rfl, hF⟩
    have hcv : (convert 75 9 (.slice (some ⟨w.heap.size, 0, none⟩) (Lib.nDigits u) 24)).run Tryz.prog ((putRow (fun (b : UInt8) => Value.int .u8 (b.toNat : Int)) (w.alloc (.cells Lib.zeros24 115)) w.heap.size 0 dk).drewN k) = .ok (.string ⟨(Lib.decDigits u).toArray⟩) ((putRow (fun (b : UInt8) => Value.int .u8 (b.toNat : Int)) (w.alloc (.cells Lib.zeros24 115)) w.heap.size 0 dk).drewN k) := by
      have h := run_convert_bytes_back (P := Tryz.prog) ((putRow (fun (b : UInt8) => Value.int .u8 (b.toNat : Int)) (w.alloc (.cells Lib.zeros24 115)) w.heap.size 0 dk).drewN k) 75 9 5 ⟨w.heap.size, 0, none⟩ 24 (Lib.decDigits u) Tryz.underlying75 Tryz.underlying5 Tryz.underlying9 (fun j hj => by
        rw [Lib.row_is_numeral hF j hj, Lib.add_plain, World.cell?_drewN]
        exact cell?_putRow (fun (b : UInt8) => Value.int .u8 (b.toNat : Int)) _ w.heap.size 0 _ dk HH0.out (by rw [hF.size, Array.size_replicate]) j (by rw [hF.size]; rw [Lib.decDigits_length] at hj; exact hj))
      rw [Lib.decDigits_length] at h
      exact h
    obtain ⟨os, eo⟩ := Lib.fin_at w (.cells Lib.zeros24 115) dk k 0
    have HBE : Hid (Below w.heap.size w ((putRow (fun (b : UInt8) => Value.int .u8 (b.toNat : Int)) (w.alloc (.cells Lib.zeros24 115)) w.heap.size 0 dk).drewN k)) := by
      show Below _ _ _
      rw [eo]
      exact Lib.below_grow _ _ (Nat.le_refl _) _ _
    clear eo hF
    generalize ((putRow (fun (b : UInt8) => Value.int .u8 (b.toNat : Int)) (w.alloc (.cells Lib.zeros24 115)) w.heap.size 0 dk).drewN k) = W at *
    go_wp2_with fail
    go_ret
    exact ⟨rfl, HBE.out⟩
set_option maxRecDepth 100000 in
theorem num_any (u : Nat) (hu64 : u < 18446744073709551616) (w : World) (htab : Tabs w) :
    Calls Tryz.prog 26 #[.int .u64 u] w fun e w' => e = .returned (.string ⟨(Bnc.num u).toArray⟩) ∧ Below w.heap.size w w' := by
  have HS := Lib.hid (fmt_any u hu64 w htab)
  have HN : Hid (Bnc.num u = Lib.decDigits u) := rfl
  generalize Lib.decDigits u = D at *
  generalize Bnc.num u = D2 at *
  obtain rfl := HN.out
  have HF : Hid (Calls Tryz.prog 53 #[.int .u64 u, .int .i64 10] w fun e w' => e = .returned (.string ⟨D2.toArray⟩) ∧ Below w.heap.size w w') := by
    show Calls _ _ _ _ _
    go_enter Tryz.func53, Tryz.ntmps53
    go_wp2_with fail
    refine HS.out.mono ?_
    rintro e w1 ⟨rfl, hb⟩
    have HB := Lib.hid hb
    clear hb
    go_wp2_with fail
    go_ret
    exact ⟨rfl, HB.out⟩
  go_enter Tryz.func26, Tryz.ntmps26
  go_wp2_with fail
  refine HF.out.mono ?_
  rintro e w1 ⟨rfl, hb⟩
  have HB := Lib.hid hb
  clear hb
  go_wp2_with fail
  go_ret
  exact ⟨rfl, HB.out⟩
theorem tabs_below {w w1 : World} (h : Tabs w) (g : Below w.heap.size w w1) : Tabs w1 := by
  have hgn : Tryz.prog.globalNamed "internal/strconv.uint64pow10" = some 0 := by kernel_rfl
  unfold Tabs Lib.TabIs World.var? at h ⊢
  rw [hgn] at h ⊢
  simp only [Option.bind_some] at h ⊢
  have hlt : 0 < w.heap.size := by
    rcases Nat.lt_or_ge 0 w.heap.size with h' | h'
    · exact h'
    · rw [Array.getElem?_eq_none h'] at h; cases h
  rw [g.block 0 hlt]
  exact h
theorem num_len (u : Nat) (h : u < 18446744073709551616) : (Bnc.num u).length ≤ 20 := by
  unfold Bnc.num
  rw [Lib.decDigits_length]
  by_cases h1 : 1 ≤ u
  · have := Lib.numDigits_eq u h1 h
    split at this <;> omega
  · obtain rfl : u = 0 := by omega
    decide +kernel

set_option maxRecDepth 100000 in
set_option maxHeartbeats 2000000 in
theorem stamp_any (H G : ByteArray) (i n : Nat) (w : World) (hH : H.size < 4611686018427387904) (hG : G.size < 4611686018427387904) (hi : i < 18446744073709551616) (hn : n < 18446744073709551616) (htab : Tabs w) :
    Calls Tryz.prog 9 #[.string H, .string G, .int .u64 i, .int .u64 n] w fun e w' => e = .returned (.string ⟨(Bnc.stamp H.data.toList G.data.toList i n).toArray⟩) ∧ Below w.heap.size w w' := by
  have H1 := Lib.hid (shown_any G w hG)
  have H2 := Lib.hid (fun W => shown_any H W hH)
  have H3 := Lib.hid (fun (W : World) (h : Tabs W) => num_any i hi W h)
  have H4 := Lib.hid (fun (W : World) (h : Tabs W) => num_any n hn W h)
  have HT := Lib.hid htab
  have k1 := Bnc.shw_len2 G.data.toList
  have k2 := Bnc.shw_len2 H.data.toList
  have k3 := num_len i hi
  have k4 := num_len n hn
  have HV : Hid (Bnc.stamp H.data.toList G.data.toList i n = Bnc.st1 ++ Bnc.shw G.data.toList ++ Bnc.st2 ++ Bnc.shw H.data.toList ++ Bnc.st3 ++ Bnc.num i ++ Bnc.st4 ++ Bnc.num n) := rfl
  generalize Bnc.stamp H.data.toList G.data.toList i n = R at *
  generalize Bnc.shw G.data.toList = g at *
  generalize Bnc.shw H.data.toList = h at *
  generalize Bnc.num i = d1 at *
  generalize Bnc.num n = d2 at *
  clear htab
  go_enter Tryz.func9, Tryz.ntmps9
  go_wp2_with fail
  refine H1.out.mono ?_
  rintro e w1 ⟨rfl, hb1⟩
  have HB1 := Lib.hid hb1
  clear hb1
  go_wp2_with fail
  refine (H2.out w1).mono ?_
  rintro e w2 ⟨rfl, hb2⟩
  have HB2 := Lib.hid (HB1.out.trans (hb2.mono HB1.out.size))
  have HT2 := Lib.hid (tabs_below HT.out HB2.out)
  clear hb2
  go_wp2_with fail
  refine (H3.out w2 HT2.out).mono ?_
  rintro e w3 ⟨rfl, hb3⟩
  have HB3 := Lib.hid (HB2.out.trans (hb3.mono HB2.out.size))
  have HT3 := Lib.hid (tabs_below HT.out HB3.out)
  clear hb3
  go_wp2_with fail
  refine (H4.out w3 HT3.out).mono ?_
  rintro e w4 ⟨rfl, hb4⟩
  have HB4 := Lib.hid (HB3.out.trans (hb4.mono HB3.out.size))
  clear hb4
  go_wp2_with fail
  go_ret
  refine ⟨?_, HB4.out⟩
  rw [HV.out]
  simp only [← mk_append]
  rfl
end Go.Proofs.YtkchebbolldmbaaGreatDoor
