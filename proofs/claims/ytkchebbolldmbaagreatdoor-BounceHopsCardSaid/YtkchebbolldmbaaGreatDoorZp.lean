/-
  PROVED HERE: what num and Stamp of the answer compute.
-/
import Derived.Test.YtkchebbolldmbaaGreatDoorZn
set_option linter.unusedVariables false
namespace Go.Proofs.YtkchebbolldmbaaGreatDoor
open Go.RowKit Go.Sort
theorem dec_two (u : Nat) (h : 10 ≤ u) : Lib.decDigits u = Lib.decDigits (u / 10) ++ Lib.decDigits (u % 10) := by
  rw [Lib.decDigits, dif_neg (by omega), Lib.decDigits_one (Nat.mod_lt u (by omega))]

set_option maxRecDepth 100000 in
set_option maxHeartbeats 2000000 in
theorem rnum_any (u : Nat) (hu : u < 18446744073709551616) (w : World) :
    Calls Tryz.prog 28 #[.int .u64 u] w fun e w' => e = .returned (.string ⟨(Bnc.num u).toArray⟩) ∧ Below w.heap.size w w' := by
  by_cases h : u < 4611686018427387904
  · have hz : (u : Int) < 4611686018427387904 := by omega
    have HN := Lib.hid (rnum10_any u (by omega) w)
    have u1 : IntKind.i64.wrap (u : Int) = (u : Int) := by rw [IntKind.wrap_i64]; omega
    clear hu h
    go_enter Tryz.func28, Tryz.ntmps28
    go_wp2_with fail
    refine HN.out.mono ?_
    rintro e w1 ⟨rfl, hb⟩
    have HB := Lib.hid hb
    clear hb
    go_wp2_with fail
    go_ret
    exact ⟨rfl, HB.out⟩
  · have hz : ¬ (u : Int) < 4611686018427387904 := by omega
    have HD : Hid (Bnc.num u = Lib.decDigits (u / 10) ++ Lib.decDigits (u % 10)) := dec_two u (by omega)
    obtain ⟨q, hq⟩ : ∃ q, q = u / 10 := ⟨_, rfl⟩
    obtain ⟨r, hr⟩ : ∃ r, r = u % 10 := ⟨_, rfl⟩
    have hq63 : q < 4611686018427387904 := by omega
    have hr10 : r < 10 := by omega
    have HN1 := Lib.hid (rnum10_any q (by omega) w)
    have HN2 := Lib.hid (fun W => rnum10_any r (by omega) W)
    have u0b : (u : Int).tdiv 10 = (q : Int) := by rw [Int.tdiv_eq_ediv_of_nonneg (by omega)]; omega
    have u0c : IntKind.u64.wrap (q : Int) = (q : Int) := by first | (rw [IntKind.wrap_u64]; omega) | (simp [IntKind.wrap]; omega)
    have u0 : IntKind.i64.wrap (q : Int) = (q : Int) := by rw [IntKind.wrap_i64]; omega
    have u1b : (u : Int).tmod 10 = (r : Int) := by rw [Int.tmod_eq_emod_of_nonneg (by omega)]; omega
    have u1d : IntKind.u64.wrap (r : Int) = (r : Int) := by first | (rw [IntKind.wrap_u64]; omega) | (simp [IntKind.wrap]; omega)
    have u1 : IntKind.i64.wrap (r : Int) = (r : Int) := by rw [IntKind.wrap_i64]; omega
    have hDl : ¬ 9223372036854775807 < (Lib.decDigits q).length + (Lib.decDigits r).length := by
      have z := num_len q (by omega)
      have z2 := num_len r (by omega)
      unfold Bnc.num at z z2
      omega
    rw [← hq, ← hr] at HD
    generalize Lib.decDigits q = D at *
    generalize Lib.decDigits r = D2 at *
    clear hq hr hq63 hr10 h hu
    go_enter Tryz.func28, Tryz.ntmps28
    go_wp2_with fail
    refine HN1.out.mono ?_
    rintro e w1 ⟨rfl, hb⟩
    have HB := Lib.hid hb
    clear hb
    go_wp2_with fail
    refine (HN2.out w1).mono ?_
    rintro e w2 ⟨rfl, hb⟩
    have HB2 := Lib.hid (HB.out.trans (hb.mono HB.out.size))
    clear hb
    go_wp2_with fail
    go_ret
    exact ⟨congrArg (fun z => Ending.returned (Value.string z)) ((mk_append D D2).trans (by rw [HD.out])), HB2.out⟩

set_option maxRecDepth 100000 in
set_option maxHeartbeats 2000000 in
theorem rstamp_any (H G : ByteArray) (i n : Nat) (w : World) (hH : H.size < 4611686018427387904) (hG : G.size < 4611686018427387904) (hi : i < 18446744073709551616) (hn : n < 18446744073709551616) :
    Calls Tryz.prog 10 #[.string H, .string G, .int .u64 i, .int .u64 n] w fun e w' => e = .returned (.string ⟨(Bnc.stamp H.data.toList G.data.toList i n).toArray⟩) ∧ Below w.heap.size w w' := by
  have H1 := Lib.hid (fun W => rshown_any G W hG)
  have H2 := Lib.hid (fun W => rshown_any H W hH)
  have H3 := Lib.hid (fun (W : World) => rnum_any i hi W)
  have H4 := Lib.hid (fun (W : World) => rnum_any n hn W)
  have k1 := Bnc.shw_len2 G.data.toList
  have k2 := Bnc.shw_len2 H.data.toList
  have k3 := num_len i hi
  have k4 := num_len n hn
  have HV : Hid (Bnc.stamp H.data.toList G.data.toList i n = Bnc.st1 ++ Bnc.shw G.data.toList ++ Bnc.st2 ++ Bnc.shw H.data.toList ++ Bnc.st3 ++ Bnc.num i ++ Bnc.st4 ++ Bnc.num n) := rfl
  generalize Bnc.stamp H.data.toList G.data.toList i n = R at *
  generalize Bnc.shw G.data.toList = g at *
  generalize Bnc.shw H.data.toList = h at *
  generalize Bnc.num i = d1 at *
  generalize Bnc.num n = d2 at *
  go_enter Tryz.func10, Tryz.ntmps10
  go_wp2_with fail
  refine (H1.out w).mono ?_
  rintro e w1 ⟨rfl, hb1⟩
  subst hb1
  go_wp2_with fail
  refine (H2.out _).mono ?_
  rintro e w2 ⟨rfl, hb2⟩
  subst hb2
  go_wp2_with fail
  refine (H3.out _).mono ?_
  rintro e w3 ⟨rfl, hb3⟩
  have HB3 := Lib.hid hb3
  clear hb3
  go_wp2_with fail
  refine (H4.out w3).mono ?_
  rintro e w4 ⟨rfl, hb4⟩
  have HB4 := Lib.hid (HB3.out.trans (hb4.mono HB3.out.size))
  clear hb4
  go_wp2_with fail
  go_ret
  refine ⟨?_, HB4.out⟩
  rw [HV.out]
  simp only [← mk_append]
  rfl
end Go.Proofs.YtkchebbolldmbaaGreatDoor
