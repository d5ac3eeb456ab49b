/-
  PROVED HERE: BounceBody and BounceStamps of the statements answer true.
-/
import Derived.Test.YtkchebbolldmbaaDoorBa
import Derived.Test.YtkchebbolldmbaaDoorBq
set_option linter.unusedVariables false
namespace Go.Proofs.YtkchebbolldmbaaDoor
open Go.RowKit
theorem app_data (a b : ByteArray) : (a ++ b).data.toList = a.data.toList ++ b.data.toList := by
  rw [ByteArray.data_append, Array.toList_append]

set_option maxRecDepth 100000 in
set_option maxHeartbeats 4000000 in
theorem body_law (T B : ByteArray) (m : Int) (w : World) (hm : w.cell? ⟨1, 0, none⟩ = some (.int .i64 m)) (htab : Tabs w) :
    Calls Tryd.prog 6 #[.string T, .string B] w fun e w' => e = .returned (.bool true) ∧ Below w.heap.size w w' := by
  have HA := Lib.hid (awake_any m w hm htab)
  have HM := Lib.hid hm
  obtain ⟨n, hn⟩ : ∃ n, n = Bnc.hops (T.data.toList ++ [13, 10]) := ⟨_, rfl⟩
  have e4 : (⟨#[13, 10, 13, 10]⟩ : ByteArray).data.toList = [13, 10, 13, 10] := rfl
  have e2 : (⟨#[13, 10]⟩ : ByteArray).data.toList = [13, 10] := rfl
  have s4 : (⟨#[13, 10, 13, 10]⟩ : ByteArray).size = 4 := rfl
  have s2 : (⟨#[13, 10]⟩ : ByteArray).size = 2 := rfl
  have C1 : Hid (T.size ≤ 2048 → B.size ≤ 2048 → ∀ W, Below w.heap.size w W → Calls Tryd.prog 13 #[.string (T ++ ⟨#[13, 10, 13, 10]⟩ ++ B)] W fun e w' => e = .returned (.int .i64 n) ∧ Below W.heap.size W w') := fun h1 h2 W hb => by
    have q := hops_any (T ++ ⟨#[13, 10, 13, 10]⟩ ++ B) m W (by rw [ByteArray.size_append, ByteArray.size_append, s4]; omega) (by rw [hb.cell (World.block_lt_of_cell? _ _ HM.out)]; exact HM.out)
    rw [app_data, app_data, e4, Bnc.hops_behind, ← hn] at q
    exact q
  have C2 : Hid (T.size ≤ 2048 → ∀ W, Below w.heap.size w W → Calls Tryd.prog 13 #[.string (T ++ ⟨#[13, 10, 13, 10]⟩)] W fun e w' => e = .returned (.int .i64 n) ∧ Below W.heap.size W w') := fun h1 W hb => by
    have q := hops_any (T ++ ⟨#[13, 10, 13, 10]⟩) m W (by rw [ByteArray.size_append, s4]; omega) (by rw [hb.cell (World.block_lt_of_cell? _ _ HM.out)]; exact HM.out)
    have z := Bnc.hops_behind T.data.toList []
    rw [List.append_nil] at z
    rw [app_data, e4, z, ← hn] at q
    exact q
  have C3 : Hid (T.size ≤ 2048 → ∀ W, Below w.heap.size w W → Calls Tryd.prog 13 #[.string (T ++ ⟨#[13, 10]⟩)] W fun e w' => e = .returned (.int .i64 n) ∧ Below W.heap.size W w') := fun h1 W hb => by
    have q := hops_any (T ++ ⟨#[13, 10]⟩) m W (by rw [ByteArray.size_append, s2]; omega) (by rw [hb.cell (World.block_lt_of_cell? _ _ HM.out)]; exact HM.out)
    rw [app_data, e2, ← hn] at q
    exact q
  clear hm htab hn e4 e2 s4 s2
  go_enter Tryd.func6, Tryd.ntmps6
  go_wp2_with fail
  refine HA.out.mono ?_
  rintro e w1 ⟨rfl, hb1⟩
  have HB1 := Lib.hid hb1
  clear hb1 HA
  by_cases hT : 2048 < T.size
  · have hTz : (2048 : Int) < (T.size : Int) := by omega
    go_wp2_with fail
    go_ret
    exact ⟨rfl, HB1.out⟩
  have hTz : ¬ (2048 : Int) < (T.size : Int) := by omega
  by_cases hB : 2048 < B.size
  · have hBz : (2048 : Int) < (B.size : Int) := by omega
    go_wp2_with fail
    go_ret
    exact ⟨rfl, HB1.out⟩
  have hBz : ¬ (2048 : Int) < (B.size : Int) := by omega
  have D1 := Lib.hid (C1.out (by omega) (by omega))
  have D2 := Lib.hid (C2.out (by omega))
  have D3 := Lib.hid (C3.out (by omega))
  clear C1 C2 C3
  go_wp2_with fail
  refine (D1.out w1 HB1.out).mono ?_
  rintro e w2 ⟨rfl, hb⟩
  have HB2 := Lib.hid (HB1.out.trans (hb.mono HB1.out.size))
  clear hb D1
  go_wp2_with fail
  refine (D2.out w2 HB2.out).mono ?_
  rintro e w3 ⟨rfl, hb⟩
  have HB3 := Lib.hid (HB2.out.trans (hb.mono HB2.out.size))
  clear hb
  go_wp2_with fail
  refine (D2.out w3 HB3.out).mono ?_
  rintro e w4 ⟨rfl, hb⟩
  have HB4 := Lib.hid (HB3.out.trans (hb.mono HB3.out.size))
  clear hb
  go_wp2_with fail
  refine (D3.out w4 HB4.out).mono ?_
  rintro e w5 ⟨rfl, hb⟩
  have HB5 := Lib.hid (HB4.out.trans (hb.mono HB4.out.size))
  clear hb
  go_wp2_with fail
  go_ret
  exact ⟨rfl, HB5.out⟩
theorem bounceBody_any (m : Int) (T B : List UInt8) (w : World) (hm : w.cell? ⟨1, 0, none⟩ = some (.int .i64 m)) (htab : Tabs w) (_ : T.length ≤ maxLen) (_ : B.length ≤ maxLen) :
    Calls Tryd.prog 6 #[.string ⟨T.toArray⟩, .string ⟨B.toArray⟩] w fun e w' => e = .returned (.bool true) ∧ Below w.heap.size w w' := body_law ⟨T.toArray⟩ ⟨B.toArray⟩ m w hm htab

theorem stamp_len (h g : List UInt8) (i n : Nat) (hi : i < 18446744073709551616) (hn : n < 18446744073709551616) : (Bnc.stamp h g i n).length ≤ 600 := by
  have k1 := Bnc.shw_len2 g
  have k2 := Bnc.shw_len2 h
  have k3 := num_len i hi
  have k4 := num_len n hn
  have a1 : Bnc.st1.length = 15 := rfl
  have a2 : Bnc.st2.length = 4 := rfl
  have a3 : Bnc.st3.length = 4 := rfl
  have a4 : Bnc.st4.length = 2 := rfl
  unfold Bnc.stamp
  simp only [List.length_append]
  omega

set_option maxRecDepth 100000 in
set_option maxHeartbeats 4000000 in
theorem stamps_law (T H G : ByteArray) (i n : Nat) (hi : i < 18446744073709551616) (hn : n < 18446744073709551616) (m : Int) (w : World) (hm : w.cell? ⟨1, 0, none⟩ = some (.int .i64 m)) (htab : Tabs w) :
    Calls Tryd.prog 5 #[.string T, .string H, .string G, .int .u64 i, .int .u64 n] w fun e w' => e = .returned (.bool true) ∧ Below w.heap.size w w' := by
  have HA := Lib.hid (awake_any m w hm htab)
  have HM := Lib.hid (fun (W : World) (h : Below w.heap.size w W) => (show W.cell? ⟨1, 0, none⟩ = some (.int .i64 m) from by rw [h.cell (World.block_lt_of_cell? _ _ hm)]; exact hm))
  have HTB := Lib.hid (fun (W : World) (h : Below w.heap.size w W) => tabs_below htab h)
  have e2 : (⟨#[13, 10]⟩ : ByteArray).data.toList = [13, 10] := rfl
  have s2 : (⟨#[13, 10]⟩ : ByteArray).size = 2 := rfl
  have CS : Hid (H.size ≤ 4096 → G.size ≤ 4096 → ∀ W, Below w.heap.size w W → Calls Tryd.prog 14 #[.string H, .string G, .int .u64 i, .int .u64 n] W fun e w' => e = .returned (.string ⟨(Bnc.stamp H.data.toList G.data.toList i n).toArray⟩) ∧ Below W.heap.size W w') := fun h1 h2 W hb => stamp_any H G i n W (by omega) (by omega) hi hn (HTB.out W hb)
  have hsl := stamp_len H.data.toList G.data.toList i n hi hn
  have E1 := Bnc.stamp_spl H.data.toList G.data.toList i n T.data.toList
  have E2 := Bnc.stamp_hops H.data.toList G.data.toList i n T.data.toList
  generalize Bnc.stamp H.data.toList G.data.toList i n = s at *
  obtain ⟨k, hk⟩ : ∃ k, k = Bnc.hops T.data.toList := ⟨_, rfl⟩
  rw [← hk] at E2
  have ed : (⟨s.toArray⟩ ++ ⟨#[13, 10]⟩ ++ T : ByteArray).data.toList = s ++ [13, 10] ++ T.data.toList := by rw [app_data, app_data, e2]
  have es : (⟨s.toArray⟩ ++ ⟨#[13, 10]⟩ ++ T : ByteArray).size = s.length + 2 + T.size := by rw [ByteArray.size_append, ByteArray.size_append, s2, size_mk]
  have hsz := Lib.size_eq T
  have hl := Lin.spl_len T.data.toList
  obtain ⟨L, hL⟩ : ∃ L, L = (Lin.spl T.data.toList).1 := ⟨_, rfl⟩
  obtain ⟨r, hr⟩ : ∃ r, r = (Lin.spl T.data.toList).2 := ⟨_, rfl⟩
  rw [← hL, ← hr] at E1 hl
  obtain ⟨N, hN⟩ : ∃ N, N = L.length := ⟨_, rfl⟩
  obtain ⟨N1, hN1⟩ : ∃ N1, N1 = L.length + 1 := ⟨_, rfl⟩
  obtain ⟨k1, hk1⟩ : ∃ k1, k1 = k + 1 := ⟨_, rfl⟩
  have C1 : Hid (T.size ≤ 4096 → ∀ W, Below w.heap.size w W → Calls Tryd.prog 15 #[.string (⟨s.toArray⟩ ++ ⟨#[13, 10]⟩ ++ T)] W fun e w' => (∃ A c, e = .returned (.tuple #[.slice A N1 c, .string ⟨r.toArray⟩]) ∧ Txs w' A (s :: L)) ∧ Below W.heap.size W w') := fun h1 W hb => by
    have q := rsplit_any (⟨s.toArray⟩ ++ ⟨#[13, 10]⟩ ++ T) W (by omega)
    rw [ed, E1] at q
    rw [hN1]
    exact q
  have C2 : Hid (T.size ≤ 4096 → ∀ W, Below w.heap.size w W → Calls Tryd.prog 15 #[.string T] W fun e w' => (∃ A c, e = .returned (.tuple #[.slice A N c, .string ⟨r.toArray⟩]) ∧ Txs w' A L) ∧ Below W.heap.size W w') := fun h1 W hb => by
    have q := rsplit_any T W (by omega)
    rw [← hL, ← hr] at q
    rw [hN]
    exact q
  have C3 : Hid (T.size ≤ 4096 → ∀ W, Below w.heap.size w W → Calls Tryd.prog 13 #[.string (⟨s.toArray⟩ ++ ⟨#[13, 10]⟩ ++ T)] W fun e w' => e = .returned (.int .i64 (k1 : Int)) ∧ Below W.heap.size W w') := fun h1 W hb => by
    have q := hops_any (⟨s.toArray⟩ ++ ⟨#[13, 10]⟩ ++ T) m W (by omega) (HM.out W hb)
    rw [ed, E2] at q
    rw [hk1]
    exact q
  have C4 : Hid (T.size ≤ 4096 → ∀ W, Below w.heap.size w W → Calls Tryd.prog 13 #[.string T] W fun e w' => e = .returned (.int .i64 (k : Int)) ∧ Below W.heap.size W w') := fun h1 W hb => by
    have q := hops_any T m W (by omega) (HM.out W hb)
    rw [← hk] at q
    exact q
  have hkT : k ≤ T.size := by
    have h1 : (Bnc.hdl (Bnc.lns T.data.toList)).length ≤ (Bnc.lns T.data.toList).length := Bnc.hdl_len _
    have h2 := Bnc.lns_len T.data.toList
    have h3 : k ≤ (Bnc.hdl (Bnc.lns T.data.toList)).length := by rw [hk]; exact List.length_filter_le _ _
    omega
  have hNl : N ≤ T.size := by omega
  have HN := Lib.hid hN
  have HN1 := Lib.hid hN1
  have HK1 := Lib.hid hk1
  clear hN hN1 hk1
  clear hm htab hk e2 s2 E1 E2 ed es hL hr hsz hl
  go_enter Tryd.func5, Tryd.ntmps5
  go_wp2_with fail
  refine HA.out.mono ?_
  rintro e w1 ⟨rfl, hb1⟩
  have HB1 := Lib.hid hb1
  clear hb1 HA
  by_cases hT : 4096 < T.size
  · have hTz : (4096 : Int) < (T.size : Int) := by omega
    go_wp2_with fail
    go_ret
    exact ⟨rfl, HB1.out⟩
  have hTz : ¬ (4096 : Int) < (T.size : Int) := by omega
  by_cases hH : 4096 < H.size
  · have hHz : (4096 : Int) < (H.size : Int) := by omega
    go_wp2_with fail
    go_ret
    exact ⟨rfl, HB1.out⟩
  have hHz : ¬ (4096 : Int) < (H.size : Int) := by omega
  by_cases hG : 4096 < G.size
  · have hGz : (4096 : Int) < (G.size : Int) := by omega
    go_wp2_with fail
    go_ret
    exact ⟨rfl, HB1.out⟩
  have hGz : ¬ (4096 : Int) < (G.size : Int) := by omega
  have D0 := Lib.hid (CS.out (by omega) (by omega))
  have D1 := Lib.hid (C1.out (by omega))
  have D2 := Lib.hid (C2.out (by omega))
  have D3 := Lib.hid (C3.out (by omega))
  have D4 := Lib.hid (C4.out (by omega))
  clear C1 C2 C3 C4 CS HM HTB
  go_wp2_with fail
  refine (D0.out w1 HB1.out).mono ?_
  rintro e w2 ⟨rfl, hb⟩
  have HB2 := Lib.hid (HB1.out.trans (hb.mono HB1.out.size))
  clear hb D0
  go_wp2_with fail
  refine (D1.out w2 HB2.out).mono ?_
  rintro e w3 ⟨⟨A1, c1, rfl, x1⟩, hb⟩
  have HB3 := Lib.hid (HB2.out.trans (hb.mono HB2.out.size))
  have X1 := Lib.hid x1
  clear hb D1 x1
  go_wp2_with fail
  refine (D2.out w3 HB3.out).mono ?_
  rintro e w4 ⟨⟨A2, c2, rfl, _⟩, hb⟩
  have HB4 := Lib.hid (HB3.out.trans (hb.mono HB3.out.size))
  have X4 := Lib.hid (txs_below X1.out hb)
  clear hb D2 X1
  obtain ⟨b, o, rfl, t0⟩ := X4.out 0 (by show 0 < L.length + 1; omega)
  have t1 : w4.cell? ⟨b, o, none⟩ = some (.string ⟨s.toArray⟩) := t0
  clear t0
  have u1 : IntKind.i64.wrap ((N : Int) + 1) = (N1 : Int) := by rw [IntKind.wrap_i64, HN1.out, HN.out]; have := HN.out; omega
  have u2 : IntKind.i64.wrap ((k : Int) + 1) = (k1 : Int) := by rw [IntKind.wrap_i64, HK1.out]; omega
  have u3 : (0 : Int) < (N1 : Int) := by have := HN1.out; omega
  clear hNl hkT
  go_wp2_with fail
  refine (D3.out w4 HB4.out).mono ?_
  rintro e w5 ⟨rfl, hb⟩
  have HB5 := Lib.hid (HB4.out.trans (hb.mono HB4.out.size))
  clear hb D3 t1 X4
  go_wp2_with fail
  refine (D4.out w5 HB5.out).mono ?_
  rintro e w6 ⟨rfl, hb⟩
  have HB6 := Lib.hid (HB5.out.trans (hb.mono HB5.out.size))
  clear hb D4
  go_wp2_with fail
  go_ret
  exact ⟨rfl, HB6.out⟩
theorem u64_nat {x : Int} (h : (Lit.int .u64 x).wf = true) : ∃ n : Nat, x = n ∧ n < 18446744073709551616 := by
  simp [Lit.wf, IntKind.min, IntKind.max, IntKind.signed, IntKind.bits] at h
  exact ⟨x.toNat, by omega, by omega⟩
theorem bounceStamps_any (m : Int) (T H G : List UInt8) (i n : Int) (w : World) (hm : w.cell? ⟨1, 0, none⟩ = some (.int .i64 m)) (htab : Tabs w) (_ : T.length ≤ maxLen) (_ : H.length ≤ maxLen) (_ : G.length ≤ maxLen) (hi : (Lit.int .u64 i).wf = true) (hn : (Lit.int .u64 n).wf = true) :
    Calls Tryd.prog 5 #[.string ⟨T.toArray⟩, .string ⟨H.toArray⟩, .string ⟨G.toArray⟩, .int .u64 i, .int .u64 n] w fun e w' => e = .returned (.bool true) ∧ Below w.heap.size w w' := by
  obtain ⟨a, rfl, ha⟩ := u64_nat hi
  obtain ⟨b, rfl, hb⟩ := u64_nat hn
  exact stamps_law ⟨T.toArray⟩ ⟨H.toArray⟩ ⟨G.toArray⟩ a b ha hb m w hm htab
end Go.Proofs.YtkchebbolldmbaaDoor
