/-
  PROVED HERE: BounceHops of the statements answers true.
-/
import Derived.Test.YtkchebbolldmbaaGreatDoorZp
import Derived.Test.YtkchebbolldmbaaGreatDoorZh
import Derived.Test.YtkchebbolldmbaaGreatDoorBa
set_option linter.unusedVariables false
namespace Go.Proofs.YtkchebbolldmbaaGreatDoor
open Go.RowKit
theorem u64_nat {a : Int} (h : (Lit.int .u64 a).wf = true) : ∃ n : Nat, a = n ∧ n < 18446744073709551616 := by
  simp [Lit.wf, IntKind.min, IntKind.max, IntKind.signed, IntKind.bits] at h
  exact ⟨a.toNat, by omega, by omega⟩

set_option maxRecDepth 100000 in
set_option maxHeartbeats 4000000 in
theorem hops_law (T H G : ByteArray) (i n : Nat) (hi : i < 18446744073709551616) (hn : n < 18446744073709551616) (m : Int) (w : World) (hm : w.cell? ⟨3, 0, none⟩ = some (.int .i64 m)) (htab : Tabs w) :
    Calls Tryz.prog 3 #[.string T, .string H, .string G, .int .u64 i, .int .u64 n] w fun e w' => e = .returned (.bool true) ∧ Below w.heap.size w w' := by
  have HA := Lib.hid (awake_any m w hm htab)
  have HM := Lib.hid (fun (W : World) (h : Below w.heap.size w W) => (show W.cell? ⟨3, 0, none⟩ = some (.int .i64 m) from by rw [h.cell (World.block_lt_of_cell? _ _ hm)]; exact hm))
  have HTB := Lib.hid (fun (W : World) (h : Below w.heap.size w W) => tabs_below htab h)
  have CS : Hid (H.size ≤ 4096 → G.size ≤ 4096 → ∀ W, Below w.heap.size w W → Calls Tryz.prog 9 #[.string H, .string G, .int .u64 i, .int .u64 n] W fun e w' => e = .returned (.string ⟨(Bnc.stamp H.data.toList G.data.toList i n).toArray⟩) ∧ Below W.heap.size W w') := fun h1 h2 W hb => stamp_any H G i n W (by omega) (by omega) hi hn (HTB.out W hb)
  have CR : Hid (H.size ≤ 4096 → G.size ≤ 4096 → ∀ W, Calls Tryz.prog 10 #[.string H, .string G, .int .u64 i, .int .u64 n] W fun e w' => e = .returned (.string ⟨(Bnc.stamp H.data.toList G.data.toList i n).toArray⟩) ∧ Below W.heap.size W w') := fun h1 h2 W => rstamp_any H G i n W (by omega) (by omega) hi hn
  generalize Bnc.stamp H.data.toList G.data.toList i n = s at *
  obtain ⟨k, hk⟩ : ∃ k, k = Bnc.hops T.data.toList := ⟨_, rfl⟩
  have C1 : Hid (T.size ≤ 4096 → ∀ W, Below w.heap.size w W → Calls Tryz.prog 6 #[.string T] W fun e w' => e = .returned (.int .i64 (k : Int)) ∧ Below W.heap.size W w') := fun h1 W hb => by
    have q := hops_any T m W (by omega) (HM.out W hb)
    rw [← hk] at q
    exact q
  have C2 : Hid (T.size ≤ 4096 → ∀ W, Calls Tryz.prog 7 #[.string T] W fun e w' => e = .returned (.int .i64 (k : Int)) ∧ Below W.heap.size W w') := fun h1 W => by
    have q := rhops_any T W (by omega)
    rw [← hk] at q
    exact q
  have C3 : Hid (T.size ≤ 4096 → ∀ W, Below w.heap.size w W → Calls Tryz.prog 8 #[.string T] W fun e w' => e = .returned (.bool (decide (10 ≤ (k : Int)))) ∧ Below W.heap.size W w') := fun h1 W hb => by
    have q := loops_any T m W (by omega) (HM.out W hb)
    rw [← hk] at q
    exact q
  have hcmp : (decide (10 ≤ (k : Int)) == decide (10 ≤ (k : Int))) = true := beq_self_eq_true _
  clear hm htab hk HM HTB
  go_enter Tryz.func3, Tryz.ntmps3
  go_wp2_with fail
  refine HA.out.mono ?_
  rintro e w1 ⟨rfl, hb1⟩
  have HB1 := Lib.hid hb1
  clear hb1 HA
  by_cases hT : 4096 < T.size
  · have hTz : (4096 : Int) < (T.size : Int) := by omega
    go_wp2_with fail
    go_ret
    exact ⟨rfl, HB1.out⟩
  have hTz : ¬ (4096 : Int) < (T.size : Int) := by omega
  by_cases hH : 4096 < H.size
  · have hHz : (4096 : Int) < (H.size : Int) := by omega
    go_wp2_with fail
    go_ret
    exact ⟨rfl, HB1.out⟩
  have hHz : ¬ (4096 : Int) < (H.size : Int) := by omega
  by_cases hG : 4096 < G.size
  · have hGz : (4096 : Int) < (G.size : Int) := by omega
    go_wp2_with fail
    go_ret
    exact ⟨rfl, HB1.out⟩
  have hGz : ¬ (4096 : Int) < (G.size : Int) := by omega
  have D1 := Lib.hid (C1.out (by omega))
  have D2 := Lib.hid (C2.out (by omega))
  have D3 := Lib.hid (C3.out (by omega))
  have D4 := Lib.hid (CS.out (by omega) (by omega))
  have D5 := Lib.hid (CR.out (by omega) (by omega))
  clear C1 C2 C3 CS CR
  go_wp2_with fail
  refine (D1.out w1 HB1.out).mono ?_
  rintro e w2 ⟨rfl, hb⟩
  have HB2 := Lib.hid (HB1.out.trans (hb.mono HB1.out.size))
  clear hb D1
  go_wp2_with fail
  refine (D2.out w2).mono ?_
  rintro e w3 ⟨rfl, hb⟩
  have HB3 := Lib.hid (HB2.out.trans (hb.mono HB2.out.size))
  clear hb
  go_wp2_with fail
  refine (D3.out w3 HB3.out).mono ?_
  rintro e w4 ⟨rfl, hb⟩
  have HB4 := Lib.hid (HB3.out.trans (hb.mono HB3.out.size))
  clear hb
  go_wp2_with fail
  refine (D2.out w4).mono ?_
  rintro e w5 ⟨rfl, hb⟩
  have HB5 := Lib.hid (HB4.out.trans (hb.mono HB4.out.size))
  clear hb
  go_wp2_with fail
  refine (D4.out w5 HB5.out).mono ?_
  rintro e w6 ⟨rfl, hb⟩
  have HB6 := Lib.hid (HB5.out.trans (hb.mono HB5.out.size))
  clear hb
  go_wp2_with fail
  refine (D5.out w6).mono ?_
  rintro e w7 ⟨rfl, hb⟩
  have HB7 := Lib.hid (HB6.out.trans (hb.mono HB6.out.size))
  clear hb
  go_wp2_with fail
  go_ret
  exact ⟨rfl, HB7.out⟩
theorem bounceHops_any (m : Int) (T H G : List UInt8) (i n : Int) (w : World) (hm : w.cell? ⟨3, 0, none⟩ = some (.int .i64 m)) (htab : Tabs w) (_ : T.length ≤ maxLen) (_ : H.length ≤ maxLen) (_ : G.length ≤ maxLen) (hi : (Lit.int .u64 i).wf = true) (hn : (Lit.int .u64 n).wf = true) :
    Calls Tryz.prog 3 #[.string ⟨T.toArray⟩, .string ⟨H.toArray⟩, .string ⟨G.toArray⟩, .int .u64 i, .int .u64 n] w fun e w' => e = .returned (.bool true) ∧ Below w.heap.size w w' := by
  obtain ⟨a, rfl, ha⟩ := u64_nat hi
  obtain ⟨b, rfl, hb⟩ := u64_nat hn
  exact hops_law ⟨T.toArray⟩ ⟨H.toArray⟩ ⟨G.toArray⟩ a b ha hb m w hm htab
end Go.Proofs.YtkchebbolldmbaaGreatDoor
