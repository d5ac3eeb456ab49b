/-
  PROVED HERE: BounceEnds of the statements answers true.
-/
import Derived.Test.YtkchebbolldmbaaDoorBx
set_option linter.unusedVariables false
namespace Go.Proofs.YtkchebbolldmbaaDoor
open Go.RowKit
/-- What is known behind the entry: the entry that came in, what is written back, its recipient. -/
structure Ez (w : World) (x : En) (B gb : Nat) (st : Int) (W : World) : Prop where
  a : Ex w w.heap.size x W
  b : Ex w B (bkE x gb) W
  k : W.heap[gb]? = some (.cells (bkA x.fl x.fd st) 35 (0, 0))
theorem ez_next {w W W1 : World} {x : En} {B gb : Nat} {st : Int} (h : Ez w x B gb st W) (g : Below W.heap.size W W1) : Ez w x B gb st W1 :=
  ⟨ex_next h.a g, ex_next h.b g, (g.block gb (Array.getElem?_eq_some_iff.1 h.k).1).trans h.k⟩
theorem ez_new {w W : World} {x : En} {gb : Nat} (h : Ex w w.heap.size x W) (hk : W.heap[gb]? = some (.cells (bkA x.fl x.fd 0) 35 (0, 0))) : Ez w x W.heap.size gb 0 (W.alloc (.cells (enA (bkE x gb)) 27)) := by
  have hb := (Below.refl W.heap.size W).alloc (Nat.le_refl _) (.cells (enA (bkE x gb)) 27)
  exact ⟨ex_next h hb, ex_new h.bel (bkE x gb), (hb.block gb (Array.getElem?_eq_some_iff.1 hk).1).trans hk⟩
theorem ez_put {w W : World} {x : En} {B gb : Nat} {s0 : Int} (h : Ez w x B gb s0 W) (h1 : gb ≠ w.heap.size) (h2 : gb ≠ B) (h3 : w.heap.size ≤ gb) (st : Int) : Ez w x B gb st (W.setCell ⟨gb, 2, none⟩ (.int .i64 st)) := by
  refine ⟨ex_other h.a h1 h3 _, ex_other h.b h2 h3 _, ?_⟩
  have q := Joins.block_setCell (i := 2) h.k (.int .i64 st)
  exact q
theorem ez_tos {w W : World} {x : En} {B gb : Nat} {st : Int} (h : Ez w x B gb st W) : Tos W (bkE x gb).A (bkE x gb).n (fun _ => ⟨x.fl, x.fd, st⟩) := fun k hk => by
  obtain rfl : k = 0 := by have : k < 1 := hk; omega
  exact ⟨gb, 0, rfl, ⟨by rw [Lib.cell_of_heap h.k]; rfl, by rw [Lib.cell_of_heap h.k]; rfl⟩, by rw [Lib.cell_of_heap h.k]; rfl⟩
theorem repV_empty (h : List UInt8) (l : List Bxp) : repV h [] [] l = .tuple #[.string ⟨#[]⟩, .int .i64 10] := if_pos (Or.inl ⟨rfl, rfl⟩)

set_option maxRecDepth 100000 in
set_option maxHeartbeats 8000000 in
theorem ends_law (T : ByteArray) (x : En) (g : Nat → To3) (st : Int) (m : Int) (w : World) (hm : w.cell? ⟨1, 0, none⟩ = some (.int .i64 m)) (htab : Tabs w) (hT : Tos w x.A x.n g) :
    Calls Tryd.prog 4 #[.string T, .agg (enA x), .int .i64 st] w fun e w' => e = .returned (.bool true) ∧ Below w.heap.size w w' := by
  have HM := Lib.hid (fun (W : World) (h : Below w.heap.size w W) => (show W.cell? ⟨1, 0, none⟩ = some (.int .i64 m) from by rw [h.cell (World.block_lt_of_cell? _ _ hm)]; exact hm))
  have HTS := Lib.hid (fun (W : World) (h : Below w.heap.size w W) => tos_below hT h)
  have H0 := Lib.hid (ex_new (Below.refl w.heap.size w) x)
  have HA := Lib.hid (awake_any m _ (HM.out _ H0.out.bel) (tabs_below htab H0.out.bel))
  have HL := Lib.hid (fun (W : World) (h : Below w.heap.size w W) => large_any x g W (HTS.out W h))
  have HREP : Hid (T.size ≤ 4096 → x.n ≤ 30 → x.fl.length ≤ 500 → x.fd.length ≤ 500 → (∀ k, k < x.n → (g k).lo.length ≤ 500 ∧ (g k).dm.length ≤ 500) → ∀ (W : World), Below w.heap.size w W → Calls Tryd.prog 9 #[.string T, .agg (enA x)] W fun e w' => e = .returned (repV T.data.toList x.fl x.fd (fls g x.n)) ∧ Below W.heap.size W w') := fun q1 q2 q3 q4 q5 W hb =>
    report_any T x g m W (HTS.out W hb) (by omega) (by omega) (by omega) (fun k hk => ⟨by have := (q5 k hk).1; omega, by have := (q5 k hk).2; omega⟩) (by omega) (HM.out W hb)
  have HRC := Lib.hid (fun (q : x.n ≤ 30) => repV_cases T.data.toList x.fl x.fd (fls g x.n) (by have := fls_len g x.n; omega))
  have HNO := Lib.hid (fun (q : x.n ≤ 30) (W : World) (hb : Below w.heap.size w W) => entry_no x g W (HTS.out W hb) (by omega))
  have HYES := Lib.hid (fun (q : x.n ≤ 30) (W : World) (hb : Below w.heap.size w W) => entry_yes x g W (HTS.out W hb) (by omega))
  have HRE : Hid (T.size ≤ 4096 → x.fl.length ≤ 500 → x.fd.length ≤ 500 → ∀ (B gb : Nat) (W : World), Ez w x B gb st W → Calls Tryd.prog 9 #[.string T, .agg (enA (bkE x gb))] W fun e w' => e = .returned (.tuple #[.string ⟨#[]⟩, .int .i64 10]) ∧ Ez w x B gb st w') := fun q1 q2 q3 B gb W h =>
    (report_any T (bkE x gb) _ m W (ez_tos h) (show 1 ≤ 1000 by omega) (show 0 < 4294967281 by omega) (show 0 < 4294967281 by omega) (fun k hk => ⟨show x.fl.length < 4294967281 by omega, show x.fd.length < 4294967281 by omega⟩) (by omega) (HM.out W h.a.bel)).mono fun e w' ⟨h1, h2⟩ => ⟨by rw [h1]; exact congrArg Ending.returned (repV_empty _ _), ez_next h h2⟩
  have HNE : Hid (∀ (B gb : Nat) (W : World), Ez w x B gb st W → Calls Tryd.prog 12 #[.agg (enA (bkE x gb))] W fun e w' => e = .returned (.tuple #[.agg (enA enZ), .bool false]) ∧ Ez w x B gb st w') := fun B gb W h =>
    (entry_no (bkE x gb) _ W (ez_tos h) (show 1 ≤ 1000000 by omega) (Or.inl ⟨rfl, rfl⟩)).mono fun e w' ⟨h1, h2⟩ => ⟨h1, ez_next h h2⟩
  have q24 := fun W => eql24 ⟨x.fl.toArray⟩ ⟨x.fd.toArray⟩ ⟨x.fl.toArray⟩ ⟨x.fd.toArray⟩ W
  have g24 := gua24
  clear hm htab hT
  obtain ⟨id, dom, ep, ct, fl, fd, A, n, c, born, next, tries⟩ := x
  simp only [] at *
  go_enter Tryd.func4, Tryd.ntmps4
  go_wp2_with fail
  refine HA.out.mono ?_
  rintro e w1 ⟨rfl, hb1⟩
  have E1 := Lib.hid (ex_next H0.out hb1)
  clear hb1 HA H0
  obtain ⟨c0, c1, c2, c3, c4, c5, c6, c7, c8, c9⟩ := ex_cells E1.out
  go_wp2_with fail
  refine (HL.out w1 E1.out.bel).mono ?_
  rintro e w2 ⟨hr, hb2⟩
  have E2 := Lib.hid (ex_next E1.out hb2)
  clear hb2 HL c0 c1 c2 c3 c4 c5 c6 c7 c8 c9 E1
  rcases hr with rfl | ⟨rfl, hbd⟩
  · go_wp2_with fail
    go_ret
    exact ⟨rfl, E2.out.bel⟩
  obtain ⟨hn, h5, h6, h7⟩ := hbd.out
  clear hbd
  by_cases hTs : 4096 < T.size
  · have hTz : (4096 : Int) < (T.size : Int) := by omega
    clear HREP HRC h7
    go_wp2_with fail
    go_ret
    exact ⟨rfl, E2.out.bel⟩
  have hTz : ¬ (4096 : Int) < (T.size : Int) := by omega
  have HRP := Lib.hid (HREP.out (by omega) hn h5 h6 h7 w2 E2.out.bel)
  have HRC2 := Lib.hid (HRC.out hn)
  have HRE2 := Lib.hid (HRE.out (by omega) h5 h6)
  have HNO2 := Lib.hid (HNO.out hn)
  have HYES2 := Lib.hid (HYES.out hn)
  clear HREP HRC HRE HNO HYES h5 h6 h7
  obtain ⟨c0, c1, c2, c3, c4, c5, c6, c7, c8, c9⟩ := ex_cells E2.out
  go_wp2_with fail
  refine HRP.out.mono ?_
  rintro e w3 ⟨rfl, hb3⟩
  have E3 := Lib.hid (ex_next E2.out hb3)
  clear hb3 HRP c0 c1 c2 c3 c4 c5 c6 c7 c8 c9 E2
  obtain ⟨V, hV⟩ : ∃ V, V = repV T.data.toList fl fd (fls g n) := ⟨_, rfl⟩
  have HR3 := HRC2.out
  rw [← hV] at HR3 ⊢
  clear HRC2 hV
  obtain ⟨c0, c1, c2, c3, c4, c5, c6, c7, c8, c9⟩ := ex_cells E3.out
  rcases HR3 with ⟨rfl, hno⟩ | ⟨rfl, h1, h2⟩ | ⟨R, rfl, ⟨h1, h2⟩, ⟨hRl, _⟩, hhp⟩
  · have HC := Lib.hid (HNO2.out w3 E3.out.bel hno)
    clear hno HNO2 HYES2
    go_wp2_with fail
    refine HC.out.mono ?_
    rintro e w4 ⟨rfl, hb4⟩
    have HB4 := Lib.hid (E3.out.bel.trans (hb4.mono E3.out.bel.size))
    have HB5 := Lib.hid (HB4.out.alloc HB4.out.size (.cells (enA ⟨0, [], 0, 0, [], [], none, 0, 0, 0, 0, 0⟩) 27))
    clear hb4 HC c0 c1 c2 c3 c4 c5 c6 c7 c8 c9 E3
    unfold enZ
    go_wp2_with fail
    go_ret
    exact ⟨rfl, HB5.out⟩
  · have HC := Lib.hid (HYES2.out w3 E3.out.bel h1 h2)
    clear h1 h2 HNO2 HYES2
    go_wp2_with fail
    refine HC.out.mono ?_
    rintro e w4 ⟨⟨gb, rfl, hg, hk⟩, hb4⟩
    have hgb : gb < w4.heap.size := (Array.getElem?_eq_some_iff.1 hk).1
    have hsz := E3.out.bel.size
    have hlt := (Array.getElem?_eq_some_iff.1 E3.out.kp).1
    have Z5 := Lib.hid (ez_new (ex_next E3.out hb4) hk)
    have n1 : gb ≠ w.heap.size := by omega
    have n2 : gb ≠ w4.heap.size := by omega
    have n3 : w.heap.size ≤ gb := by omega
    have HZ6 := Lib.hid (ez_put Z5.out n1 n2 n3 st)
    have d6 := (ex_cells Z5.out.b).2.2.2.2.2.2.1
    have k2 : (w4.alloc (.cells (enA (bkE ⟨id, dom, ep, ct, fl, fd, A, n, c, born, next, tries⟩ gb)) 27)).cell? ⟨gb, 2, none⟩ = some (.int .i64 0) := by rw [Lib.cell_of_heap Z5.out.k]; rfl
    have kf : (w4.alloc (.cells (enA (bkE ⟨id, dom, ep, ct, fl, fd, A, n, c, born, next, tries⟩ gb)) 27)).frozen? ⟨gb, 2, none⟩ = false := Lib.frozen_of_heap Z5.out.k 2
    obtain ⟨a0, a1, a2, a3, a4, a5, a6, a7, a8, a9⟩ := ex_cells HZ6.out.b
    clear hb4 HC c0 c1 c2 c3 c4 c5 c6 c7 c8 c9 E3 hk hg hsz hlt hgb
    clear n1 n2 n3
    go_wp2_with fail
    refine (HRE2.out _ gb _ HZ6.out).mono ?_
    rintro e w6 ⟨rfl, hz6⟩
    have Z6 := Lib.hid hz6
    clear hz6 HZ6 HRE2 Z5 a0 a1 a2 a3 a4 a5 a6 a7 a8 a9 d6 k2 kf
    obtain ⟨a0, a1, a2, a3, a4, a5, a6, a7, a8, a9⟩ := ex_cells Z6.out.b
    go_wp2_with fail
    refine (HNE.out _ gb _ Z6.out).mono ?_
    rintro e w7 ⟨rfl, hz7⟩
    have Z8 := Lib.hid (ez_next hz7 ((Below.refl _ _).alloc (Nat.le_refl _) (.cells (enA ⟨0, [], 0, 0, [], [], none, 0, 0, 0, 0, 0⟩) 27)))
    clear hz7 Z6 HNE a0 a1 a2 a3 a4 a5 a6 a7 a8 a9
    have a6 := (ex_cells Z8.out.b).2.2.2.2.2.2.1
    have e4 := (ex_cells Z8.out.a).2.2.2.2.1
    have e5 := (ex_cells Z8.out.a).2.2.2.2.2.1
    have r0 : (w7.alloc (.cells (enA ⟨0, [], 0, 0, [], [], none, 0, 0, 0, 0, 0⟩) 27)).cell? ⟨gb, 0, none⟩ = some (.string ⟨fl.toArray⟩) := by rw [Lib.cell_of_heap Z8.out.k]; rfl
    have r1 : (w7.alloc (.cells (enA ⟨0, [], 0, 0, [], [], none, 0, 0, 0, 0, 0⟩) 27)).cell? ⟨gb, 1, none⟩ = some (.string ⟨fd.toArray⟩) := by rw [Lib.cell_of_heap Z8.out.k]; rfl
    simp only [enZ] at *
    go_wp2_with fail
    go_quiet (fail)
    go_wp2
    go_ret
    exact ⟨rfl, below_drewN Z8.out.a.bel _⟩
  · have HC := Lib.hid (HYES2.out w3 E3.out.bel h1 h2)
    clear h1 h2 HNO2 HYES2
    go_wp2_with fail
    refine HC.out.mono ?_
    rintro e w4 ⟨⟨gb, rfl, hg, hk⟩, hb4⟩
    have hgb : gb < w4.heap.size := (Array.getElem?_eq_some_iff.1 hk).1
    have hsz := E3.out.bel.size
    have hlt := (Array.getElem?_eq_some_iff.1 E3.out.kp).1
    have Z5 := Lib.hid (ez_new (ex_next E3.out hb4) hk)
    have n1 : gb ≠ w.heap.size := by omega
    have n2 : gb ≠ w4.heap.size := by omega
    have n3 : w.heap.size ≤ gb := by omega
    have HHP := Lib.hid (hops_any ⟨R.toArray⟩ m _ (by rw [size_mk]; omega) (HM.out _ Z5.out.a.bel))
    simp only [] at HHP
    rw [hhp] at HHP
    clear hb4 HC c0 c1 c2 c3 c4 c5 c6 c7 c8 c9 E3 hk hg hsz hlt hgb
    have N1 := Lib.hid n1
    have N2 := Lib.hid n2
    have N3 := Lib.hid n3
    clear n1 n2 n3
    go_wp2_with fail
    refine HHP.out.mono ?_
    rintro e w55 ⟨rfl, hb55⟩
    have Z55 := Lib.hid (ez_next Z5.out hb55)
    clear hb55 HHP Z5
    have Z5 := Z55
    clear Z55
    have n1 := N1.out
    have n2 := N2.out
    have n3 := N3.out
    have HZ6 := Lib.hid (ez_put Z5.out n1 n2 n3 st)
    have d6 := (ex_cells Z5.out.b).2.2.2.2.2.2.1
    have k2 : (w55).cell? ⟨gb, 2, none⟩ = some (.int .i64 0) := by rw [Lib.cell_of_heap Z5.out.k]; rfl
    have kf : (w55).frozen? ⟨gb, 2, none⟩ = false := Lib.frozen_of_heap Z5.out.k 2
    obtain ⟨a0, a1, a2, a3, a4, a5, a6, a7, a8, a9⟩ := ex_cells HZ6.out.b
    clear n1 n2 n3 N1 N2 N3
    go_wp2_with fail
    refine (HRE2.out _ gb _ HZ6.out).mono ?_
    rintro e w6 ⟨rfl, hz6⟩
    have Z6 := Lib.hid hz6
    clear hz6 HZ6 HRE2 Z5 a0 a1 a2 a3 a4 a5 a6 a7 a8 a9 d6 k2 kf
    obtain ⟨a0, a1, a2, a3, a4, a5, a6, a7, a8, a9⟩ := ex_cells Z6.out.b
    go_wp2_with fail
    refine (HNE.out _ gb _ Z6.out).mono ?_
    rintro e w7 ⟨rfl, hz7⟩
    have Z8 := Lib.hid (ez_next hz7 ((Below.refl _ _).alloc (Nat.le_refl _) (.cells (enA ⟨0, [], 0, 0, [], [], none, 0, 0, 0, 0, 0⟩) 27)))
    clear hz7 Z6 HNE a0 a1 a2 a3 a4 a5 a6 a7 a8 a9
    have a6 := (ex_cells Z8.out.b).2.2.2.2.2.2.1
    have e4 := (ex_cells Z8.out.a).2.2.2.2.1
    have e5 := (ex_cells Z8.out.a).2.2.2.2.2.1
    have r0 : (w7.alloc (.cells (enA ⟨0, [], 0, 0, [], [], none, 0, 0, 0, 0, 0⟩) 27)).cell? ⟨gb, 0, none⟩ = some (.string ⟨fl.toArray⟩) := by rw [Lib.cell_of_heap Z8.out.k]; rfl
    have r1 : (w7.alloc (.cells (enA ⟨0, [], 0, 0, [], [], none, 0, 0, 0, 0, 0⟩) 27)).cell? ⟨gb, 1, none⟩ = some (.string ⟨fd.toArray⟩) := by rw [Lib.cell_of_heap Z8.out.k]; rfl
    simp only [enZ] at *
    go_wp2_with fail
    go_quiet (fail)
    go_wp2
    go_ret
    exact ⟨rfl, below_drewN Z8.out.a.bel _⟩
theorem bounceEnds_any (m : Int) (T : List UInt8) (x : En) (g : Nat → To3) (st : Int) (w : World) (hm : w.cell? ⟨1, 0, none⟩ = some (.int .i64 m)) (htab : Tabs w) (_ : T.length ≤ maxLen) (hT : Tos w x.A x.n g) (_ : (Lit.int .i64 st).wf = true) :
    Calls Tryd.prog 4 #[.string ⟨T.toArray⟩, .agg (enA x), .int .i64 st] w fun e w' => e = .returned (.bool true) ∧ Below w.heap.size w w' := ends_law ⟨T.toArray⟩ x g st m w hm htab hT
end Go.Proofs.YtkchebbolldmbaaDoor
