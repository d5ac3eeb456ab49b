/-
  PROVED HERE: AddrBack answers true.
-/
import Derived.Test.YtifheakepegjcaaDoorWritesW
import Derived.Test.YtifheakepegjcaaDoorPlnB
set_option linter.unusedVariables false
namespace Go.Proofs.YtifheakepegjcaaDoor
open Go.RowKit
variable {m : Int} {w W W1 : World} {A : Nat} {x y : List UInt8}
theorem eq_same (a b : ByteArray) (w : World) : (binOp .eql 25 (.agg #[.string a, .string b]) (.agg #[.string a, .string b])).run Tryd.prog w = .ok (.bool true) w := by rw [eql25]; simp
theorem neq_same (a b : ByteArray) (w : World) : (binOp .neq 25 (.agg #[.string a, .string b]) (.agg #[.string a, .string b])).run Tryd.prog w = .ok (.bool false) w := by rw [neq25]; simp
theorem neq_some {c : List UInt8} (e : List UInt8) (h : c ≠ []) (w : World) : (binOp .neq 25 (.agg #[.string ⟨c.toArray⟩, .string ⟨e.toArray⟩]) (.agg #[.string ⟨#[]⟩, .string ⟨#[]⟩])).run Tryd.prog w = .ok (.bool true) w := by
  rw [neq25]
  have : ((⟨c.toArray⟩ : ByteArray).toList == (⟨#[]⟩ : ByteArray).toList) = false := by
    have h2 := str_beq c []
    rw [h2, beq_eq_false_iff_ne]
    exact h
  rw [this]
  rfl
/-- A mailbox's path, read with any text behind it. -/
theorem path_cases (l d : List UInt8) : (∃ P : List UInt8, pathV l d = .tuple #[.string ⟨P.toArray⟩, .int .i64 0] ∧ P.length ≤ 402 ∧ ∀ s, Adr.rdP (P ++ s) = some (l, d, s)) ∨ (pathV l d = .tuple #[.string ⟨#[]⟩, .int .i64 2] ∧ Adr.mayB l d = false) := by
  by_cases h : l = [] ∧ d = []
  · obtain ⟨rfl, rfl⟩ := h
    exact .inl ⟨[60, 62], by unfold pathV; rw [if_pos ⟨rfl, rfl⟩], by decide, fun s => rfl⟩
  · cases hm : Adr.mayB l d with
    | false => exact .inr ⟨by unfold pathV; rw [if_neg h, hm]; rfl, rfl⟩
    | true =>
      refine .inl ⟨60 :: (Adr.wrt l d ++ [62]), by unfold pathV; rw [if_neg h, hm]; rfl, ?_, fun s => ?_⟩
      · have := wrt_len hm
        simp only [List.length_cons, List.length_append, List.length_nil]
        omega
      · have := Adr.rdP_path hm s
        simpa using this
theorem read_of {T l d r : List UInt8} (h : Adr.rdP T = some (l, d, r)) : readV T = .tuple #[bxV l d, .string ⟨r.toArray⟩, .int .i64 0] := by unfold readV; rw [h]
theorem read_no {T : List UInt8} (h : Adr.rdP T = none) : readV T = .tuple #[bxV [] [], .string ⟨#[]⟩, .int .i64 2] := by unfold readV; rw [h]
theorem ends_at (k r : List UInt8) : (⟨(k ++ r).toArray⟩ : ByteArray).extract k.length (k ++ r).length = ⟨r.toArray⟩ := by
  have := drop_k (k ++ r) k.length
  rw [List.drop_left'] at this
  · exact this
  · rfl
theorem large_three_new (w : World) (T U V : List UInt8) (t : TypeId) :
    ((w.alloc (.cells #[.string ⟨T.toArray⟩, .string ⟨U.toArray⟩, .string ⟨V.toArray⟩] t)).cell? ⟨w.heap.size, 0, none⟩ = some (.string ⟨T.toArray⟩) ∧ (w.alloc (.cells #[.string ⟨T.toArray⟩, .string ⟨U.toArray⟩, .string ⟨V.toArray⟩] t)).cell? ⟨w.heap.size, 1, none⟩ = some (.string ⟨U.toArray⟩)) ∧
      (w.alloc (.cells #[.string ⟨T.toArray⟩, .string ⟨U.toArray⟩, .string ⟨V.toArray⟩] t)).cell? ⟨w.heap.size, 2, none⟩ = some (.string ⟨V.toArray⟩) := by
  rw [World.cell?_alloc_new, World.cell?_alloc_new, World.cell?_alloc_new]
  exact ⟨⟨rfl, rfl⟩, rfl⟩

set_option maxRecDepth 100000 in
set_option maxHeartbeats 4000000 in
theorem back_any (l d s : List UInt8) (m : Int) (w : World) (hl : l.length ≤ 9223372036854775807) (hd : d.length ≤ 9223372036854775807) (hs : s.length ≤ 9223372036854775807) (hm : w.cell? ⟨0, 0, none⟩ = some (.int .i64 m)) :
    Calls Tryd.prog 6 #[bxV l d, .string ⟨s.toArray⟩] w fun e w' => e = .returned (.bool true) ∧ Below w.heap.size w w' := by
  have H0 := Lib.hid (bx_first hm l d)
  have HW := Lib.hid (awake_bx H0.out)
  have HB := Lib.hid (fun (W : World) (b : Nat) (h : (W.cell? ⟨b, 0, none⟩ = some (.string ⟨l.toArray⟩) ∧ W.cell? ⟨b, 1, none⟩ = some (.string ⟨d.toArray⟩)) ∧ W.cell? ⟨b, 2, none⟩ = some (.string ⟨s.toArray⟩)) => large_three l d s b W hl hd hs h.1.1 h.1.2 h.2)
  clear hm
  cases hg : Adr.lgB [l, d, s] with
  | true =>
    rw [hg] at HB
    clear hg
    unfold bxV at *
    go_enter Tryd.func6, Tryd.ntmps6
    go_wp2_with fail
    refine HW.out.mono ?_
    rintro e w1 ⟨rfl, h1⟩
    have H1 := Lib.hid h1
    obtain ⟨⟨c1, f1⟩, c2, f2⟩ := bx_cells h1
    have H2 := Lib.hid (bx_alloc h1 (.cells #[.string ⟨l.toArray⟩, .string ⟨d.toArray⟩, .string ⟨s.toArray⟩] 9))
    have c3 := large_three_new w1 l d s 9
    clear h1
    go_wp2_with fail
    refine (HB.out _ _ c3).mono ?_
    rintro e w2 ⟨rfl, rfl⟩
    clear c1 f1 c2 f2 c3
    obtain ⟨⟨c1, f1⟩, c2, f2⟩ := bx_cells H2.out
    go_wp2_with fail
    go_ret
    exact ⟨rfl, H2.out.at'.below⟩
  | false =>
    rw [hg] at HB
    have hle := Adr.lg_no hg (T := l) (by simp)
    have hle2 := Adr.lg_no hg (T := d) (by simp)
    have hle3 := Adr.lg_no hg (T := s) (by simp)
    clear hg
    have hl' : l.length < 4294967281 := by omega
    have hd' : d.length < 4294967281 := by omega
    have CS := Lib.hid (fun (W : World) (h : Bx m w w.heap.size l d W) => bx_call h (read_any s m W (by omega) h.at'.cell))
    have q1 := eq_same
    have q2 := neq_same
    have q3 := gua25
    rcases path_cases l d with ⟨P, hP1, hP2, hP3⟩ | ⟨hP1, hP2⟩
    · cases hS : Adr.rdP s with
      | none =>
        have hPs : ∃ ps, P ++ s = ps := ⟨_, rfl⟩
        obtain ⟨ps, hps⟩ := hPs
        have y1 := mk_append P s
        have y2 : ¬ 9223372036854775807 < P.length + s.length := by omega
        have CP := Lib.hid (fun (W : World) (h : Bx m w w.heap.size l d W) => bx_call h (path_any l d m W hl' hd' h.at'.cell))
        have CR := Lib.hid (fun (W : World) (h : Bx m w w.heap.size l d W) => bx_call h (read_any ps m W (by rw [← hps, List.length_append]; omega) h.at'.cell))
        rw [read_of (by rw [← hps]; exact hP3 s)] at CR
        rw [hP1] at CP
        rw [hps] at y1
        clear hP1 hP2 hP3 hps
        rw [read_no hS] at CS
        clear hS
        clear hl hd hs hle hle2 hle3 hl' hd'
        unfold bxV at *
        go_enter Tryd.func6, Tryd.ntmps6
        go_wp2_with fail
        refine HW.out.mono ?_
        rintro e w1 ⟨rfl, h1⟩
        have H1 := Lib.hid h1
        obtain ⟨⟨c1, f1⟩, c2, f2⟩ := bx_cells h1
        have H2 := Lib.hid (bx_alloc h1 (.cells #[.string ⟨l.toArray⟩, .string ⟨d.toArray⟩, .string ⟨s.toArray⟩] 9))
        have c3 := large_three_new w1 l d s 9
        clear h1
        go_wp2_with fail
        refine (HB.out _ _ c3).mono ?_
        rintro e w2 ⟨rfl, rfl⟩
        clear c1 f1 c2 f2 c3
        obtain ⟨⟨c1, f1⟩, c2, f2⟩ := bx_cells H2.out
        go_wp2_with fail
        refine (CP.out _ H2.out).mono ?_
        rintro e w3 ⟨rfl, h3⟩
        have H3 := Lib.hid h3
        clear h3 c1 f1 c2 f2
        go_wp2_with fail
        refine (CR.out _ H3.out).mono ?_
        rintro e w4 ⟨rfl, h4⟩
        have H4 := Lib.hid (bx_alloc h4 (.cells #[.string ⟨l.toArray⟩, .string ⟨d.toArray⟩] 25))
        have B4 := Lib.hid (bx_new h4.at' l d)
        clear h4
        obtain ⟨⟨c1, f1⟩, c2, f2⟩ := bx_cells H4.out
        obtain ⟨⟨c3, f3⟩, c4, f4⟩ := bx_cells B4.out
        go_wp2_with fail
        refine (CS.out _ H4.out).mono ?_
        rintro e w5 ⟨rfl, h5⟩
        have B5 := Lib.hid (bx_new h5.at' [] [])
        obtain ⟨⟨a1, g1⟩, a2, g2⟩ := bx_cells B5.out
        clear h5
        go_wp2_with fail
        go_ret
        exact ⟨rfl, B5.out.at'.below⟩
      | some p =>
        obtain ⟨c, e, r⟩ := p
        rcases Adr.rdP_may hS with ⟨rfl, rfl⟩ | hmay
        · have hPs : ∃ ps, P ++ s = ps := ⟨_, rfl⟩
          obtain ⟨ps, hps⟩ := hPs
          have y1 := mk_append P s
          have y2 : ¬ 9223372036854775807 < P.length + s.length := by omega
          have CP := Lib.hid (fun (W : World) (h : Bx m w w.heap.size l d W) => bx_call h (path_any l d m W hl' hd' h.at'.cell))
          have CR := Lib.hid (fun (W : World) (h : Bx m w w.heap.size l d W) => bx_call h (read_any ps m W (by rw [← hps, List.length_append]; omega) h.at'.cell))
          rw [read_of (by rw [← hps]; exact hP3 s)] at CR
          rw [hP1] at CP
          rw [hps] at y1
          clear hP1 hP2 hP3 hps
          rw [read_of hS] at CS
          have CP2 := Lib.hid (fun (W : World) (h : At m w W) => path_any [] [] m W (by decide) (by decide) h.cell)
          have CQ := Lib.hid (fun (W : World) (h : At m w W) => parse_any [60, 62] m W (by decide) h.cell)
          rw [pv5] at CP2
          rw [parse_some (show Adr.rdP [60, 62] = some ([], [], []) from rfl)] at CQ
          obtain ⟨u, hu, k0, hk0⟩ := Adr.rdP_suf hS
          obtain ⟨k, hk, hkpos⟩ : ∃ k : List UInt8, s = k ++ r ∧ 0 < k.length := ⟨60 :: k0, by rw [hu, ← hk0]; rfl, by simp⟩
          clear hS hu hk0
          have n1 : (s.length : Int) = (k.length : Int) + (r.length : Int) := by rw [hk, List.length_append]; omega
          have z1 : ¬ (s.length : Int) ≤ (r.length : Int) := by omega
          have z2 : (s.length : Int) - (r.length : Int) = (k.length : Int) := by omega
          have z3 : k.length ≤ s.length := by omega
          have z4 : (k.length : Int) ≤ (s.length : Int) := by omega
          have z5 : (0 : Int) ≤ (k.length : Int) := by omega
          have z6 := ends_at k r
          rw [← hk] at z6
          have z7 : wrap64 (k.length : Int) = (k.length : Int) := by unfold wrap64; omega
          have z8 : ¬ s.length ≤ r.length := by omega
          clear n1 hk hkpos
          clear hl hd hs hle hle2 hle3 hl' hd'
          unfold bxV at *
          go_enter Tryd.func6, Tryd.ntmps6
          go_wp2_with fail
          refine HW.out.mono ?_
          rintro e w1 ⟨rfl, h1⟩
          have H1 := Lib.hid h1
          obtain ⟨⟨c1, f1⟩, c2, f2⟩ := bx_cells h1
          have H2 := Lib.hid (bx_alloc h1 (.cells #[.string ⟨l.toArray⟩, .string ⟨d.toArray⟩, .string ⟨s.toArray⟩] 9))
          have c3 := large_three_new w1 l d s 9
          clear h1
          go_wp2_with fail
          refine (HB.out _ _ c3).mono ?_
          rintro e w2 ⟨rfl, rfl⟩
          clear c1 f1 c2 f2 c3
          obtain ⟨⟨c1, f1⟩, c2, f2⟩ := bx_cells H2.out
          go_wp2_with fail
          refine (CP.out _ H2.out).mono ?_
          rintro e w3 ⟨rfl, h3⟩
          have H3 := Lib.hid h3
          clear h3 c1 f1 c2 f2
          go_wp2_with fail
          refine (CR.out _ H3.out).mono ?_
          rintro e w4 ⟨rfl, h4⟩
          have H4 := Lib.hid (bx_alloc h4 (.cells #[.string ⟨l.toArray⟩, .string ⟨d.toArray⟩] 25))
          have B4 := Lib.hid (bx_new h4.at' l d)
          clear h4
          obtain ⟨⟨c1, f1⟩, c2, f2⟩ := bx_cells H4.out
          obtain ⟨⟨c3, f3⟩, c4, f4⟩ := bx_cells B4.out
          go_wp2_with fail
          refine (CS.out _ H4.out).mono ?_
          rintro e w5 ⟨rfl, h5⟩
          have B5 := Lib.hid (bx_new h5.at' [] [])
          obtain ⟨⟨a1, g1⟩, a2, g2⟩ := bx_cells B5.out
          clear h5
          have B6 := B5
          go_wp2_with fail
          refine (CP2.out _ B6.out.at').mono ?_
          rintro e w7 ⟨rfl, h7⟩
          have B7 := Lib.hid (bx_next B6.out h7)
          clear h7 a1 g1 a2 g2
          go_wp2_with fail
          refine (CQ.out _ B7.out.at').mono ?_
          rintro e w8 ⟨rfl, h8⟩
          have B8 := Lib.hid (bx_alloc (bx_next B7.out h8) (.cells #[.string ⟨([] : List UInt8).toArray⟩, .string ⟨([] : List UInt8).toArray⟩] 25))
          have D8 := Lib.hid (bx_new (bx_next B7.out h8).at' [] [])
          obtain ⟨⟨a1, g1⟩, a2, g2⟩ := bx_cells B8.out
          obtain ⟨⟨a3, g3⟩, a4, g4⟩ := bx_cells D8.out
          clear h8
          go_wp2_with fail
          go_ret
          exact ⟨rfl, B8.out.at'.below⟩
        · have hPs : ∃ ps, P ++ s = ps := ⟨_, rfl⟩
          obtain ⟨ps, hps⟩ := hPs
          have y1 := mk_append P s
          have y2 : ¬ 9223372036854775807 < P.length + s.length := by omega
          have CP := Lib.hid (fun (W : World) (h : Bx m w w.heap.size l d W) => bx_call h (path_any l d m W hl' hd' h.at'.cell))
          have CR := Lib.hid (fun (W : World) (h : Bx m w w.heap.size l d W) => bx_call h (read_any ps m W (by rw [← hps, List.length_append]; omega) h.at'.cell))
          rw [read_of (by rw [← hps]; exact hP3 s)] at CR
          rw [hP1] at CP
          rw [hps] at y1
          clear hP1 hP2 hP3 hps
          rw [read_of hS] at CS
          rcases path_cases c e with ⟨Q, hQ1, hQ2, hQ3⟩ | ⟨_, hQ⟩
          case inr => rw [hQ] at hmay; cases hmay
          have CM2 := Lib.hid (fun (W : World) (h : At m w W) => may_any c e m W (by have := (Adr.may_len hmay).1; omega) (by have := (Adr.may_len hmay).2; omega) h.cell)
          have CP2 := Lib.hid (fun (W : World) (h : At m w W) => path_any c e m W (by have := (Adr.may_len hmay).1; omega) (by have := (Adr.may_len hmay).2; omega) h.cell)
          have CQ := Lib.hid (fun (W : World) (h : At m w W) => parse_any Q m W (by omega) h.cell)
          have q5 := neq_some e (Adr.local_ne (Adr.may_parts hmay).2.2)
          rw [hmay] at CM2
          rw [hQ1] at CP2
          rw [parse_some (by have := hQ3 []; rwa [List.append_nil] at this)] at CQ
          clear hQ1 hQ2 hQ3 hmay
          obtain ⟨u, hu, k0, hk0⟩ := Adr.rdP_suf hS
          obtain ⟨k, hk, hkpos⟩ : ∃ k : List UInt8, s = k ++ r ∧ 0 < k.length := ⟨60 :: k0, by rw [hu, ← hk0]; rfl, by simp⟩
          clear hS hu hk0
          have n1 : (s.length : Int) = (k.length : Int) + (r.length : Int) := by rw [hk, List.length_append]; omega
          have z1 : ¬ (s.length : Int) ≤ (r.length : Int) := by omega
          have z2 : (s.length : Int) - (r.length : Int) = (k.length : Int) := by omega
          have z3 : k.length ≤ s.length := by omega
          have z4 : (k.length : Int) ≤ (s.length : Int) := by omega
          have z5 : (0 : Int) ≤ (k.length : Int) := by omega
          have z6 := ends_at k r
          rw [← hk] at z6
          have z7 : wrap64 (k.length : Int) = (k.length : Int) := by unfold wrap64; omega
          have z8 : ¬ s.length ≤ r.length := by omega
          clear n1 hk hkpos
          clear hl hd hs hle hle2 hle3 hl' hd'
          unfold bxV at *
          go_enter Tryd.func6, Tryd.ntmps6
          go_wp2_with fail
          refine HW.out.mono ?_
          rintro e w1 ⟨rfl, h1⟩
          have H1 := Lib.hid h1
          obtain ⟨⟨c1, f1⟩, c2, f2⟩ := bx_cells h1
          have H2 := Lib.hid (bx_alloc h1 (.cells #[.string ⟨l.toArray⟩, .string ⟨d.toArray⟩, .string ⟨s.toArray⟩] 9))
          have c3 := large_three_new w1 l d s 9
          clear h1
          go_wp2_with fail
          refine (HB.out _ _ c3).mono ?_
          rintro e w2 ⟨rfl, rfl⟩
          clear c1 f1 c2 f2 c3
          obtain ⟨⟨c1, f1⟩, c2, f2⟩ := bx_cells H2.out
          go_wp2_with fail
          refine (CP.out _ H2.out).mono ?_
          rintro e w3 ⟨rfl, h3⟩
          have H3 := Lib.hid h3
          clear h3 c1 f1 c2 f2
          go_wp2_with fail
          refine (CR.out _ H3.out).mono ?_
          rintro e w4 ⟨rfl, h4⟩
          have H4 := Lib.hid (bx_alloc h4 (.cells #[.string ⟨l.toArray⟩, .string ⟨d.toArray⟩] 25))
          have B4 := Lib.hid (bx_new h4.at' l d)
          clear h4
          obtain ⟨⟨c1, f1⟩, c2, f2⟩ := bx_cells H4.out
          obtain ⟨⟨c3, f3⟩, c4, f4⟩ := bx_cells B4.out
          go_wp2_with fail
          refine (CS.out _ H4.out).mono ?_
          rintro e w5 ⟨rfl, h5⟩
          have B5 := Lib.hid (bx_new h5.at' c e)
          obtain ⟨⟨a1, g1⟩, a2, g2⟩ := bx_cells B5.out
          clear h5
          go_wp2_with fail
          refine (CM2.out _ B5.out.at').mono ?_
          rintro e w6 ⟨rfl, h6⟩
          have B6 := Lib.hid (bx_next B5.out h6)
          clear h6 a1 g1 a2 g2
          obtain ⟨⟨a1, g1⟩, a2, g2⟩ := bx_cells B6.out
          go_wp2_with fail
          refine (CP2.out _ B6.out.at').mono ?_
          rintro e w7 ⟨rfl, h7⟩
          have B7 := Lib.hid (bx_next B6.out h7)
          clear h7 a1 g1 a2 g2
          go_wp2_with fail
          refine (CQ.out _ B7.out.at').mono ?_
          rintro e w8 ⟨rfl, h8⟩
          have B8 := Lib.hid (bx_alloc (bx_next B7.out h8) (.cells #[.string ⟨(c : List UInt8).toArray⟩, .string ⟨(e : List UInt8).toArray⟩] 25))
          have D8 := Lib.hid (bx_new (bx_next B7.out h8).at' c e)
          obtain ⟨⟨a1, g1⟩, a2, g2⟩ := bx_cells B8.out
          obtain ⟨⟨a3, g3⟩, a4, g4⟩ := bx_cells D8.out
          clear h8
          go_wp2_with fail
          go_ret
          exact ⟨rfl, B8.out.at'.below⟩
    · cases hS : Adr.rdP s with
      | none =>
        have CP := Lib.hid (fun (W : World) (h : Bx m w w.heap.size l d W) => bx_call h (path_any l d m W hl' hd' h.at'.cell))
        have CM := Lib.hid (fun (W : World) (h : Bx m w w.heap.size l d W) => bx_call h (may_any l d m W hl' hd' h.at'.cell))
        rw [hP1] at CP
        rw [hP2] at CM
        clear hP1 hP2
        rw [read_no hS] at CS
        clear hS
        clear hl hd hs hle hle2 hle3 hl' hd'
        unfold bxV at *
        go_enter Tryd.func6, Tryd.ntmps6
        go_wp2_with fail
        refine HW.out.mono ?_
        rintro e w1 ⟨rfl, h1⟩
        have H1 := Lib.hid h1
        obtain ⟨⟨c1, f1⟩, c2, f2⟩ := bx_cells h1
        have H2 := Lib.hid (bx_alloc h1 (.cells #[.string ⟨l.toArray⟩, .string ⟨d.toArray⟩, .string ⟨s.toArray⟩] 9))
        have c3 := large_three_new w1 l d s 9
        clear h1
        go_wp2_with fail
        refine (HB.out _ _ c3).mono ?_
        rintro e w2 ⟨rfl, rfl⟩
        clear c1 f1 c2 f2 c3
        obtain ⟨⟨c1, f1⟩, c2, f2⟩ := bx_cells H2.out
        go_wp2_with fail
        refine (CP.out _ H2.out).mono ?_
        rintro e w3 ⟨rfl, h3⟩
        have H3 := Lib.hid h3
        obtain ⟨⟨c1, f1⟩, c2, f2⟩ := bx_cells h3
        clear h3
        go_wp2_with fail
        refine (CM.out _ H3.out).mono ?_
        rintro e w4 ⟨rfl, h4⟩
        have H4 := Lib.hid h4
        clear h4 c1 f1 c2 f2
        go_wp2_with fail
        refine (CS.out _ H4.out).mono ?_
        rintro e w5 ⟨rfl, h5⟩
        have B5 := Lib.hid (bx_new h5.at' [] [])
        obtain ⟨⟨a1, g1⟩, a2, g2⟩ := bx_cells B5.out
        clear h5
        go_wp2_with fail
        go_ret
        exact ⟨rfl, B5.out.at'.below⟩
      | some p =>
        obtain ⟨c, e, r⟩ := p
        rcases Adr.rdP_may hS with ⟨rfl, rfl⟩ | hmay
        · have CP := Lib.hid (fun (W : World) (h : Bx m w w.heap.size l d W) => bx_call h (path_any l d m W hl' hd' h.at'.cell))
          have CM := Lib.hid (fun (W : World) (h : Bx m w w.heap.size l d W) => bx_call h (may_any l d m W hl' hd' h.at'.cell))
          rw [hP1] at CP
          rw [hP2] at CM
          clear hP1 hP2
          rw [read_of hS] at CS
          have CP2 := Lib.hid (fun (W : World) (h : At m w W) => path_any [] [] m W (by decide) (by decide) h.cell)
          have CQ := Lib.hid (fun (W : World) (h : At m w W) => parse_any [60, 62] m W (by decide) h.cell)
          rw [pv5] at CP2
          rw [parse_some (show Adr.rdP [60, 62] = some ([], [], []) from rfl)] at CQ
          obtain ⟨u, hu, k0, hk0⟩ := Adr.rdP_suf hS
          obtain ⟨k, hk, hkpos⟩ : ∃ k : List UInt8, s = k ++ r ∧ 0 < k.length := ⟨60 :: k0, by rw [hu, ← hk0]; rfl, by simp⟩
          clear hS hu hk0
          have n1 : (s.length : Int) = (k.length : Int) + (r.length : Int) := by rw [hk, List.length_append]; omega
          have z1 : ¬ (s.length : Int) ≤ (r.length : Int) := by omega
          have z2 : (s.length : Int) - (r.length : Int) = (k.length : Int) := by omega
          have z3 : k.length ≤ s.length := by omega
          have z4 : (k.length : Int) ≤ (s.length : Int) := by omega
          have z5 : (0 : Int) ≤ (k.length : Int) := by omega
          have z6 := ends_at k r
          rw [← hk] at z6
          have z7 : wrap64 (k.length : Int) = (k.length : Int) := by unfold wrap64; omega
          have z8 : ¬ s.length ≤ r.length := by omega
          clear n1 hk hkpos
          clear hl hd hs hle hle2 hle3 hl' hd'
          unfold bxV at *
          go_enter Tryd.func6, Tryd.ntmps6
          go_wp2_with fail
          refine HW.out.mono ?_
          rintro e w1 ⟨rfl, h1⟩
          have H1 := Lib.hid h1
          obtain ⟨⟨c1, f1⟩, c2, f2⟩ := bx_cells h1
          have H2 := Lib.hid (bx_alloc h1 (.cells #[.string ⟨l.toArray⟩, .string ⟨d.toArray⟩, .string ⟨s.toArray⟩] 9))
          have c3 := large_three_new w1 l d s 9
          clear h1
          go_wp2_with fail
          refine (HB.out _ _ c3).mono ?_
          rintro e w2 ⟨rfl, rfl⟩
          clear c1 f1 c2 f2 c3
          obtain ⟨⟨c1, f1⟩, c2, f2⟩ := bx_cells H2.out
          go_wp2_with fail
          refine (CP.out _ H2.out).mono ?_
          rintro e w3 ⟨rfl, h3⟩
          have H3 := Lib.hid h3
          obtain ⟨⟨c1, f1⟩, c2, f2⟩ := bx_cells h3
          clear h3
          go_wp2_with fail
          refine (CM.out _ H3.out).mono ?_
          rintro e w4 ⟨rfl, h4⟩
          have H4 := Lib.hid h4
          clear h4 c1 f1 c2 f2
          go_wp2_with fail
          refine (CS.out _ H4.out).mono ?_
          rintro e w5 ⟨rfl, h5⟩
          have B5 := Lib.hid (bx_new h5.at' [] [])
          obtain ⟨⟨a1, g1⟩, a2, g2⟩ := bx_cells B5.out
          clear h5
          have B6 := B5
          go_wp2_with fail
          refine (CP2.out _ B6.out.at').mono ?_
          rintro e w7 ⟨rfl, h7⟩
          have B7 := Lib.hid (bx_next B6.out h7)
          clear h7 a1 g1 a2 g2
          go_wp2_with fail
          refine (CQ.out _ B7.out.at').mono ?_
          rintro e w8 ⟨rfl, h8⟩
          have B8 := Lib.hid (bx_alloc (bx_next B7.out h8) (.cells #[.string ⟨([] : List UInt8).toArray⟩, .string ⟨([] : List UInt8).toArray⟩] 25))
          have D8 := Lib.hid (bx_new (bx_next B7.out h8).at' [] [])
          obtain ⟨⟨a1, g1⟩, a2, g2⟩ := bx_cells B8.out
          obtain ⟨⟨a3, g3⟩, a4, g4⟩ := bx_cells D8.out
          clear h8
          go_wp2_with fail
          go_ret
          exact ⟨rfl, B8.out.at'.below⟩
        · have CP := Lib.hid (fun (W : World) (h : Bx m w w.heap.size l d W) => bx_call h (path_any l d m W hl' hd' h.at'.cell))
          have CM := Lib.hid (fun (W : World) (h : Bx m w w.heap.size l d W) => bx_call h (may_any l d m W hl' hd' h.at'.cell))
          rw [hP1] at CP
          rw [hP2] at CM
          clear hP1 hP2
          rw [read_of hS] at CS
          rcases path_cases c e with ⟨Q, hQ1, hQ2, hQ3⟩ | ⟨_, hQ⟩
          case inr => rw [hQ] at hmay; cases hmay
          have CM2 := Lib.hid (fun (W : World) (h : At m w W) => may_any c e m W (by have := (Adr.may_len hmay).1; omega) (by have := (Adr.may_len hmay).2; omega) h.cell)
          have CP2 := Lib.hid (fun (W : World) (h : At m w W) => path_any c e m W (by have := (Adr.may_len hmay).1; omega) (by have := (Adr.may_len hmay).2; omega) h.cell)
          have CQ := Lib.hid (fun (W : World) (h : At m w W) => parse_any Q m W (by omega) h.cell)
          have q5 := neq_some e (Adr.local_ne (Adr.may_parts hmay).2.2)
          rw [hmay] at CM2
          rw [hQ1] at CP2
          rw [parse_some (by have := hQ3 []; rwa [List.append_nil] at this)] at CQ
          clear hQ1 hQ2 hQ3 hmay
          obtain ⟨u, hu, k0, hk0⟩ := Adr.rdP_suf hS
          obtain ⟨k, hk, hkpos⟩ : ∃ k : List UInt8, s = k ++ r ∧ 0 < k.length := ⟨60 :: k0, by rw [hu, ← hk0]; rfl, by simp⟩
          clear hS hu hk0
          have n1 : (s.length : Int) = (k.length : Int) + (r.length : Int) := by rw [hk, List.length_append]; omega
          have z1 : ¬ (s.length : Int) ≤ (r.length : Int) := by omega
          have z2 : (s.length : Int) - (r.length : Int) = (k.length : Int) := by omega
          have z3 : k.length ≤ s.length := by omega
          have z4 : (k.length : Int) ≤ (s.length : Int) := by omega
          have z5 : (0 : Int) ≤ (k.length : Int) := by omega
          have z6 := ends_at k r
          rw [← hk] at z6
          have z7 : wrap64 (k.length : Int) = (k.length : Int) := by unfold wrap64; omega
          have z8 : ¬ s.length ≤ r.length := by omega
          clear n1 hk hkpos
          clear hl hd hs hle hle2 hle3 hl' hd'
          unfold bxV at *
          go_enter Tryd.func6, Tryd.ntmps6
          go_wp2_with fail
          refine HW.out.mono ?_
          rintro e w1 ⟨rfl, h1⟩
          have H1 := Lib.hid h1
          obtain ⟨⟨c1, f1⟩, c2, f2⟩ := bx_cells h1
          have H2 := Lib.hid (bx_alloc h1 (.cells #[.string ⟨l.toArray⟩, .string ⟨d.toArray⟩, .string ⟨s.toArray⟩] 9))
          have c3 := large_three_new w1 l d s 9
          clear h1
          go_wp2_with fail
          refine (HB.out _ _ c3).mono ?_
          rintro e w2 ⟨rfl, rfl⟩
          clear c1 f1 c2 f2 c3
          obtain ⟨⟨c1, f1⟩, c2, f2⟩ := bx_cells H2.out
          go_wp2_with fail
          refine (CP.out _ H2.out).mono ?_
          rintro e w3 ⟨rfl, h3⟩
          have H3 := Lib.hid h3
          obtain ⟨⟨c1, f1⟩, c2, f2⟩ := bx_cells h3
          clear h3
          go_wp2_with fail
          refine (CM.out _ H3.out).mono ?_
          rintro e w4 ⟨rfl, h4⟩
          have H4 := Lib.hid h4
          clear h4 c1 f1 c2 f2
          go_wp2_with fail
          refine (CS.out _ H4.out).mono ?_
          rintro e w5 ⟨rfl, h5⟩
          have B5 := Lib.hid (bx_new h5.at' c e)
          obtain ⟨⟨a1, g1⟩, a2, g2⟩ := bx_cells B5.out
          clear h5
          go_wp2_with fail
          refine (CM2.out _ B5.out.at').mono ?_
          rintro e w6 ⟨rfl, h6⟩
          have B6 := Lib.hid (bx_next B5.out h6)
          clear h6 a1 g1 a2 g2
          obtain ⟨⟨a1, g1⟩, a2, g2⟩ := bx_cells B6.out
          go_wp2_with fail
          refine (CP2.out _ B6.out.at').mono ?_
          rintro e w7 ⟨rfl, h7⟩
          have B7 := Lib.hid (bx_next B6.out h7)
          clear h7 a1 g1 a2 g2
          go_wp2_with fail
          refine (CQ.out _ B7.out.at').mono ?_
          rintro e w8 ⟨rfl, h8⟩
          have B8 := Lib.hid (bx_alloc (bx_next B7.out h8) (.cells #[.string ⟨(c : List UInt8).toArray⟩, .string ⟨(e : List UInt8).toArray⟩] 25))
          have D8 := Lib.hid (bx_new (bx_next B7.out h8).at' c e)
          obtain ⟨⟨a1, g1⟩, a2, g2⟩ := bx_cells B8.out
          obtain ⟨⟨a3, g3⟩, a4, g4⟩ := bx_cells D8.out
          clear h8
          go_wp2_with fail
          go_ret
          exact ⟨rfl, B8.out.at'.below⟩
theorem addrBack_any (m : Int) (l d s : List UInt8) (w : World) (hm : w.cell? ⟨0, 0, none⟩ = some (.int .i64 m)) (hl : l.length ≤ maxLen) (hd : d.length ≤ maxLen) (hs : s.length ≤ maxLen) :
    Calls Tryd.prog 6 #[.agg #[.string ⟨l.toArray⟩, .string ⟨d.toArray⟩], .string ⟨s.toArray⟩] w fun e w' => e = .returned (.bool true) ∧ Below w.heap.size w w' := back_any l d s m w hl hd hs hm
end Go.Proofs.YtifheakepegjcaaDoor
