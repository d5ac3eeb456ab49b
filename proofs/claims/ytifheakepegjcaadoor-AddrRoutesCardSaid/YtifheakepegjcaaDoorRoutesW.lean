/-
  PROVED HERE: AddrRoutes answers true.
-/
import Derived.Test.YtifheakepegjcaaDoorBackW
set_option linter.unusedVariables false
namespace Adr
/-- The domains of a route, behind the first of them. -/
def rtm (xs : List (List UInt8)) : List UInt8 := xs.flatMap fun y => 44 :: 64 :: y
/-- A route of domains, without the sign at its end. -/
def rte : List (List UInt8) → List UInt8
  | [] => []
  | x :: xs => 64 :: x ++ rtm xs
theorem rtm_read : ∀ (xs : List (List UInt8)) (x V : List UInt8), (∀ y ∈ x :: xs, domB y = true) → rdRl (64 :: (x ++ (rtm xs ++ 58 :: V))) = some V
  | [], x, V, h => by
    have hx := h x (by simp)
    rw [rdRl_eq, tk_yes (by rfl), Option.bind_some, List.tail_cons, show x ++ (rtm [] ++ 58 :: V) = x ++ 58 :: V from rfl, rdD_dom hx (by decide +kernel), Option.bind_some]
    show (if atB 44 (58 :: V) = true then _ else tk 58 (58 :: V)) = _
    rw [show atB 44 (58 :: V) = false from rfl, if_neg (by decide), tk_yes (by rfl)]
    rfl
  | y :: ys, x, V, h => by
    have hx := h x (by simp)
    rw [rdRl_eq, tk_yes (by rfl), Option.bind_some, List.tail_cons, show x ++ (rtm (y :: ys) ++ 58 :: V) = x ++ 44 :: (64 :: (y ++ (rtm ys ++ 58 :: V))) by simp [rtm], rdD_dom hx (by decide +kernel), Option.bind_some]
    show (if atB 44 (44 :: (64 :: (y ++ (rtm ys ++ 58 :: V)))) = true then rdRl (64 :: (y ++ (rtm ys ++ 58 :: V))) else _) = _
    rw [if_pos (by rfl)]
    exact rtm_read ys y V fun z hz => h z (List.mem_cons_of_mem _ hz)
/-- What stands between a path's first sign and its mailbox. -/
def rtx (xs : List (List UInt8)) : List UInt8 := if xs.length = 0 then [] else rte xs ++ [58]
theorem rte_path {l d : List UInt8} (h : mayB l d = true) (xs : List (List UInt8)) (hx : ∀ y ∈ xs, domB y = true) : rdP (60 :: (rtx xs ++ (wrt l d ++ [62]))) = some (l, d, []) := by
  cases xs with
  | nil => exact rdP_path h []
  | cons x xs =>
    obtain ⟨hd, hs, hl⟩ := may_parts h
    obtain ⟨X, hX, hL, h62, h64⟩ := wrt_ahead h [62]
    have e : rtx (x :: xs) ++ (wrt l d ++ [62]) = 64 :: (x ++ (rtm xs ++ 58 :: (wrt l d ++ [62]))) := by simp [rtx, rte]
    rw [e]
    unfold rdP
    rw [tk_yes (by rfl), Option.bind_some, List.tail_cons]
    unfold rdP1
    rw [show atB 62 (64 :: (x ++ (rtm xs ++ 58 :: (wrt l d ++ [62])))) = false from rfl, if_neg (by decide)]
    unfold rdR
    rw [if_pos (by rfl), rtm_read xs x _ hx, Option.bind_some, hX, rdP2_box hL hd, hs]
theorem rtm_app (xs : List (List UInt8)) (y : List UInt8) : rtm (xs ++ [y]) = rtm xs ++ 44 :: 64 :: y := by simp [rtm]
theorem rte_zero (l : List (List UInt8)) (h : 0 < l.length) : rte (l.take (0 + 1)) = (64 : UInt8) :: l[0] := by
  cases l with
  | nil => cases h
  | cons x xs => simp [rte, rtm]
theorem rte_succ (l : List (List UInt8)) (k : Nat) (h : k < l.length) (hk : k ≠ 0) : rte (l.take (k + 1)) = (rte (l.take k) ++ [44]) ++ ((64 : UInt8) :: l[k]) := by
  cases l with
  | nil => cases h
  | cons x xs =>
    cases k with
    | zero => exact absurd rfl hk
    | succ k =>
      have h2 : k < xs.length := by simpa using h
      rw [List.take_succ_cons, List.take_succ_cons, rte, rte, List.take_succ_eq_append_getElem h2, rtm_app]
      simp
theorem rte_len : ∀ (l : List (List UInt8)) (k : Nat), k ≤ l.length → (∀ y ∈ l.take k, domB y = true) → (rte (l.take k)).length ≤ 257 * k
  | l, 0, _, _ => by simp [rte]
  | l, k + 1, hk, h => by
    have hm : ∀ y ∈ l.take k, domB y = true := fun y hy => h y (by rw [List.take_succ_eq_append_getElem (by omega)]; exact List.mem_append_left _ hy)
    have ih := rte_len l k (by omega) hm
    have hl : domB l[k] = true := h _ (by rw [List.take_succ_eq_append_getElem (by omega)]; exact List.mem_append_right _ (List.mem_singleton.2 rfl))
    have hl2 : l[k].length ≤ 255 := by
      unfold domB at hl
      rw [Bool.and_eq_true] at hl
      exact of_decide_eq_true hl.1
    by_cases e : k = 0
    · subst e
      rw [rte_zero l hk]
      have : (l[0]).length ≤ 255 := hl2
      simp only [List.length_cons]
      omega
    · rw [rte_succ l k hk e]
      simp only [List.length_append, List.length_cons, List.length_nil]
      omega
theorem domB_len {d : List UInt8} (h : domB d = true) : d.length ≤ 255 := by
  unfold domB at h
  rw [Bool.and_eq_true] at h
  exact of_decide_eq_true h.1
theorem lg_short {T : List UInt8} (h : T.length ≤ 255) : lgB [T] = false := by
  unfold lgB
  simp only [List.any_cons, List.any_nil, Bool.or_false, decide_eq_false_iff_not]
  omega
end Adr
namespace Go.Proofs.YtifheakepegjcaaDoor
open Go.RowKit
variable {m : Int} {w W W1 : World}
set_option maxRecDepth 100000 in
theorem domain_all (T : List UInt8) (m : Int) (w : World) (hs : T.length ≤ 9223372036854775807) (hm : w.cell? ⟨0, 0, none⟩ = some (.int .i64 m)) : Calls Tryd.prog 17 #[.string ⟨T.toArray⟩] w fun e w' => e = .returned (domV T) ∧ Below w.heap.size w w' := by
  by_cases hb : 255 < T.length
  · have hbz : (255 : Int) < (T.length : Int) := by omega
    have e : Adr.domB T = false := by unfold Adr.domB; rw [decide_eq_false (by omega), Bool.false_and]
    rw [dom_no e]
    clear e
    go_enter Tryd.func17, Tryd.ntmps17
    go_wp2
    go_ret2
    exact ⟨rfl, Below.refl _ _⟩
  · exact domain_any ⟨T.toArray⟩ m w (by rw [size_mk]; omega) hm

set_option maxRecDepth 100000 in
set_option maxHeartbeats 4000000 in
theorem routesw_any (l d : List UInt8) (A : Option Addr) (cap : Nat) (ls : List (List UInt8)) (m : Int) (w : World) (hl : l.length ≤ 9223372036854775807) (hd : d.length ≤ 9223372036854775807) (hT : Txs w A ls) (hx : ∀ x ∈ ls, x.length ≤ 9223372036854775807) (hn : ls.length ≤ 9223372036854775807) (hm : w.cell? ⟨0, 0, none⟩ = some (.int .i64 m)) :
    Calls Tryd.prog 8 #[bxV l d, .slice A ls.length cap] w fun e w' => e = .returned (.bool true) ∧ Below w.heap.size w w' := by
  have H0 := Lib.hid (bx_first hm l d)
  have HW := Lib.hid (awake_bx H0.out)
  have HTX := Lib.hid hT
  have HXL := Lib.hid hx
  have HLG := Lib.hid (fun (W : World) (b : Nat) (h : W.cell? ⟨b, 0, none⟩ = some (.string ⟨l.toArray⟩) ∧ W.cell? ⟨b, 1, none⟩ = some (.string ⟨d.toArray⟩)) => large_two l d b W hl hd h.1 h.2)
  obtain ⟨n, hnl⟩ : ∃ n, n = ls.length := ⟨_, rfl⟩
  rw [← hnl] at hn ⊢
  have HNL := Lib.hid hnl
  clear hm hT hx hnl
  unfold bxV at *
  cases hg : Adr.lgB [l, d] with
  | true =>
    rw [hg] at HLG
    clear hg
    go_enter Tryd.func8, Tryd.ntmps8
    go_wp2_with fail
    refine HW.out.mono ?_
    rintro e w1 ⟨rfl, h1⟩
    have H1 := Lib.hid h1
    obtain ⟨⟨c1, f1⟩, c2, f2⟩ := bx_cells h1
    have H2 := Lib.hid (bx_alloc h1 (.cells #[.string ⟨l.toArray⟩, .string ⟨d.toArray⟩] 9))
    have c3 := pair_new w1 l d 9
    clear h1
    go_wp2_with fail
    refine (HLG.out _ _ c3).mono ?_
    rintro e w2 ⟨rfl, rfl⟩
    clear c1 f1 c2 f2 c3
    obtain ⟨⟨c1, f1⟩, c2, f2⟩ := bx_cells H2.out
    go_wp2_with fail
    go_ret
    exact ⟨rfl, H2.out.at'.below⟩
  | false =>
    rw [hg] at HLG
    have hle := Adr.lg_no hg (T := l) (by simp)
    have hle2 := Adr.lg_no hg (T := d) (by simp)
    clear hg
    have hl' : l.length < 4294967281 := by omega
    have hd' : d.length < 4294967281 := by omega
    have CM := Lib.hid (fun (W : World) (h : Bx m w w.heap.size l d W) => bx_call h (may_any l d m W hl' hd' h.at'.cell))
    unfold bxV at CM
    cases hmb : Adr.mayB l d with
    | false =>
      rw [hmb] at CM
      clear hmb
      go_enter Tryd.func8, Tryd.ntmps8
      go_wp2_with fail
      refine HW.out.mono ?_
      rintro e w1 ⟨rfl, h1⟩
      have H1 := Lib.hid h1
      obtain ⟨⟨c1, f1⟩, c2, f2⟩ := bx_cells h1
      have H2 := Lib.hid (bx_alloc h1 (.cells #[.string ⟨l.toArray⟩, .string ⟨d.toArray⟩] 9))
      have c3 := pair_new w1 l d 9
      clear h1
      go_wp2_with fail
      refine (HLG.out _ _ c3).mono ?_
      rintro e w2 ⟨rfl, rfl⟩
      clear c1 f1 c2 f2 c3
      obtain ⟨⟨c1, f1⟩, c2, f2⟩ := bx_cells H2.out
      go_wp2_with fail
      refine (CM.out _ H2.out).mono ?_
      rintro e w3 ⟨rfl, h3⟩
      have H3 := Lib.hid h3
      clear h3 c1 f1 c2 f2
      obtain ⟨⟨c1, f1⟩, c2, f2⟩ := bx_cells H3.out
      go_wp2_with fail
      go_ret
      exact ⟨rfl, H3.out.at'.below⟩
    | true =>
      rw [hmb] at CM
      by_cases hn20 : 20 < n
      · have q20z : (20 : Int) < (n : Int) := by omega
        clear hmb
        go_enter Tryd.func8, Tryd.ntmps8
        go_wp2_with fail
        refine HW.out.mono ?_
        rintro e w1 ⟨rfl, h1⟩
        have H1 := Lib.hid h1
        obtain ⟨⟨c1, f1⟩, c2, f2⟩ := bx_cells h1
        have H2 := Lib.hid (bx_alloc h1 (.cells #[.string ⟨l.toArray⟩, .string ⟨d.toArray⟩] 9))
        have c3 := pair_new w1 l d 9
        clear h1
        go_wp2_with fail
        refine (HLG.out _ _ c3).mono ?_
        rintro e w2 ⟨rfl, rfl⟩
        clear c1 f1 c2 f2 c3
        obtain ⟨⟨c1, f1⟩, c2, f2⟩ := bx_cells H2.out
        go_wp2_with fail
        refine (CM.out _ H2.out).mono ?_
        rintro e w3 ⟨rfl, h3⟩
        have H3 := Lib.hid h3
        clear h3 c1 f1 c2 f2
        obtain ⟨⟨c1, f1⟩, c2, f2⟩ := bx_cells H3.out
        go_wp2_with fail
        go_ret
        exact ⟨rfl, H3.out.at'.below⟩
      · have HPL := Lib.hid (fun (hy : ∀ y ∈ ls, Adr.domB y = true) => Adr.rte_path hmb ls hy)
        have hwl := wrt_len hmb
        obtain ⟨WL, hWL⟩ : ∃ WL, WL = Adr.wrt l d := ⟨_, rfl⟩
        have CW := Lib.hid (fun (W : World) (h : Bx m w w.heap.size l d W) => bx_call h (write_any l d m W hl' hd' h.at'.cell))
        rw [show wrtV l d = .tuple #[.string ⟨WL.toArray⟩, .int .i64 0] from by unfold wrtV; rw [if_pos hmb, hWL]; rfl] at CW
        unfold bxV at CW
        rw [← hWL] at hwl HPL
        have CP := Lib.hid (fun (T : List UInt8) (ht : T.length < 4294967281) (W : World) (h : Bx m w w.heap.size l d W) => bx_call h (parse_any T m W ht h.at'.cell))
        clear hmb hWL hl hd hle hle2 hl' hd'
        have q20z : ¬ (20 : Int) < (n : Int) := by omega
        have q1 := eq_same
        have q2 := gua25
        go_enter Tryd.func8, Tryd.ntmps8
        go_wp2_with fail
        refine HW.out.mono ?_
        rintro e w1 ⟨rfl, h1⟩
        have H1 := Lib.hid h1
        obtain ⟨⟨c1, f1⟩, c2, f2⟩ := bx_cells h1
        have H2 := Lib.hid (bx_alloc h1 (.cells #[.string ⟨l.toArray⟩, .string ⟨d.toArray⟩] 9))
        have c3 := pair_new w1 l d 9
        clear h1
        go_wp2_with fail
        refine (HLG.out _ _ c3).mono ?_
        rintro e w2 ⟨rfl, rfl⟩
        clear c1 f1 c2 f2 c3
        obtain ⟨⟨c1, f1⟩, c2, f2⟩ := bx_cells H2.out
        go_wp2_with fail
        refine (CM.out _ H2.out).mono ?_
        rintro e w3 ⟨rfl, h3⟩
        have H3 := Lib.hid h3
        clear h3 c1 f1 c2 f2
        obtain ⟨⟨c1, f1⟩, c2, f2⟩ := bx_cells H3.out
        go_wp2_with fail
        refine (CW.out _ H3.out).mono ?_
        rintro e w4 ⟨rfl, h4⟩
        have H4 := Lib.hid h4
        clear h4 c1 f1 c2 f2
        go_wp2_with fail
        go_loopw [38, 7] (fun u v wr => ∃ k : Nat, u = .int .i64 k ∧ k ≤ n ∧ v = .string ⟨(Adr.rte (ls.take k)).toArray⟩ ∧ Hid (∀ y ∈ ls.take k, Adr.domB y = true) ∧ Hid (Bx m w w.heap.size l d wr)) (fun u _ _ => n - (intOf u).toNat)
        case atStart => exact ⟨0, rfl, by omega, rfl, (fun y hy => by simp at hy), H4⟩
        case round =>
          obtain ⟨k, rfl, hk, rfl, HK, HX⟩ := hrel
          have HRL := Lib.hid (Adr.rte_len ls k (by rw [← HNL.out]; exact hk) HK.out)
          by_cases hlt : k < n
          · have hltz : (k : Int) < (n : Int) := by omega
            have hkl : k < ls.length := by rw [← HNL.out]; exact hlt
            have HTW := Lib.hid (fun (W : World) (h : Bx m w w.heap.size l d W) => txs_below HTX.out h.at'.below)
            obtain ⟨b1, o1, rfl, t0⟩ := HTX.out k hkl
            have HC := Lib.hid (show ∀ (W : World) (h : Bx m w w.heap.size l d W), W.cell? ⟨b1, o1 + k, none⟩ = some (.string ⟨(at' ls k).toArray⟩) from fun W h => by
              obtain ⟨b2, o2, e2, t2⟩ := HTW.out W h k hkl
              cases e2
              exact t2)
            have HNX : Hid (Adr.domB (at' ls k) = true → ∀ y ∈ ls.take (k + 1), Adr.domB y = true) := fun h y hy => by
              rw [List.take_succ_eq_append_getElem hkl] at hy
              rcases List.mem_append.1 hy with hy | hy
              · exact HK.out y hy
              · rw [List.mem_singleton.1 hy, ← at_get ls k hkl]
                exact h
            have HR0 : Hid (k = 0 → Adr.rte (ls.take (k + 1)) = Adr.rte (ls.take k) ++ (64 :: at' ls k)) := fun h => by
              subst h
              rw [at_get ls 0 hkl]
              exact Adr.rte_zero ls hkl
            have HRS := Lib.hid (fun (h : k ≠ 0) => Adr.rte_succ ls k hkl h)
            rw [← at_get ls k hkl] at HRS
            have hxl : (at' ls k).length ≤ 9223372036854775807 := by rw [at_get ls k hkl]; exact HXL.out _ (List.getElem_mem hkl)
            have HD := Lib.hid (fun (W : World) (h : Bx m w w.heap.size l d W) => bx_call h (domain_all (at' ls k) m W hxl h.at'.cell))
            clear t0 HTW hkl
            have u0 := HC.out wr HX.out
            cases hdm : Adr.domB (at' ls k) with
            | false =>
              rw [dom_no hdm] at HD
              clear hdm
              generalize at' ls k = x at *
              go_wp2_with fail
              refine (HD.out _ HX.out).mono ?_
              rintro e w5 ⟨rfl, h5⟩
              have H5 := Lib.hid h5
              clear h5 u0
              go_wp2_with fail
              go_ret
              exact ⟨rfl, H5.out.at'.below⟩
            | true =>
              rw [dom_yes hdm] at HD
              unfold sV at HD
              have HN1 := Lib.hid (HNX.out hdm)
              have hx2 := Adr.domB_len hdm
              have HLO := Lib.hid (fun (W : World) (b : Nat) (h : W.cell? ⟨b, 0, none⟩ = some (.string ⟨(at' ls k).toArray⟩)) => large_one (at' ls k) b W hxl h)
              rw [Adr.lg_short hx2] at HLO
              clear hdm HNX
              have HRL2 : (Adr.rte (ls.take k)).length ≤ 6000 := by have := HRL.out; omega
              generalize Adr.rte (ls.take k) = r at *
              generalize at' ls k = x at *
              clear HRL
              have y1 : (⟨#[64]⟩ : ByteArray) ++ (⟨x.toArray⟩ : ByteArray) = ⟨(64 :: x).toArray⟩ := mk_append [64] x
              have x1 : ¬ 9223372036854775807 < 1 + x.length := by omega
              by_cases hk0 : k = 0
              · have hkz : ¬ (0 : Int) < (k : Int) := by omega
                have HR1 := Lib.hid (HR0.out hk0)
                have y2 := mk_append r (64 :: x)
                have x2 : ¬ 9223372036854775807 < r.length + (x.length + 1) := by omega
                obtain ⟨xs, hxs⟩ : ∃ xs, xs = 64 :: x := ⟨_, rfl⟩
                obtain ⟨r2, hr2⟩ : ∃ r2, r2 = r ++ xs := ⟨_, rfl⟩
                have x3 : ¬ 9223372036854775807 < r.length + xs.length := by rw [hxs, List.length_cons]; omega
                rw [← hxs] at y1 y2 HR1
                rw [← hr2] at y2 HR1
                clear HRS HR0 hk0 hxs hr2 x2
                go_wp2_with fail
                refine (HD.out _ HX.out).mono ?_
                rintro e w5 ⟨rfl, h5⟩
                have H5 := Lib.hid h5
                have u1 := HC.out w5 h5
                have H6 := Lib.hid (bx_alloc h5 (.cells #[.string ⟨x.toArray⟩] 9))
                have u3 : (w5.alloc (.cells #[.string ⟨x.toArray⟩] 9)).cell? ⟨w5.heap.size, 0, none⟩ = some (.string ⟨x.toArray⟩) := by rw [World.cell?_alloc_new]; rfl
                have HU2 := Lib.hid (HC.out _ H6.out)
                clear h5 u0
                go_wp2_with fail
                refine (HLO.out _ _ u3).mono ?_
                rintro e w6 ⟨rfl, rfl⟩
                have u2 := HU2.out
                clear u1 u3
                go_wp2_with fail
                go_roundw
                case rel => exact ⟨k + 1, by go_num, by omega, by rw [HR1.out], HN1, H6⟩
                case measure => simp [intOf]; omega
              · have hkz : (0 : Int) < (k : Int) := by omega
                have HR1 := Lib.hid (HRS.out hk0)
                obtain ⟨xs, hxs⟩ : ∃ xs, xs = 64 :: x := ⟨_, rfl⟩
                obtain ⟨r1, hr1⟩ : ∃ r1, r1 = r ++ [44] := ⟨_, rfl⟩
                obtain ⟨r2, hr2⟩ : ∃ r2, r2 = r1 ++ xs := ⟨_, rfl⟩
                have y0 : (⟨r.toArray⟩ : ByteArray) ++ (⟨#[44]⟩ : ByteArray) = ⟨r1.toArray⟩ := by rw [hr1]; exact mk_append r [44]
                have y2 := mk_append r1 xs
                have x0 : ¬ 9223372036854775807 < r.length + 1 := by omega
                have x3 : ¬ 9223372036854775807 < r1.length + xs.length := by rw [hxs, hr1, List.length_cons, List.length_append, List.length_singleton]; omega
                rw [← hxs] at y1 HR1
                rw [← hr1] at HR1
                rw [← hr2] at y2 HR1
                clear HRS HR0 hk0 hxs hr1 hr2
                go_wp2_with fail
                refine (HD.out _ HX.out).mono ?_
                rintro e w5 ⟨rfl, h5⟩
                have H5 := Lib.hid h5
                have u1 := HC.out w5 h5
                have H6 := Lib.hid (bx_alloc h5 (.cells #[.string ⟨x.toArray⟩] 9))
                have u3 : (w5.alloc (.cells #[.string ⟨x.toArray⟩] 9)).cell? ⟨w5.heap.size, 0, none⟩ = some (.string ⟨x.toArray⟩) := by rw [World.cell?_alloc_new]; rfl
                have HU2 := Lib.hid (HC.out _ H6.out)
                clear h5 u0
                go_wp2_with fail
                refine (HLO.out _ _ u3).mono ?_
                rintro e w6 ⟨rfl, rfl⟩
                have u2 := HU2.out
                clear u1 u3
                go_wp2_with fail
                go_roundw
                case rel => exact ⟨k + 1, by go_num, by omega, by rw [HR1.out], HN1, H6⟩
                case measure => simp [intOf]; omega
          · have hltz : ¬ (k : Int) < (n : Int) := by omega
            have hkn : k = n := by omega
            subst hkn
            have htk : ls.take k = ls := List.take_of_length_le (by rw [← HNL.out]; exact Nat.le_refl _)
            rw [htk] at HK HRL
            rw [htk]
            have HPP := Lib.hid (HPL.out HK.out)
            have hrl : (Adr.rte ls).length ≤ 6000 := by have := HRL.out; omega
            by_cases hk0 : k = 0
            · have hkz : ¬ (0 : Int) < (k : Int) := by omega
              have HRX : Hid (Adr.rte ls = Adr.rtx ls) := by
                show _ = _
                have hnil : ls = [] := List.length_eq_zero_iff.1 (by rw [← HNL.out]; exact hk0)
                rw [hnil]
                rfl
              obtain ⟨rt, hrt⟩ : ∃ rt, rt = Adr.rte ls := ⟨_, rfl⟩
              rw [← HRX.out, ← hrt] at HPP
              rw [← hrt]
              have hrl2 : rt.length ≤ 6001 := by rw [hrt]; omega
              clear HRX HPL htk hk0 hrt HRL HK HTX HXL hrl
              obtain ⟨P1, hP1⟩ : ∃ P1, P1 = 60 :: rt := ⟨_, rfl⟩
              obtain ⟨P2, hP2⟩ : ∃ P2, P2 = P1 ++ WL := ⟨_, rfl⟩
              obtain ⟨P3, hP3⟩ : ∃ P3, P3 = P2 ++ [62] := ⟨_, rfl⟩
              have z1 : (⟨#[60]⟩ : ByteArray) ++ (⟨rt.toArray⟩ : ByteArray) = ⟨P1.toArray⟩ := by rw [hP1]; exact mk_append [60] rt
              have z2 : (⟨P1.toArray⟩ : ByteArray) ++ (⟨WL.toArray⟩ : ByteArray) = ⟨P2.toArray⟩ := by rw [hP2]; exact mk_append P1 WL
              have z3 : (⟨P2.toArray⟩ : ByteArray) ++ (⟨#[62]⟩ : ByteArray) = ⟨P3.toArray⟩ := by rw [hP3]; exact mk_append P2 [62]
              have n1 : P1.length ≤ 6002 := by rw [hP1, List.length_cons]; omega
              have n2 : P2.length ≤ 6402 := by rw [hP2, List.length_append]; omega
              have v1 : ¬ 9223372036854775807 < 1 + rt.length := by omega
              have v2 : ¬ 9223372036854775807 < P1.length + WL.length := by omega
              have v3 : ¬ 9223372036854775807 < P2.length + 1 := by omega
              have hP : 60 :: (rt ++ (WL ++ [62])) = P3 := by rw [hP3, hP2, hP1]; simp
              rw [hP] at HPP
              have CQ := Lib.hid (CP.out P3 (by rw [hP3, List.length_append, List.length_singleton]; omega))
              rw [parse_some HPP.out] at CQ
              unfold bxV at CQ
              clear HPP CP hP hP1 hP2 hP3
              go_wp2_with fail
              refine (CQ.out _ HX.out).mono ?_
              rintro e w5 ⟨rfl, h5⟩
              have H5 := Lib.hid (bx_alloc h5 (.cells #[.string ⟨l.toArray⟩, .string ⟨d.toArray⟩] 25))
              have B5 := Lib.hid (bx_new h5.at' l d)
              clear h5
              obtain ⟨⟨c1, f1⟩, c2, f2⟩ := bx_cells H5.out
              obtain ⟨⟨c3, f3⟩, c4, f4⟩ := bx_cells B5.out
              go_wp2_with fail
              go_ret
              exact ⟨rfl, H5.out.at'.below⟩
            · have hkz : (0 : Int) < (k : Int) := by omega
              have HRX : Hid (Adr.rtx ls = Adr.rte ls ++ [58]) := by
                show _ = _
                unfold Adr.rtx
                rw [if_neg (by rw [← HNL.out]; exact hk0)]
              obtain ⟨rt, hrt⟩ : ∃ rt, rt = Adr.rtx ls := ⟨_, rfl⟩
              have y0 : (⟨(Adr.rte ls).toArray⟩ : ByteArray) ++ (⟨#[58]⟩ : ByteArray) = ⟨rt.toArray⟩ := by rw [hrt, HRX.out]; exact mk_append (Adr.rte ls) [58]
              have x0 : ¬ 9223372036854775807 < (Adr.rte ls).length + 1 := by omega
              have hrl2 : rt.length ≤ 6001 := by rw [hrt, HRX.out, List.length_append, List.length_singleton]; omega
              rw [← hrt] at HPP
              generalize Adr.rte ls = r at *
              clear HRX HPL htk hk0 hrt HRL HK HTX HXL hrl
              obtain ⟨P1, hP1⟩ : ∃ P1, P1 = 60 :: rt := ⟨_, rfl⟩
              obtain ⟨P2, hP2⟩ : ∃ P2, P2 = P1 ++ WL := ⟨_, rfl⟩
              obtain ⟨P3, hP3⟩ : ∃ P3, P3 = P2 ++ [62] := ⟨_, rfl⟩
              have z1 : (⟨#[60]⟩ : ByteArray) ++ (⟨rt.toArray⟩ : ByteArray) = ⟨P1.toArray⟩ := by rw [hP1]; exact mk_append [60] rt
              have z2 : (⟨P1.toArray⟩ : ByteArray) ++ (⟨WL.toArray⟩ : ByteArray) = ⟨P2.toArray⟩ := by rw [hP2]; exact mk_append P1 WL
              have z3 : (⟨P2.toArray⟩ : ByteArray) ++ (⟨#[62]⟩ : ByteArray) = ⟨P3.toArray⟩ := by rw [hP3]; exact mk_append P2 [62]
              have n1 : P1.length ≤ 6002 := by rw [hP1, List.length_cons]; omega
              have n2 : P2.length ≤ 6402 := by rw [hP2, List.length_append]; omega
              have v1 : ¬ 9223372036854775807 < 1 + rt.length := by omega
              have v2 : ¬ 9223372036854775807 < P1.length + WL.length := by omega
              have v3 : ¬ 9223372036854775807 < P2.length + 1 := by omega
              have hP : 60 :: (rt ++ (WL ++ [62])) = P3 := by rw [hP3, hP2, hP1]; simp
              rw [hP] at HPP
              have CQ := Lib.hid (CP.out P3 (by rw [hP3, List.length_append, List.length_singleton]; omega))
              rw [parse_some HPP.out] at CQ
              unfold bxV at CQ
              clear HPP CP hP hP1 hP2 hP3
              go_wp2_with fail
              refine (CQ.out _ HX.out).mono ?_
              rintro e w5 ⟨rfl, h5⟩
              have H5 := Lib.hid (bx_alloc h5 (.cells #[.string ⟨l.toArray⟩, .string ⟨d.toArray⟩] 25))
              have B5 := Lib.hid (bx_new h5.at' l d)
              clear h5
              obtain ⟨⟨c1, f1⟩, c2, f2⟩ := bx_cells H5.out
              obtain ⟨⟨c3, f3⟩, c4, f4⟩ := bx_cells B5.out
              go_wp2_with fail
              go_ret
              exact ⟨rfl, H5.out.at'.below⟩
end Go.Proofs.YtifheakepegjcaaDoor
