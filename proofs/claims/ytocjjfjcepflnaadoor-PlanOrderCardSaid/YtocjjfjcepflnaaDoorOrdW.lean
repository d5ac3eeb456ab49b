/-
  PROVED HERE: PlanOrder of the statements answers true.
-/
import Derived.Test.YtocjjfjcepflnaaDoorPall
import Derived.Deep.RegionHeld3
import Derived.Deep.QuietTactic
import Derived.Deep.Onto
import Derived.Deep.DeepMust
set_option linter.unusedVariables false
namespace Go.Proofs.YtocjjfjcepflnaaDoor
open Go.RowKit Go.Maps Go.ChangeMaps

set_option maxRecDepth 100000 in
set_option maxHeartbeats 8000000 in
theorem order_law (A : Option Addr) (n c : Nat) (nx : Nat → UInt64) (A2 : Option Addr) (nw c2 : Nat) (h : Nat → UInt64) (A3 : Option Addr) (len3 c3 : Nat) (dn : Nat → Bool) (now : Int) (m : Int) (w : World) (hX : Wds w A n nx) (hW : Wds w A2 nw h) (hD : Bos w A3 len3 dn) (hn : n ≤ 4611686018427387904) (hnw : nw ≤ 4611686018427387904) (hl3 : len3 ≤ 9223372036854775807) (hm : w.cell? ⟨0, 0, none⟩ = some (.int .i64 m)) :
    Calls Tryd.prog 8 #[.slice A n c, .slice A2 nw c2, .slice A3 len3 c3, .int .u64 now] w fun e w' => e = .returned (.bool true) ∧ Below w.heap.size w w' := by
  have hmm := @run_makeMap Tryd.prog
  obtain ⟨i0, hi0, hz0, hz1, hz2⟩ := info_parts info41
  have B0 := Lib.hid ((Below.refl w.heap.size w).alloc (Nat.le_refl _) (.cells #[.slice A2 nw c2] 49))
  have HA := Lib.hid (awake_any m _ (later_cell B0.out hm))
  have HX := Lib.hid hX
  have HW := Lib.hid hW
  have HD := Lib.hid hD
  have KB : Hid ((w.alloc (.cells #[.slice A2 nw c2] 49)).heap[w.heap.size]? = some (.cells #[.slice A2 nw c2] 49 (0, 0))) := by show (w.heap.push _)[w.heap.size]? = _; rw [Array.getElem?_push_size]
  clear hX hW hD hm
  go_enter Tryd.func8, Tryd.ntmps8
  go_wp2_with fail
  refine HA.out.mono ?_
  rintro e w1 ⟨rfl, h1⟩
  have H1 := Lib.hid (B0.out.trans (h1.mono B0.out.size))
  have K1 : Hid (w1.heap[w.heap.size]? = some (.cells #[.slice A2 nw c2] 49 (0, 0))) := (h1.block _ (Array.getElem?_eq_some_iff.1 KB.out).1).trans KB.out
  have kc : w1.cell? ⟨w.heap.size, 0, none⟩ = some (.slice A2 nw c2) := by rw [Lib.cell_of_heap K1.out]; rfl
  clear h1 HA B0 KB
  by_cases h60 : 60 < n
  · have h60z : (60 : Int) < (n : Int) := by omega
    go_wp2_with fail
    go_ret
    exact ⟨rfl, H1.out⟩
  have h60z : ¬ (60 : Int) < (n : Int) := by omega
  by_cases h100 : 100 < nw
  · have h100z : (100 : Int) < (nw : Int) := by omega
    go_wp2_with fail
    go_ret
    exact ⟨rfl, H1.out⟩
  have h100z : ¬ (100 : Int) < (nw : Int) := by omega
  go_wp2_with fail
  obtain ⟨st, hst⟩ : ∃ st : Nat → Int, st = fun i => if i < len3 ∧ dn i = false then 1 else 0 := ⟨_, rfl⟩
  obtain ⟨p, hp⟩ : ∃ p : Nat → Bool, p = fun i => (!decide (now < ((nx i).toNat : Int)) && (st i == 0)) := ⟨_, rfl⟩
  have HST := Lib.hid hst
  have HPP := Lib.hid hp
  clear hst hp
  have hs1 := H1.out.size
  have P0 : Hid (Po w w.heap.size (w1.heap.size + 1) A2 nw c2 st (fun _ => 0) p nx 0 (.slice (some ⟨w1.heap.size, 0, none⟩) 0 0) ((w1.alloc (.cells #[] 41)).alloc (.map #[] 0))) := by
    have hb2 : Below w1.heap.size w1 ((w1.alloc (.cells #[] 41)).alloc (.map #[] 0)) := ((Below.refl _ _).alloc (Nat.le_refl _) _).alloc (by simp only [World.size_alloc]; omega) _
    refine ⟨(World.ownsRow_lit w1 #[] 0 hs1 (by unfold maxLen; omega) rfl).alloc _, fun i hi => absurd hi (Nat.not_lt_zero _), ?_, (hb2.block _ (Array.getElem?_eq_some_iff.1 K1.out).1).trans K1.out, H1.out.trans (hb2.mono hs1)⟩
    have q := World.ownsMap_made (H := Unit) (w1.alloc (.cells #[] 41)) Tryd.prog 36 (plainElem Tryd.prog 3)
    rw [World.size_alloc] at q
    exact q
  clear K1 kc
  have HMB : Hid (w.heap.size ≤ w1.heap.size + 1) := by show _ ≤ _; omega
  generalize w1.heap.size + 1 = MB at *
  go_loopw [35, 9] (fun u v wr => ∃ (k : Nat) (T : Nat → Nat), u = .int .i64 k ∧ k ≤ n ∧ Hid (Po w w.heap.size MB A2 nw c2 st T p nx k v wr)) (fun u _ _ => n - (intOf u).toNat)
  case atStart => exact ⟨0, _, rfl, by omega, P0⟩
  case round =>
    clear P0
    obtain ⟨k, T, rfl, hk, HP⟩ := hrel
    obtain ⟨va, vc, rfl, hEn⟩ := po_form HP.out
    have HEN := Lib.hid hEn
    clear hEn
    by_cases hlt : k < n
    · have hltz : (k : Int) < (n : Int) := by omega
      obtain ⟨b, o, rfl, u0⟩ := HX.out k hlt
      have t0 := fun (W : World) (z : Po w w.heap.size MB A2 nw c2 st T p nx k (.slice va k vc) W) => (show W.cell? ⟨b, o + k, none⟩ = some (.int .u64 ((nx k).toNat : Int)) from by rw [z.bel.cell (p := ⟨b, o + k, none⟩) (World.block_lt_of_cell? _ _ u0)]; exact u0)
      clear u0
      obtain ⟨k1, hk1⟩ : ∃ k1, k1 = k + 1 := ⟨_, rfl⟩
      have hki : IntKind.i64.wrap ((k : Int) + 1) = (k1 : Int) := by rw [IntKind.wrap_i64]; omega
      have hku : IntKind.u64.wrap (k1 : Int) = (k1 : Int) := by rw [IntKind.wrap_u64]; omega
      have HK1 := Lib.hid hk1
      clear hk1
      go_wp2_with fail
      go_region_held3 (fun W => Po w w.heap.size MB A2 nw c2 st T p nx k (.slice va k vc) W) (first | assumption | exact HP.out | exact po_next HP.out (Below.refl _ _).drew | exact po_next (by assumption) (Below.refl _ _).drew | exact po_next (by assumption) ((Below.refl _ _).alloc (Nat.le_refl _) _) | exact po_next HP.out (((Below.refl _ _).alloc (Nat.le_refl _) _).alloc (by simp only [World.size_alloc]; omega) _) | exact po_next HP.out (((Below.refl _ _).alloc (Nat.le_refl _) _).alloc (by simp only [World.size_alloc]; omega) _).drew | exact po_next HP.out (((Below.refl _ _).alloc (Nat.le_refl _) _).drew.alloc (by show _ ≤ (World.alloc _ _).heap.size; simp only [World.size_alloc]; omega) _)) (first
        | (go_at_call 27; refine (to_at _).mono ?_; rintro e w9 ⟨rfl, rfl⟩))
      all_goals clear t0
      · generalize hW : World.drew _ = W4
        have HQ : Hid (Pq w w.heap.size MB A2 nw c2 st T p nx k (.slice va k vc) (wr.heap.size + 1) wr.heap.size 0 W4) := by
          rw [← hW, HK1.out]
          exact pq_behind HP.out
        clear hW
        generalize wr.heap.size + 1 = XB at *
        generalize wr.heap.size = TB at *
        clear HP
        have e0 : W4.cell? ⟨XB, 0, none⟩ = some (.int .u64 (k1 : Int)) := by rw [Lib.cell_of_heap HQ.out.eb, HK1.out]; rfl
        have e1 : W4.cell? ⟨XB, 1, none⟩ = some (.string ⟨#[]⟩) := by rw [Lib.cell_of_heap HQ.out.eb]; rfl
        have e2 : W4.cell? ⟨XB, 2, none⟩ = some (.int .u64 0) := by rw [Lib.cell_of_heap HQ.out.eb]; rfl
        have e3 : W4.cell? ⟨XB, 3, none⟩ = some (.int .u64 0) := by rw [Lib.cell_of_heap HQ.out.eb]; rfl
        have e4 : W4.cell? ⟨XB, 4, none⟩ = some (.string ⟨#[]⟩) := by rw [Lib.cell_of_heap HQ.out.eb]; rfl
        have e5 : W4.cell? ⟨XB, 5, none⟩ = some (.string ⟨#[]⟩) := by rw [Lib.cell_of_heap HQ.out.eb]; rfl
        have e6 : W4.cell? ⟨XB, 6, none⟩ = some (.slice (some ⟨TB, 0, none⟩) 1 1) := by rw [Lib.cell_of_heap HQ.out.eb]; rfl
        have e7 : W4.cell? ⟨XB, 7, none⟩ = some (.int .u64 0) := by rw [Lib.cell_of_heap HQ.out.eb]; rfl
        have e8 : W4.cell? ⟨XB, 8, none⟩ = some (.int .u64 ((nx k).toNat : Int)) := by rw [Lib.cell_of_heap HQ.out.eb]; rfl
        have e9 : W4.cell? ⟨XB, 9, none⟩ = some (.int .i64 0) := by rw [Lib.cell_of_heap HQ.out.eb]; rfl
        have hXT : XB ≠ TB := fun e => by
          have q := HQ.out.tb
          rw [← e, HQ.out.eb] at q
          cases q
        have hTX : TB ≠ XB := fun e => hXT e.symm
        have f2 : W4.frozen? ⟨TB, 2, none⟩ = false := Lib.frozen_of_heap HQ.out.tb 2
        have g2 : W4.cell? ⟨TB, 2, none⟩ = some (.int .i64 0) := by rw [Lib.cell_of_heap HQ.out.tb]; rfl
        obtain ⟨b0, o0, eA, u0⟩ := HX.out k hlt
        have t0 : W4.cell? ⟨b, o + k, none⟩ = some (.int .u64 ((nx k).toNat : Int)) := by
          cases eA
          rw [HQ.out.po.bel.cell (p := ⟨b, o + k, none⟩) (World.block_lt_of_cell? _ _ u0)]
          exact u0
        clear eA u0
        by_cases hl : k < len3
        · have hlz : (k : Int) < (len3 : Int) := by omega
          obtain ⟨b3, o3, rfl, u3⟩ := HD.out.1 k hl
          have d0 : W4.cell? ⟨b3, o3 + k, none⟩ = some (.bool (dn k)) := by
            rw [HQ.out.po.bel.cell (p := ⟨b3, o3 + k, none⟩) (World.block_lt_of_cell? _ _ u3)]
            exact u3
          clear u3
          cases hdn : dn k with
          | false =>
            rw [hdn] at d0
            have HPR : Hid (Pr w w.heap.size MB A2 nw c2 st T p nx k (.slice va k vc) XB TB (W4.setCell ⟨TB, 2, none⟩ (.int .i64 1))) := by
              have hs : st k = 1 := (congrFun HST.out k).trans (if_pos ⟨hl, hdn⟩)
              refine pr_done HQ.out hs ((congrFun HPP.out k).trans ?_)
              simp [hs]
            go_wp2_with (at_builtin; go_must (refine wpList_append_own _ rfl (.tmp 72) (.tmp 74) 48 rfl w.heap.size 41 i0 (.agg #[.int .u64 0, .string ⟨#[]⟩, .int .u64 0, .int .u64 0, .string ⟨#[]⟩, .string ⟨#[]⟩, .slice none 0 0, .int .u64 0, .int .u64 0, .int .i64 0]) 10 120 Tryd.underlying48 hi0 hz0 hz1 hz2 rfl (by decide) _ _ _ rfl (pr_alloc HPR.out _).row ⟨W4.heap.size, 0, none⟩ 1 1 ([.int .u64 (k1 : Int), .string ⟨#[]⟩, .int .u64 0, .int .u64 0, .string ⟨#[]⟩, .string ⟨#[]⟩, .slice (some ⟨TB, 0, none⟩) 1 1, .int .u64 0, .int .u64 ((nx k).toNat : Int), .int .i64 0]) rfl rfl ?pa0 ?pb0 ?pc0 ?pd0 ?pe0 ?_))
            all_goals try exact cell_new_at _ #[.int .u64 (k1 : Int), .string ⟨#[]⟩, .int .u64 0, .int .u64 0, .string ⟨#[]⟩, .string ⟨#[]⟩, .slice (some ⟨TB, 0, none⟩) 1 1, .int .u64 0, .int .u64 ((nx k).toNat : Int), .int .i64 0] _ _ (by first | rfl | simp [World.setCell])
            case pb0 => first | exact ⟨rfl, rfl, rfl, rfl, rfl, rfl, rfl, rfl⟩ | (simp only [List.mem_cons, List.not_mem_nil, or_false, forall_eq_or_imp, forall_eq]; exact ⟨rfl, rfl, rfl, rfl, rfl, rfl, rfl, rfl, rfl, rfl⟩)
            case pc0 => unfold maxLen; omega
            case pd0 => omega
            case pe0 => have := HPR.out.bel.size; first | omega | (simp only [World.size_alloc]; omega)
            intro v' w5 hown hgrow _
            have HPO : Hid (Po w w.heap.size MB A2 nw c2 st (fun i => if i = k then TB else T i) p nx (k + 1) v' w5) := by
              refine pr_app (pr_alloc HPR.out _) ?_ hgrow
              rw [HK1.out] at hown
              exact hown
            clear hown hgrow HPR
            generalize (fun i => if i = k then TB else T i) = T' at HPO
            go_wp2
            go_roundw
            case rel => exact ⟨k1, T', rfl, by have := HK1.out; omega, by rw [HK1.out]; exact HPO⟩
            case measure => have := HK1.out; simp only [intOf, Int.toNat_natCast]; omega
          | true =>
            rw [hdn] at d0
            have hs : st k = 0 := (congrFun HST.out k).trans (if_neg (fun e => by rw [hdn] at e; exact Bool.noConfusion e.2))
            by_cases hle : ((nx k).toNat : Int) ≤ now
            · have hpk : p k = true := by
                refine (congrFun HPP.out k).trans ?_
                have : ¬ now < ((nx k).toNat : Int) := by omega
                simp [hs, this]
              obtain ⟨W5, hrun, hm5, hg5⟩ := HQ.out.po.map.update law36 Tryd.underlying56 (by unfold maxLen; omega) (key := .int .u64 (k1 : Int)) (val := .int .i64 (k : Int)) (kl := .int .u64 (k1 : Int)) (keyOf_int_mk Tryd.underlying36 (Go.WalkArith.wf_u64 ⟨by omega, by have := HK1.out; omega⟩)) (plainElem_int Tryd.underlying3 (Go.WalkArith.wf_i64 ⟨by omega, by omega⟩))
              have HPR : Hid (Pr w w.heap.size MB A2 nw c2 st T p nx k (.slice va k vc) XB TB W5) := by
                rw [HK1.out] at hm5
                exact pr_put HQ.out hs hpk HMB.out hm5 hg5
              clear hm5 hg5 hpk
              have q0 : W5.cell? ⟨XB, 0, none⟩ = some (.int .u64 (k1 : Int)) := by rw [Lib.cell_of_heap HPR.out.eb, HK1.out]; rfl
              have q1 : W5.cell? ⟨XB, 1, none⟩ = some (.string ⟨#[]⟩) := by rw [Lib.cell_of_heap HPR.out.eb]; rfl
              have q2 : W5.cell? ⟨XB, 2, none⟩ = some (.int .u64 0) := by rw [Lib.cell_of_heap HPR.out.eb]; rfl
              have q3 : W5.cell? ⟨XB, 3, none⟩ = some (.int .u64 0) := by rw [Lib.cell_of_heap HPR.out.eb]; rfl
              have q4 : W5.cell? ⟨XB, 4, none⟩ = some (.string ⟨#[]⟩) := by rw [Lib.cell_of_heap HPR.out.eb]; rfl
              have q5 : W5.cell? ⟨XB, 5, none⟩ = some (.string ⟨#[]⟩) := by rw [Lib.cell_of_heap HPR.out.eb]; rfl
              have q6 : W5.cell? ⟨XB, 6, none⟩ = some (.slice (some ⟨TB, 0, none⟩) 1 1) := by rw [Lib.cell_of_heap HPR.out.eb]; rfl
              have q7 : W5.cell? ⟨XB, 7, none⟩ = some (.int .u64 0) := by rw [Lib.cell_of_heap HPR.out.eb]; rfl
              have q8 : W5.cell? ⟨XB, 8, none⟩ = some (.int .u64 ((nx k).toNat : Int)) := by rw [Lib.cell_of_heap HPR.out.eb]; rfl
              have q9 : W5.cell? ⟨XB, 9, none⟩ = some (.int .i64 0) := by rw [Lib.cell_of_heap HPR.out.eb]; rfl
              go_wp2_with (at_builtin; go_must (refine wpList_append_own _ rfl (.tmp 72) (.tmp 74) 48 rfl w.heap.size 41 i0 (.agg #[.int .u64 0, .string ⟨#[]⟩, .int .u64 0, .int .u64 0, .string ⟨#[]⟩, .string ⟨#[]⟩, .slice none 0 0, .int .u64 0, .int .u64 0, .int .i64 0]) 10 120 Tryd.underlying48 hi0 hz0 hz1 hz2 rfl (by decide) _ _ _ rfl (pr_alloc HPR.out _).row ⟨W5.heap.size, 0, none⟩ 1 1 ([.int .u64 (k1 : Int), .string ⟨#[]⟩, .int .u64 0, .int .u64 0, .string ⟨#[]⟩, .string ⟨#[]⟩, .slice (some ⟨TB, 0, none⟩) 1 1, .int .u64 0, .int .u64 ((nx k).toNat : Int), .int .i64 0]) rfl rfl ?pa1 ?pb1 ?pc1 ?pd1 ?pe1 ?_))
              all_goals try exact cell_new_at _ #[.int .u64 (k1 : Int), .string ⟨#[]⟩, .int .u64 0, .int .u64 0, .string ⟨#[]⟩, .string ⟨#[]⟩, .slice (some ⟨TB, 0, none⟩) 1 1, .int .u64 0, .int .u64 ((nx k).toNat : Int), .int .i64 0] _ _ (by first | rfl | simp [World.setCell])
              case pb1 => first | exact ⟨rfl, rfl, rfl, rfl, rfl, rfl, rfl, rfl⟩ | (simp only [List.mem_cons, List.not_mem_nil, or_false, forall_eq_or_imp, forall_eq]; exact ⟨rfl, rfl, rfl, rfl, rfl, rfl, rfl, rfl, rfl, rfl⟩)
              case pc1 => unfold maxLen; omega
              case pd1 => omega
              case pe1 => have := HPR.out.bel.size; first | omega | (simp only [World.size_alloc]; omega)
              intro v' w5 hown hgrow _
              have HPO : Hid (Po w w.heap.size MB A2 nw c2 st (fun i => if i = k then TB else T i) p nx (k + 1) v' w5) := by
                refine pr_app (pr_alloc HPR.out _) ?_ hgrow
                rw [HK1.out] at hown
                exact hown
              clear hown hgrow HPR
              generalize (fun i => if i = k then TB else T i) = T' at HPO
              go_wp2
              go_roundw
              case rel => exact ⟨k1, T', rfl, by have := HK1.out; omega, by rw [HK1.out]; exact HPO⟩
              case measure => have := HK1.out; simp only [intOf, Int.toNat_natCast]; omega
            · have hpk : p k = false := by
                refine (congrFun HPP.out k).trans ?_
                have : now < ((nx k).toNat : Int) := by omega
                simp [this]
              have HPR : Hid (Pr w w.heap.size MB A2 nw c2 st T p nx k (.slice va k vc) XB TB W4) := pr_none HQ.out hs hpk
              clear hpk
              go_wp2_with (at_builtin; go_must (refine wpList_append_own _ rfl (.tmp 72) (.tmp 74) 48 rfl w.heap.size 41 i0 (.agg #[.int .u64 0, .string ⟨#[]⟩, .int .u64 0, .int .u64 0, .string ⟨#[]⟩, .string ⟨#[]⟩, .slice none 0 0, .int .u64 0, .int .u64 0, .int .i64 0]) 10 120 Tryd.underlying48 hi0 hz0 hz1 hz2 rfl (by decide) _ _ _ rfl (pr_alloc HPR.out _).row ⟨W4.heap.size, 0, none⟩ 1 1 ([.int .u64 (k1 : Int), .string ⟨#[]⟩, .int .u64 0, .int .u64 0, .string ⟨#[]⟩, .string ⟨#[]⟩, .slice (some ⟨TB, 0, none⟩) 1 1, .int .u64 0, .int .u64 ((nx k).toNat : Int), .int .i64 0]) rfl rfl ?pa2 ?pb2 ?pc2 ?pd2 ?pe2 ?_))
              all_goals try exact cell_new_at _ #[.int .u64 (k1 : Int), .string ⟨#[]⟩, .int .u64 0, .int .u64 0, .string ⟨#[]⟩, .string ⟨#[]⟩, .slice (some ⟨TB, 0, none⟩) 1 1, .int .u64 0, .int .u64 ((nx k).toNat : Int), .int .i64 0] _ _ (by first | rfl | simp [World.setCell])
              case pb2 => first | exact ⟨rfl, rfl, rfl, rfl, rfl, rfl, rfl, rfl⟩ | (simp only [List.mem_cons, List.not_mem_nil, or_false, forall_eq_or_imp, forall_eq]; exact ⟨rfl, rfl, rfl, rfl, rfl, rfl, rfl, rfl, rfl, rfl⟩)
              case pc2 => unfold maxLen; omega
              case pd2 => omega
              case pe2 => have := HPR.out.bel.size; first | omega | (simp only [World.size_alloc]; omega)
              intro v' w5 hown hgrow _
              have HPO : Hid (Po w w.heap.size MB A2 nw c2 st (fun i => if i = k then TB else T i) p nx (k + 1) v' w5) := by
                refine pr_app (pr_alloc HPR.out _) ?_ hgrow
                rw [HK1.out] at hown
                exact hown
              clear hown hgrow HPR
              generalize (fun i => if i = k then TB else T i) = T' at HPO
              go_wp2
              go_roundw
              case rel => exact ⟨k1, T', rfl, by have := HK1.out; omega, by rw [HK1.out]; exact HPO⟩
              case measure => have := HK1.out; simp only [intOf, Int.toNat_natCast]; omega
        · have hlz : ¬ (k : Int) < (len3 : Int) := by omega
          have hs : st k = 0 := (congrFun HST.out k).trans (if_neg (fun e => hl e.1))
          by_cases hle : ((nx k).toNat : Int) ≤ now
          · have hpk : p k = true := by
              refine (congrFun HPP.out k).trans ?_
              have : ¬ now < ((nx k).toNat : Int) := by omega
              simp [hs, this]
            obtain ⟨W5, hrun, hm5, hg5⟩ := HQ.out.po.map.update law36 Tryd.underlying56 (by unfold maxLen; omega) (key := .int .u64 (k1 : Int)) (val := .int .i64 (k : Int)) (kl := .int .u64 (k1 : Int)) (keyOf_int_mk Tryd.underlying36 (Go.WalkArith.wf_u64 ⟨by omega, by have := HK1.out; omega⟩)) (plainElem_int Tryd.underlying3 (Go.WalkArith.wf_i64 ⟨by omega, by omega⟩))
            have HPR : Hid (Pr w w.heap.size MB A2 nw c2 st T p nx k (.slice va k vc) XB TB W5) := by
              rw [HK1.out] at hm5
              exact pr_put HQ.out hs hpk HMB.out hm5 hg5
            clear hm5 hg5 hpk
            have q0 : W5.cell? ⟨XB, 0, none⟩ = some (.int .u64 (k1 : Int)) := by rw [Lib.cell_of_heap HPR.out.eb, HK1.out]; rfl
            have q1 : W5.cell? ⟨XB, 1, none⟩ = some (.string ⟨#[]⟩) := by rw [Lib.cell_of_heap HPR.out.eb]; rfl
            have q2 : W5.cell? ⟨XB, 2, none⟩ = some (.int .u64 0) := by rw [Lib.cell_of_heap HPR.out.eb]; rfl
            have q3 : W5.cell? ⟨XB, 3, none⟩ = some (.int .u64 0) := by rw [Lib.cell_of_heap HPR.out.eb]; rfl
            have q4 : W5.cell? ⟨XB, 4, none⟩ = some (.string ⟨#[]⟩) := by rw [Lib.cell_of_heap HPR.out.eb]; rfl
            have q5 : W5.cell? ⟨XB, 5, none⟩ = some (.string ⟨#[]⟩) := by rw [Lib.cell_of_heap HPR.out.eb]; rfl
            have q6 : W5.cell? ⟨XB, 6, none⟩ = some (.slice (some ⟨TB, 0, none⟩) 1 1) := by rw [Lib.cell_of_heap HPR.out.eb]; rfl
            have q7 : W5.cell? ⟨XB, 7, none⟩ = some (.int .u64 0) := by rw [Lib.cell_of_heap HPR.out.eb]; rfl
            have q8 : W5.cell? ⟨XB, 8, none⟩ = some (.int .u64 ((nx k).toNat : Int)) := by rw [Lib.cell_of_heap HPR.out.eb]; rfl
            have q9 : W5.cell? ⟨XB, 9, none⟩ = some (.int .i64 0) := by rw [Lib.cell_of_heap HPR.out.eb]; rfl
            go_wp2_with (at_builtin; go_must (refine wpList_append_own _ rfl (.tmp 72) (.tmp 74) 48 rfl w.heap.size 41 i0 (.agg #[.int .u64 0, .string ⟨#[]⟩, .int .u64 0, .int .u64 0, .string ⟨#[]⟩, .string ⟨#[]⟩, .slice none 0 0, .int .u64 0, .int .u64 0, .int .i64 0]) 10 120 Tryd.underlying48 hi0 hz0 hz1 hz2 rfl (by decide) _ _ _ rfl (pr_alloc HPR.out _).row ⟨W5.heap.size, 0, none⟩ 1 1 ([.int .u64 (k1 : Int), .string ⟨#[]⟩, .int .u64 0, .int .u64 0, .string ⟨#[]⟩, .string ⟨#[]⟩, .slice (some ⟨TB, 0, none⟩) 1 1, .int .u64 0, .int .u64 ((nx k).toNat : Int), .int .i64 0]) rfl rfl ?pa3 ?pb3 ?pc3 ?pd3 ?pe3 ?_))
            all_goals try exact cell_new_at _ #[.int .u64 (k1 : Int), .string ⟨#[]⟩, .int .u64 0, .int .u64 0, .string ⟨#[]⟩, .string ⟨#[]⟩, .slice (some ⟨TB, 0, none⟩) 1 1, .int .u64 0, .int .u64 ((nx k).toNat : Int), .int .i64 0] _ _ (by first | rfl | simp [World.setCell])
            case pb3 => first | exact ⟨rfl, rfl, rfl, rfl, rfl, rfl, rfl, rfl⟩ | (simp only [List.mem_cons, List.not_mem_nil, or_false, forall_eq_or_imp, forall_eq]; exact ⟨rfl, rfl, rfl, rfl, rfl, rfl, rfl, rfl, rfl, rfl⟩)
            case pc3 => unfold maxLen; omega
            case pd3 => omega
            case pe3 => have := HPR.out.bel.size; first | omega | (simp only [World.size_alloc]; omega)
            intro v' w5 hown hgrow _
            have HPO : Hid (Po w w.heap.size MB A2 nw c2 st (fun i => if i = k then TB else T i) p nx (k + 1) v' w5) := by
              refine pr_app (pr_alloc HPR.out _) ?_ hgrow
              rw [HK1.out] at hown
              exact hown
            clear hown hgrow HPR
            generalize (fun i => if i = k then TB else T i) = T' at HPO
            go_wp2
            go_roundw
            case rel => exact ⟨k1, T', rfl, by have := HK1.out; omega, by rw [HK1.out]; exact HPO⟩
            case measure => have := HK1.out; simp only [intOf, Int.toNat_natCast]; omega
          · have hpk : p k = false := by
              refine (congrFun HPP.out k).trans ?_
              have : now < ((nx k).toNat : Int) := by omega
              simp [this]
            have HPR : Hid (Pr w w.heap.size MB A2 nw c2 st T p nx k (.slice va k vc) XB TB W4) := pr_none HQ.out hs hpk
            clear hpk
            go_wp2_with (at_builtin; go_must (refine wpList_append_own _ rfl (.tmp 72) (.tmp 74) 48 rfl w.heap.size 41 i0 (.agg #[.int .u64 0, .string ⟨#[]⟩, .int .u64 0, .int .u64 0, .string ⟨#[]⟩, .string ⟨#[]⟩, .slice none 0 0, .int .u64 0, .int .u64 0, .int .i64 0]) 10 120 Tryd.underlying48 hi0 hz0 hz1 hz2 rfl (by decide) _ _ _ rfl (pr_alloc HPR.out _).row ⟨W4.heap.size, 0, none⟩ 1 1 ([.int .u64 (k1 : Int), .string ⟨#[]⟩, .int .u64 0, .int .u64 0, .string ⟨#[]⟩, .string ⟨#[]⟩, .slice (some ⟨TB, 0, none⟩) 1 1, .int .u64 0, .int .u64 ((nx k).toNat : Int), .int .i64 0]) rfl rfl ?pa4 ?pb4 ?pc4 ?pd4 ?pe4 ?_))
            all_goals try exact cell_new_at _ #[.int .u64 (k1 : Int), .string ⟨#[]⟩, .int .u64 0, .int .u64 0, .string ⟨#[]⟩, .string ⟨#[]⟩, .slice (some ⟨TB, 0, none⟩) 1 1, .int .u64 0, .int .u64 ((nx k).toNat : Int), .int .i64 0] _ _ (by first | rfl | simp [World.setCell])
            case pb4 => first | exact ⟨rfl, rfl, rfl, rfl, rfl, rfl, rfl, rfl⟩ | (simp only [List.mem_cons, List.not_mem_nil, or_false, forall_eq_or_imp, forall_eq]; exact ⟨rfl, rfl, rfl, rfl, rfl, rfl, rfl, rfl, rfl, rfl⟩)
            case pc4 => unfold maxLen; omega
            case pd4 => omega
            case pe4 => have := HPR.out.bel.size; first | omega | (simp only [World.size_alloc]; omega)
            intro v' w5 hown hgrow _
            have HPO : Hid (Po w w.heap.size MB A2 nw c2 st (fun i => if i = k then TB else T i) p nx (k + 1) v' w5) := by
              refine pr_app (pr_alloc HPR.out _) ?_ hgrow
              rw [HK1.out] at hown
              exact hown
            clear hown hgrow HPR
            generalize (fun i => if i = k then TB else T i) = T' at HPO
            go_wp2
            go_roundw
            case rel => exact ⟨k1, T', rfl, by have := HK1.out; omega, by rw [HK1.out]; exact HPO⟩
            case measure => have := HK1.out; simp only [intOf, Int.toNat_natCast]; omega
      · generalize hW : World.drew _ = W4
        have HQ : Hid (Pq w w.heap.size MB A2 nw c2 st T p nx k (.slice va k vc) wr.heap.size (wr.heap.size + 1) 0 W4) := by
          rw [← hW, HK1.out]
          exact pq_ahead HP.out
        clear hW
        generalize wr.heap.size + 1 = TB at *
        generalize wr.heap.size = XB at *
        clear HP
        have e0 : W4.cell? ⟨XB, 0, none⟩ = some (.int .u64 (k1 : Int)) := by rw [Lib.cell_of_heap HQ.out.eb, HK1.out]; rfl
        have e1 : W4.cell? ⟨XB, 1, none⟩ = some (.string ⟨#[]⟩) := by rw [Lib.cell_of_heap HQ.out.eb]; rfl
        have e2 : W4.cell? ⟨XB, 2, none⟩ = some (.int .u64 0) := by rw [Lib.cell_of_heap HQ.out.eb]; rfl
        have e3 : W4.cell? ⟨XB, 3, none⟩ = some (.int .u64 0) := by rw [Lib.cell_of_heap HQ.out.eb]; rfl
        have e4 : W4.cell? ⟨XB, 4, none⟩ = some (.string ⟨#[]⟩) := by rw [Lib.cell_of_heap HQ.out.eb]; rfl
        have e5 : W4.cell? ⟨XB, 5, none⟩ = some (.string ⟨#[]⟩) := by rw [Lib.cell_of_heap HQ.out.eb]; rfl
        have e6 : W4.cell? ⟨XB, 6, none⟩ = some (.slice (some ⟨TB, 0, none⟩) 1 1) := by rw [Lib.cell_of_heap HQ.out.eb]; rfl
        have e7 : W4.cell? ⟨XB, 7, none⟩ = some (.int .u64 0) := by rw [Lib.cell_of_heap HQ.out.eb]; rfl
        have e8 : W4.cell? ⟨XB, 8, none⟩ = some (.int .u64 ((nx k).toNat : Int)) := by rw [Lib.cell_of_heap HQ.out.eb]; rfl
        have e9 : W4.cell? ⟨XB, 9, none⟩ = some (.int .i64 0) := by rw [Lib.cell_of_heap HQ.out.eb]; rfl
        have hXT : XB ≠ TB := fun e => by
          have q := HQ.out.tb
          rw [← e, HQ.out.eb] at q
          cases q
        have hTX : TB ≠ XB := fun e => hXT e.symm
        have f2 : W4.frozen? ⟨TB, 2, none⟩ = false := Lib.frozen_of_heap HQ.out.tb 2
        have g2 : W4.cell? ⟨TB, 2, none⟩ = some (.int .i64 0) := by rw [Lib.cell_of_heap HQ.out.tb]; rfl
        obtain ⟨b0, o0, eA, u0⟩ := HX.out k hlt
        have t0 : W4.cell? ⟨b, o + k, none⟩ = some (.int .u64 ((nx k).toNat : Int)) := by
          cases eA
          rw [HQ.out.po.bel.cell (p := ⟨b, o + k, none⟩) (World.block_lt_of_cell? _ _ u0)]
          exact u0
        clear eA u0
        by_cases hl : k < len3
        · have hlz : (k : Int) < (len3 : Int) := by omega
          obtain ⟨b3, o3, rfl, u3⟩ := HD.out.1 k hl
          have d0 : W4.cell? ⟨b3, o3 + k, none⟩ = some (.bool (dn k)) := by
            rw [HQ.out.po.bel.cell (p := ⟨b3, o3 + k, none⟩) (World.block_lt_of_cell? _ _ u3)]
            exact u3
          clear u3
          cases hdn : dn k with
          | false =>
            rw [hdn] at d0
            have HPR : Hid (Pr w w.heap.size MB A2 nw c2 st T p nx k (.slice va k vc) XB TB (W4.setCell ⟨TB, 2, none⟩ (.int .i64 1))) := by
              have hs : st k = 1 := (congrFun HST.out k).trans (if_pos ⟨hl, hdn⟩)
              refine pr_done HQ.out hs ((congrFun HPP.out k).trans ?_)
              simp [hs]
            go_wp2_with (at_builtin; go_must (refine wpList_append_own _ rfl (.tmp 72) (.tmp 74) 48 rfl w.heap.size 41 i0 (.agg #[.int .u64 0, .string ⟨#[]⟩, .int .u64 0, .int .u64 0, .string ⟨#[]⟩, .string ⟨#[]⟩, .slice none 0 0, .int .u64 0, .int .u64 0, .int .i64 0]) 10 120 Tryd.underlying48 hi0 hz0 hz1 hz2 rfl (by decide) _ _ _ rfl (pr_alloc HPR.out _).row ⟨W4.heap.size, 0, none⟩ 1 1 ([.int .u64 (k1 : Int), .string ⟨#[]⟩, .int .u64 0, .int .u64 0, .string ⟨#[]⟩, .string ⟨#[]⟩, .slice (some ⟨TB, 0, none⟩) 1 1, .int .u64 0, .int .u64 ((nx k).toNat : Int), .int .i64 0]) rfl rfl ?pa5 ?pb5 ?pc5 ?pd5 ?pe5 ?_))
            all_goals try exact cell_new_at _ #[.int .u64 (k1 : Int), .string ⟨#[]⟩, .int .u64 0, .int .u64 0, .string ⟨#[]⟩, .string ⟨#[]⟩, .slice (some ⟨TB, 0, none⟩) 1 1, .int .u64 0, .int .u64 ((nx k).toNat : Int), .int .i64 0] _ _ (by first | rfl | simp [World.setCell])
            case pb5 => first | exact ⟨rfl, rfl, rfl, rfl, rfl, rfl, rfl, rfl⟩ | (simp only [List.mem_cons, List.not_mem_nil, or_false, forall_eq_or_imp, forall_eq]; exact ⟨rfl, rfl, rfl, rfl, rfl, rfl, rfl, rfl, rfl, rfl⟩)
            case pc5 => unfold maxLen; omega
            case pd5 => omega
            case pe5 => have := HPR.out.bel.size; first | omega | (simp only [World.size_alloc]; omega)
            intro v' w5 hown hgrow _
            have HPO : Hid (Po w w.heap.size MB A2 nw c2 st (fun i => if i = k then TB else T i) p nx (k + 1) v' w5) := by
              refine pr_app (pr_alloc HPR.out _) ?_ hgrow
              rw [HK1.out] at hown
              exact hown
            clear hown hgrow HPR
            generalize (fun i => if i = k then TB else T i) = T' at HPO
            go_wp2
            go_roundw
            case rel => exact ⟨k1, T', rfl, by have := HK1.out; omega, by rw [HK1.out]; exact HPO⟩
            case measure => have := HK1.out; simp only [intOf, Int.toNat_natCast]; omega
          | true =>
            rw [hdn] at d0
            have hs : st k = 0 := (congrFun HST.out k).trans (if_neg (fun e => by rw [hdn] at e; exact Bool.noConfusion e.2))
            by_cases hle : ((nx k).toNat : Int) ≤ now
            · have hpk : p k = true := by
                refine (congrFun HPP.out k).trans ?_
                have : ¬ now < ((nx k).toNat : Int) := by omega
                simp [hs, this]
              obtain ⟨W5, hrun, hm5, hg5⟩ := HQ.out.po.map.update law36 Tryd.underlying56 (by unfold maxLen; omega) (key := .int .u64 (k1 : Int)) (val := .int .i64 (k : Int)) (kl := .int .u64 (k1 : Int)) (keyOf_int_mk Tryd.underlying36 (Go.WalkArith.wf_u64 ⟨by omega, by have := HK1.out; omega⟩)) (plainElem_int Tryd.underlying3 (Go.WalkArith.wf_i64 ⟨by omega, by omega⟩))
              have HPR : Hid (Pr w w.heap.size MB A2 nw c2 st T p nx k (.slice va k vc) XB TB W5) := by
                rw [HK1.out] at hm5
                exact pr_put HQ.out hs hpk HMB.out hm5 hg5
              clear hm5 hg5 hpk
              have q0 : W5.cell? ⟨XB, 0, none⟩ = some (.int .u64 (k1 : Int)) := by rw [Lib.cell_of_heap HPR.out.eb, HK1.out]; rfl
              have q1 : W5.cell? ⟨XB, 1, none⟩ = some (.string ⟨#[]⟩) := by rw [Lib.cell_of_heap HPR.out.eb]; rfl
              have q2 : W5.cell? ⟨XB, 2, none⟩ = some (.int .u64 0) := by rw [Lib.cell_of_heap HPR.out.eb]; rfl
              have q3 : W5.cell? ⟨XB, 3, none⟩ = some (.int .u64 0) := by rw [Lib.cell_of_heap HPR.out.eb]; rfl
              have q4 : W5.cell? ⟨XB, 4, none⟩ = some (.string ⟨#[]⟩) := by rw [Lib.cell_of_heap HPR.out.eb]; rfl
              have q5 : W5.cell? ⟨XB, 5, none⟩ = some (.string ⟨#[]⟩) := by rw [Lib.cell_of_heap HPR.out.eb]; rfl
              have q6 : W5.cell? ⟨XB, 6, none⟩ = some (.slice (some ⟨TB, 0, none⟩) 1 1) := by rw [Lib.cell_of_heap HPR.out.eb]; rfl
              have q7 : W5.cell? ⟨XB, 7, none⟩ = some (.int .u64 0) := by rw [Lib.cell_of_heap HPR.out.eb]; rfl
              have q8 : W5.cell? ⟨XB, 8, none⟩ = some (.int .u64 ((nx k).toNat : Int)) := by rw [Lib.cell_of_heap HPR.out.eb]; rfl
              have q9 : W5.cell? ⟨XB, 9, none⟩ = some (.int .i64 0) := by rw [Lib.cell_of_heap HPR.out.eb]; rfl
              go_wp2_with (at_builtin; go_must (refine wpList_append_own _ rfl (.tmp 72) (.tmp 74) 48 rfl w.heap.size 41 i0 (.agg #[.int .u64 0, .string ⟨#[]⟩, .int .u64 0, .int .u64 0, .string ⟨#[]⟩, .string ⟨#[]⟩, .slice none 0 0, .int .u64 0, .int .u64 0, .int .i64 0]) 10 120 Tryd.underlying48 hi0 hz0 hz1 hz2 rfl (by decide) _ _ _ rfl (pr_alloc HPR.out _).row ⟨W5.heap.size, 0, none⟩ 1 1 ([.int .u64 (k1 : Int), .string ⟨#[]⟩, .int .u64 0, .int .u64 0, .string ⟨#[]⟩, .string ⟨#[]⟩, .slice (some ⟨TB, 0, none⟩) 1 1, .int .u64 0, .int .u64 ((nx k).toNat : Int), .int .i64 0]) rfl rfl ?pa6 ?pb6 ?pc6 ?pd6 ?pe6 ?_))
              all_goals try exact cell_new_at _ #[.int .u64 (k1 : Int), .string ⟨#[]⟩, .int .u64 0, .int .u64 0, .string ⟨#[]⟩, .string ⟨#[]⟩, .slice (some ⟨TB, 0, none⟩) 1 1, .int .u64 0, .int .u64 ((nx k).toNat : Int), .int .i64 0] _ _ (by first | rfl | simp [World.setCell])
              case pb6 => first | exact ⟨rfl, rfl, rfl, rfl, rfl, rfl, rfl, rfl⟩ | (simp only [List.mem_cons, List.not_mem_nil, or_false, forall_eq_or_imp, forall_eq]; exact ⟨rfl, rfl, rfl, rfl, rfl, rfl, rfl, rfl, rfl, rfl⟩)
              case pc6 => unfold maxLen; omega
              case pd6 => omega
              case pe6 => have := HPR.out.bel.size; first | omega | (simp only [World.size_alloc]; omega)
              intro v' w5 hown hgrow _
              have HPO : Hid (Po w w.heap.size MB A2 nw c2 st (fun i => if i = k then TB else T i) p nx (k + 1) v' w5) := by
                refine pr_app (pr_alloc HPR.out _) ?_ hgrow
                rw [HK1.out] at hown
                exact hown
              clear hown hgrow HPR
              generalize (fun i => if i = k then TB else T i) = T' at HPO
              go_wp2
              go_roundw
              case rel => exact ⟨k1, T', rfl, by have := HK1.out; omega, by rw [HK1.out]; exact HPO⟩
              case measure => have := HK1.out; simp only [intOf, Int.toNat_natCast]; omega
            · have hpk : p k = false := by
                refine (congrFun HPP.out k).trans ?_
                have : now < ((nx k).toNat : Int) := by omega
                simp [this]
              have HPR : Hid (Pr w w.heap.size MB A2 nw c2 st T p nx k (.slice va k vc) XB TB W4) := pr_none HQ.out hs hpk
              clear hpk
              go_wp2_with (at_builtin; go_must (refine wpList_append_own _ rfl (.tmp 72) (.tmp 74) 48 rfl w.heap.size 41 i0 (.agg #[.int .u64 0, .string ⟨#[]⟩, .int .u64 0, .int .u64 0, .string ⟨#[]⟩, .string ⟨#[]⟩, .slice none 0 0, .int .u64 0, .int .u64 0, .int .i64 0]) 10 120 Tryd.underlying48 hi0 hz0 hz1 hz2 rfl (by decide) _ _ _ rfl (pr_alloc HPR.out _).row ⟨W4.heap.size, 0, none⟩ 1 1 ([.int .u64 (k1 : Int), .string ⟨#[]⟩, .int .u64 0, .int .u64 0, .string ⟨#[]⟩, .string ⟨#[]⟩, .slice (some ⟨TB, 0, none⟩) 1 1, .int .u64 0, .int .u64 ((nx k).toNat : Int), .int .i64 0]) rfl rfl ?pa7 ?pb7 ?pc7 ?pd7 ?pe7 ?_))
              all_goals try exact cell_new_at _ #[.int .u64 (k1 : Int), .string ⟨#[]⟩, .int .u64 0, .int .u64 0, .string ⟨#[]⟩, .string ⟨#[]⟩, .slice (some ⟨TB, 0, none⟩) 1 1, .int .u64 0, .int .u64 ((nx k).toNat : Int), .int .i64 0] _ _ (by first | rfl | simp [World.setCell])
              case pb7 => first | exact ⟨rfl, rfl, rfl, rfl, rfl, rfl, rfl, rfl⟩ | (simp only [List.mem_cons, List.not_mem_nil, or_false, forall_eq_or_imp, forall_eq]; exact ⟨rfl, rfl, rfl, rfl, rfl, rfl, rfl, rfl, rfl, rfl⟩)
              case pc7 => unfold maxLen; omega
              case pd7 => omega
              case pe7 => have := HPR.out.bel.size; first | omega | (simp only [World.size_alloc]; omega)
              intro v' w5 hown hgrow _
              have HPO : Hid (Po w w.heap.size MB A2 nw c2 st (fun i => if i = k then TB else T i) p nx (k + 1) v' w5) := by
                refine pr_app (pr_alloc HPR.out _) ?_ hgrow
                rw [HK1.out] at hown
                exact hown
              clear hown hgrow HPR
              generalize (fun i => if i = k then TB else T i) = T' at HPO
              go_wp2
              go_roundw
              case rel => exact ⟨k1, T', rfl, by have := HK1.out; omega, by rw [HK1.out]; exact HPO⟩
              case measure => have := HK1.out; simp only [intOf, Int.toNat_natCast]; omega
        · have hlz : ¬ (k : Int) < (len3 : Int) := by omega
          have hs : st k = 0 := (congrFun HST.out k).trans (if_neg (fun e => hl e.1))
          by_cases hle : ((nx k).toNat : Int) ≤ now
          · have hpk : p k = true := by
              refine (congrFun HPP.out k).trans ?_
              have : ¬ now < ((nx k).toNat : Int) := by omega
              simp [hs, this]
            obtain ⟨W5, hrun, hm5, hg5⟩ := HQ.out.po.map.update law36 Tryd.underlying56 (by unfold maxLen; omega) (key := .int .u64 (k1 : Int)) (val := .int .i64 (k : Int)) (kl := .int .u64 (k1 : Int)) (keyOf_int_mk Tryd.underlying36 (Go.WalkArith.wf_u64 ⟨by omega, by have := HK1.out; omega⟩)) (plainElem_int Tryd.underlying3 (Go.WalkArith.wf_i64 ⟨by omega, by omega⟩))
            have HPR : Hid (Pr w w.heap.size MB A2 nw c2 st T p nx k (.slice va k vc) XB TB W5) := by
              rw [HK1.out] at hm5
              exact pr_put HQ.out hs hpk HMB.out hm5 hg5
            clear hm5 hg5 hpk
            have q0 : W5.cell? ⟨XB, 0, none⟩ = some (.int .u64 (k1 : Int)) := by rw [Lib.cell_of_heap HPR.out.eb, HK1.out]; rfl
            have q1 : W5.cell? ⟨XB, 1, none⟩ = some (.string ⟨#[]⟩) := by rw [Lib.cell_of_heap HPR.out.eb]; rfl
            have q2 : W5.cell? ⟨XB, 2, none⟩ = some (.int .u64 0) := by rw [Lib.cell_of_heap HPR.out.eb]; rfl
            have q3 : W5.cell? ⟨XB, 3, none⟩ = some (.int .u64 0) := by rw [Lib.cell_of_heap HPR.out.eb]; rfl
            have q4 : W5.cell? ⟨XB, 4, none⟩ = some (.string ⟨#[]⟩) := by rw [Lib.cell_of_heap HPR.out.eb]; rfl
            have q5 : W5.cell? ⟨XB, 5, none⟩ = some (.string ⟨#[]⟩) := by rw [Lib.cell_of_heap HPR.out.eb]; rfl
            have q6 : W5.cell? ⟨XB, 6, none⟩ = some (.slice (some ⟨TB, 0, none⟩) 1 1) := by rw [Lib.cell_of_heap HPR.out.eb]; rfl
            have q7 : W5.cell? ⟨XB, 7, none⟩ = some (.int .u64 0) := by rw [Lib.cell_of_heap HPR.out.eb]; rfl
            have q8 : W5.cell? ⟨XB, 8, none⟩ = some (.int .u64 ((nx k).toNat : Int)) := by rw [Lib.cell_of_heap HPR.out.eb]; rfl
            have q9 : W5.cell? ⟨XB, 9, none⟩ = some (.int .i64 0) := by rw [Lib.cell_of_heap HPR.out.eb]; rfl
            go_wp2_with (at_builtin; go_must (refine wpList_append_own _ rfl (.tmp 72) (.tmp 74) 48 rfl w.heap.size 41 i0 (.agg #[.int .u64 0, .string ⟨#[]⟩, .int .u64 0, .int .u64 0, .string ⟨#[]⟩, .string ⟨#[]⟩, .slice none 0 0, .int .u64 0, .int .u64 0, .int .i64 0]) 10 120 Tryd.underlying48 hi0 hz0 hz1 hz2 rfl (by decide) _ _ _ rfl (pr_alloc HPR.out _).row ⟨W5.heap.size, 0, none⟩ 1 1 ([.int .u64 (k1 : Int), .string ⟨#[]⟩, .int .u64 0, .int .u64 0, .string ⟨#[]⟩, .string ⟨#[]⟩, .slice (some ⟨TB, 0, none⟩) 1 1, .int .u64 0, .int .u64 ((nx k).toNat : Int), .int .i64 0]) rfl rfl ?pa8 ?pb8 ?pc8 ?pd8 ?pe8 ?_))
            all_goals try exact cell_new_at _ #[.int .u64 (k1 : Int), .string ⟨#[]⟩, .int .u64 0, .int .u64 0, .string ⟨#[]⟩, .string ⟨#[]⟩, .slice (some ⟨TB, 0, none⟩) 1 1, .int .u64 0, .int .u64 ((nx k).toNat : Int), .int .i64 0] _ _ (by first | rfl | simp [World.setCell])
            case pb8 => first | exact ⟨rfl, rfl, rfl, rfl, rfl, rfl, rfl, rfl⟩ | (simp only [List.mem_cons, List.not_mem_nil, or_false, forall_eq_or_imp, forall_eq]; exact ⟨rfl, rfl, rfl, rfl, rfl, rfl, rfl, rfl, rfl, rfl⟩)
            case pc8 => unfold maxLen; omega
            case pd8 => omega
            case pe8 => have := HPR.out.bel.size; first | omega | (simp only [World.size_alloc]; omega)
            intro v' w5 hown hgrow _
            have HPO : Hid (Po w w.heap.size MB A2 nw c2 st (fun i => if i = k then TB else T i) p nx (k + 1) v' w5) := by
              refine pr_app (pr_alloc HPR.out _) ?_ hgrow
              rw [HK1.out] at hown
              exact hown
            clear hown hgrow HPR
            generalize (fun i => if i = k then TB else T i) = T' at HPO
            go_wp2
            go_roundw
            case rel => exact ⟨k1, T', rfl, by have := HK1.out; omega, by rw [HK1.out]; exact HPO⟩
            case measure => have := HK1.out; simp only [intOf, Int.toNat_natCast]; omega
          · have hpk : p k = false := by
              refine (congrFun HPP.out k).trans ?_
              have : now < ((nx k).toNat : Int) := by omega
              simp [this]
            have HPR : Hid (Pr w w.heap.size MB A2 nw c2 st T p nx k (.slice va k vc) XB TB W4) := pr_none HQ.out hs hpk
            clear hpk
            go_wp2_with (at_builtin; go_must (refine wpList_append_own _ rfl (.tmp 72) (.tmp 74) 48 rfl w.heap.size 41 i0 (.agg #[.int .u64 0, .string ⟨#[]⟩, .int .u64 0, .int .u64 0, .string ⟨#[]⟩, .string ⟨#[]⟩, .slice none 0 0, .int .u64 0, .int .u64 0, .int .i64 0]) 10 120 Tryd.underlying48 hi0 hz0 hz1 hz2 rfl (by decide) _ _ _ rfl (pr_alloc HPR.out _).row ⟨W4.heap.size, 0, none⟩ 1 1 ([.int .u64 (k1 : Int), .string ⟨#[]⟩, .int .u64 0, .int .u64 0, .string ⟨#[]⟩, .string ⟨#[]⟩, .slice (some ⟨TB, 0, none⟩) 1 1, .int .u64 0, .int .u64 ((nx k).toNat : Int), .int .i64 0]) rfl rfl ?pa9 ?pb9 ?pc9 ?pd9 ?pe9 ?_))
            all_goals try exact cell_new_at _ #[.int .u64 (k1 : Int), .string ⟨#[]⟩, .int .u64 0, .int .u64 0, .string ⟨#[]⟩, .string ⟨#[]⟩, .slice (some ⟨TB, 0, none⟩) 1 1, .int .u64 0, .int .u64 ((nx k).toNat : Int), .int .i64 0] _ _ (by first | rfl | simp [World.setCell])
            case pb9 => first | exact ⟨rfl, rfl, rfl, rfl, rfl, rfl, rfl, rfl⟩ | (simp only [List.mem_cons, List.not_mem_nil, or_false, forall_eq_or_imp, forall_eq]; exact ⟨rfl, rfl, rfl, rfl, rfl, rfl, rfl, rfl, rfl, rfl⟩)
            case pc9 => unfold maxLen; omega
            case pd9 => omega
            case pe9 => have := HPR.out.bel.size; first | omega | (simp only [World.size_alloc]; omega)
            intro v' w5 hown hgrow _
            have HPO : Hid (Po w w.heap.size MB A2 nw c2 st (fun i => if i = k then TB else T i) p nx (k + 1) v' w5) := by
              refine pr_app (pr_alloc HPR.out _) ?_ hgrow
              rw [HK1.out] at hown
              exact hown
            clear hown hgrow HPR
            generalize (fun i => if i = k then TB else T i) = T' at HPO
            go_wp2
            go_roundw
            case rel => exact ⟨k1, T', rfl, by have := HK1.out; omega, by rw [HK1.out]; exact HPO⟩
            case measure => have := HK1.out; simp only [intOf, Int.toNat_natCast]; omega
    · have hltz : ¬ (k : Int) < (n : Int) := by omega
      obtain rfl : k = n := by omega
      have hs2 := HP.out.bel.size
      have kb : wr.cell? ⟨w.heap.size, 0, none⟩ = some (.slice A2 nw c2) := by rw [Lib.cell_of_heap HP.out.box]; rfl
      have CD := Lib.hid (due_any va k vc (foE T nx) (foG st) A2 nw c2 h now wr HEN.out (fun i hi => po_tos HP.out i hi) (fun i hi => by show 1 ≤ _; omega) (wds_below HW.out HP.out.bel) (by omega) (by omega))
      rw [dueR_ids, ← lstI_len] at CD
      obtain ⟨L, hL⟩ : ∃ L, L = lstI (foE T nx) (foG st) nw h now k := ⟨_, rfl⟩
      have HLF := Lib.hid (lst_facts T nx st nw h now p HPP.out k L hL)
      rw [← hL] at CD
      clear hL
      go_wp2_with fail
      refine CD.out.mono ?_
      rintro e w2 ⟨⟨v2, rfl, o2⟩, b2⟩
      have HM2 := Lib.hid (map_below HP.out.map b2)
      have HB2 := Lib.hid (HP.out.bel.trans (b2.mono hs2))
      have HBX : Hid (w2.heap[w.heap.size]? = some (.cells #[.slice A2 nw c2] 49 (0, 0))) := (b2.block _ (Array.getElem?_eq_some_iff.1 HP.out.box).1).trans HP.out.box
      have HMW := Lib.hid HP.out.map.lt
      have HO2 := Lib.hid o2
      obtain ⟨a2, c2', rfl, F2⟩ := own_form o2
      have HF2 := Lib.hid F2
      have HN2 : Hid (∀ g, a2 = some ⟨g, 0, none⟩ → g ≠ MB) := fun g e => by
        have q := (HO2.out.lt g (by rw [e]; rfl)).1
        have q2 := HMW.out
        omega
      clear F2 o2 b2 HO2 CD kb HMW
      have HSZ := Lib.hid HLF.out.1
      have HLK : L.length ≤ k := HLF.out.2.2.2.1
      have hlen := HM2.out.len Tryd.underlying56 3
      rw [HSZ.out] at hlen
      go_wp2_with fail
      clear hlen
      have HG0 : Hid (w2.grownBy w2 (some MB)) := World.grownBy.refl _ _
      have HMX : Hid (w.heap.size ≠ MB) := fun e => by
        obtain ⟨es, cl, hmap⟩ := map_block HM2.out
        rw [← e, HBX.out] at hmap
        cases hmap
      have HM0 : Hid (w2.ownsMap Tryd.prog 36 (plainElem Tryd.prog 3) MB k (lftT p k L 0)) := HM2.out
      go_loopw [89] (fun u W => ∃ q : Nat, u = .int .i64 q ∧ q ≤ L.length ∧ Hid (w2.grownBy W (some MB)) ∧ Hid (W.ownsMap Tryd.prog 36 (plainElem Tryd.prog 3) MB k (lftT p k L q))) (fun u _ => L.length - (intOf u).toNat)
      case atStart => exact ⟨0, rfl, by omega, HG0, HM0⟩
      case round =>
        clear HG0 HM0 HM2
        obtain ⟨q, rfl, hq, HG, HM⟩ := hrel
        by_cases hql : q < L.length
        · have hqlz : (q : Int) < (L.length : Int) := by omega
          obtain ⟨g2, rfl, gl2, f2⟩ := HF2.out (by omega)
          have hgn := HN2.out g2 rfl
          have eid : ∀ j (hj : j < L.length), (L.map fun i => Value.int .u64 (foE T nx i).id)[j]? = some (.int .u64 ((L[j] : Nat) + 1 : Int)) := fun j hj => by
            rw [List.getElem?_map, List.getElem?_eq_getElem hj]; rfl
          obtain ⟨i, hi⟩ : ∃ i, i = L[q] := ⟨_, rfl⟩
          have hik : i < k := by rw [hi]; exact (HLF.out.2.1 _ (List.getElem_mem hql)).1
          have d2 : wr.cell? ⟨g2, q, none⟩ = some (.int .u64 ((i : Int) + 1)) := by rw [hi]; exact cell_grown HG.out (f2 _ _ (eid q hql)) hgn
          have hlk := look_here HM.out HLF.out.2.2.1 HLF.out.2.1 (by omega) hql
          obtain ⟨w5, hdel, hm5, hg5⟩ := del_here HM.out HLF.out.2.1 (by omega) hql 0
          rw [← hi] at hlk hdel
          obtain ⟨i1, hi1⟩ : ∃ i1 : Nat, i1 = i + 1 := ⟨_, rfl⟩
          have hz : (i : Int) + 1 = (i1 : Int) := by omega
          rw [hz] at d2 hlk hdel
          have HG5 := Lib.hid (grown_trans HG.out hg5)
          have HM5 := Lib.hid hm5
          have HI := Lib.hid hi
          clear hz hi1 hm5 hg5 hi
          by_cases h0 : q = 0
          · subst h0
            clear f2 eid
            go_wp2_with fail
            go_roundw
            case rel => exact ⟨1, rfl, by omega, HG5, HM5⟩
            case measure => simp [intOf]; omega
          · obtain ⟨q0, hq0⟩ : ∃ q0, q = q0 + 1 := ⟨q - 1, by omega⟩
            have hq0l : q0 < L.length := by omega
            obtain ⟨j, hj⟩ : ∃ j, j = L[q0] := ⟨_, rfl⟩
            have hjk : j < k := by rw [hj]; exact (HLF.out.2.1 _ (List.getElem_mem hq0l)).1
            obtain ⟨j1, hj1⟩ : ∃ j1 : Nat, j1 = j + 1 := ⟨_, rfl⟩
            have d3 : w5.cell? ⟨g2, q0, none⟩ = some (.int .u64 (j1 : Int)) := by
              refine cell_grown HG5.out ((f2 _ _ (eid q0 hq0l)).trans ?_) hgn
              rw [hj1, hj]; rfl
            have HS : Hid (Side nx nw h j i) := by
              have s := HLF.out.2.2.2.2 q0 (by omega)
              have hie : L[q0 + 1]'(by omega) = i := by rw [HI.out]; congr 1; exact hq0.symm
              rw [hie, ← hj] at s
              exact s
            have kb5 : w5.cell? ⟨w.heap.size, 0, none⟩ = some (.slice A2 nw c2) := by
              exact cell_grown HG5.out (by rw [Lib.cell_of_heap HBX.out]; rfl) HMX.out
            have HW5 : Hid (Wds w5 A2 nw h) := fun a ha => by
              obtain ⟨b, o, e, u⟩ := HW.out a ha
              have hb := World.block_lt_of_cell? _ _ u
              refine ⟨b, o, e, cell_grown HG5.out (by rw [HB2.out.cell (p := ⟨b, o + a, none⟩) hb]; exact u) (fun e2 => ?_)⟩
              have h1 : b < w.heap.size := hb
              have h2 := HMB.out
              omega
            have hw1 : IntKind.i64.wrap ((q : Int) - 1) = (q0 : Int) := by rw [IntKind.wrap_i64]; omega
            have hw2 : IntKind.i64.wrap (j1 : Int) = (j1 : Int) := by rw [IntKind.wrap_i64]; omega
            have hw3 : IntKind.i64.wrap ((j1 : Int) - 1) = (j : Int) := by rw [IntKind.wrap_i64]; omega
            have C1 := Lib.hid (weight_any A2 nw c2 h w.heap.size j w5 kb5 HW5.out)
            have C2 := Lib.hid (weight_any A2 nw c2 h w.heap.size i w5 kb5 HW5.out)
            have HQ0 := Lib.hid hq0
            have HJ1 := Lib.hid hj1
            clear hq0 hj1 hj f2 eid kb5
            go_wp2_with fail
            refine C1.out.mono ?_
            rintro e w' ⟨rfl, rfl⟩
            go_wp2_with fail
            refine C2.out.mono ?_
            rintro e w' ⟨rfl, rfl⟩
            have C3 := Lib.hid (rcompare_any ((Qw nw h j).toNat : Int) ((Qw nw h i).toNat : Int) w5 (Int.natCast_nonneg _) (by have := (Qw nw h j).toNat_lt; omega) (Int.natCast_nonneg _) (by have := (Qw nw h i).toNat_lt; omega))
            simp only [Int.toNat_natCast] at C3
            unfold Side at HS
            generalize Wgh.cmpW (Qw nw h j).toNat (Qw nw h i).toNat = cw at C3 HS
            go_wp2_with fail
            refine C3.out.mono ?_
            rintro e w' ⟨rfl, rfl⟩
            clear C1 C2 C3
            obtain ⟨b, o, rfl, u1⟩ := HX.out j hjk
            obtain ⟨b', o', eb, u2⟩ := HX.out i hik
            obtain ⟨rfl, rfl⟩ : b = b' ∧ o = o' := by cases eb; exact ⟨rfl, rfl⟩
            have hbl : b < w.heap.size := World.block_lt_of_cell? _ _ u1
            have hbm : b ≠ MB := by have := HMB.out; omega
            have d4 : w5.cell? ⟨b, o + j, none⟩ = some (.int .u64 ((nx j).toNat : Int)) := cell_grown HG5.out (by rw [HB2.out.cell (p := ⟨b, o + j, none⟩) hbl]; exact u1) hbm
            have d5 : w5.cell? ⟨b, o + i, none⟩ = some (.int .u64 ((nx i).toNat : Int)) := cell_grown HG5.out (by rw [HB2.out.cell (p := ⟨b, o + i, none⟩) hbl]; exact u2) hbm
            obtain ⟨hs1', hs2'⟩ := HS.out
            have HR : Hid (∀ m, w2.grownBy (w5.drewN m) (some MB)) := fun m => grown_drewN HG5.out m
            have HR2 : Hid (∀ m, (w5.drewN m).ownsMap Tryd.prog 36 (plainElem Tryd.prog 3) MB k (lftT p k L (q + 1))) := fun m => HM5.out
            clear u1 u2 eb hbl hbm HS
            generalize ((nx j).toNat : Int) = xj at *
            generalize ((nx i).toNat : Int) = xi at *
            by_cases hc : cw = 0
            · obtain ⟨hle, hlt2⟩ := hs2' hc
              subst hc
              by_cases he : xj = xi
              · have hji := hlt2 he
                subst he
                have hjz : (j : Int) < (i : Int) := by omega
                clear hs1' hs2' hle hlt2
                go_wp2_with fail
                go_quiet (fail)
                go_wp2
                go_roundw
                case rel => exact ⟨q + 1, by go_num, by omega, HR.out _, HR2.out _⟩
                case measure => simp [intOf]; omega
              · have hlt3 : decide (xi < xj) = false := by simp; omega
                have he2 : (xj == xi) = false := beq_false_of_ne he
                clear hs1' hs2' hle hlt2 he
                go_wp2_with fail
                go_quiet (fail)
                go_wp2
                go_roundw
                case rel => exact ⟨q + 1, by go_num, by omega, HR.out _, HR2.out _⟩
                case measure => simp [intOf]; omega
            · have hc3 : decide (0 < cw) = false := by simp; omega
              have hc2 : (cw == 0) = false := beq_false_of_ne hc
              clear hs1' hs2' hc
              go_wp2_with fail
              go_quiet (fail)
              go_wp2
              go_roundw
              case rel => exact ⟨q + 1, by go_num, by omega, HR.out _, HR2.out _⟩
              case measure => simp [intOf]; omega
        · have hqlz : ¬ (q : Int) < (L.length : Int) := by omega
          have HE : Hid (Below w.heap.size w wr) := HB2.out.grown HG.out HB2.out.size (fun q e => by cases e; exact HMB.out)
          go_wp2_with fail
          go_ret
          exact ⟨rfl, HE.out⟩
theorem planOrder_any (m : Int) (A : Option Addr) (n c : Nat) (nx : Nat → UInt64) (A2 : Option Addr) (nw c2 : Nat) (h : Nat → UInt64) (A3 : Option Addr) (len3 c3 : Nat) (dn : Nat → Bool) (now : Int) (w : World) (hm : w.cell? ⟨0, 0, none⟩ = some (.int .i64 m)) (hX : Wds w A n nx) (hn : n ≤ reachBytes) (hW : Wds w A2 nw h) (hnw : nw ≤ reachBytes) (hD : Bos w A3 len3 dn) (hl3 : len3 ≤ maxLen) (_ : (Lit.int .u64 now).wf) :
    Calls Tryd.prog 8 #[.slice A n c, .slice A2 nw c2, .slice A3 len3 c3, .int .u64 now] w fun e w' => e = .returned (.bool true) ∧ Below w.heap.size w w' := order_law A n c nx A2 nw c2 h A3 len3 c3 dn now m w hX hW hD (Nat.le_trans hn (by decide +kernel)) (Nat.le_trans hnw (by decide +kernel)) (Nat.le_trans hl3 (by decide +kernel)) hm
end Go.Proofs.YtocjjfjcepflnaaDoor
