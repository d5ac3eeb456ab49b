/-
  PROVED HERE: what Due of the answer computes.
-/
import Derived.Test.YtocjjfjcepflnaaDoorPdu
import Derived.Deep.RegionHeld3
import Derived.Deep.QuietTactic
set_option linter.unusedVariables false
namespace Go.Proofs.YtocjjfjcepflnaaDoor
open Go.RowKit Go.Shelf Go.Lib Go.Sort
theorem wtB_succ (g : Nat → To3) (k : Nat) : wtB (k + 1) g = (wtB k g || (g k).st == 0) := by
  unfold wtB
  rw [List.range_succ, List.any_append]
  simp
/-- The row of what is due, in memory. -/
abbrev rowI (F : Nat → En) (nw : Nat) (h : Nat → UInt64) (L : List Nat) : List Value := L.flatMap fun i => dvL (F i) (Qw nw h i)
/-- What the loop that seeks a place knows. -/
structure Dz (w : World) (F : Nat → En) (nw : Nat) (h : Nat → UInt64) (L : List Nat) (g c X i : Nat) (W : World) : Prop where
  row : W.ownsRow w.heap.size 80 11 (.slice (some ⟨g, 0, none⟩) L.length c) L.length (rowI F nw h L)
  blk : W.heap[X]? = some (.cells (dvA (F i) (Qw nw h i)) 80 (0, 0))
  bel : Below w.heap.size w W
theorem dz_next {w W W1 : World} {F : Nat → En} {nw : Nat} {h : Nat → UInt64} {L : List Nat} {g c X i : Nat} (z : Dz w F nw h L g c X i W) (b : Below W.heap.size W W1) : Dz w F nw h L g c X i W1 :=
  ⟨own_below z.row b, (b.block _ (Array.getElem?_eq_some_iff.1 z.blk).1).trans z.blk, z.bel.trans (b.mono z.bel.size)⟩

set_option maxRecDepth 100000 in
set_option maxHeartbeats 8000000 in
theorem rdue_any (A : Option Addr) (n c0 : Nat) (F : Nat → En) (G : Nat → Nat → To3) (A2 : Option Addr) (nw c2 : Nat) (h : Nat → UInt64) (now : Int) (w : World) (hE : Ens w A n F) (hT : ∀ k, k < n → Tos w (F k).A (F k).n (G k)) (hN : ∀ k, k < n → (F k).n ≤ 4611686018427387904) (hW : Wds w A2 nw h) (hn : n ≤ 1000000) (hnw : nw ≤ 4611686018427387904) :
    Calls Tryd.prog 25 #[.slice A n c0, .slice A2 nw c2, .int .u64 now] w fun e w' => (∃ v, e = .returned v ∧ w'.ownsRow w.heap.size 36 1 v (lstI F G nw h now n).length ((lstI F G nw h now n).map fun i => .int .u64 (F i).id)) ∧ Below w.heap.size w w' := by
  obtain ⟨i0, hi0, hz0, hz1, hz2⟩ := info_parts info80
  have HE := Lib.hid hE
  have HT := Lib.hid hT
  have HN := Lib.hid hN
  have HW := Lib.hid hW
  clear hE hT hN hW
  go_enter Tryd.func25, Tryd.ntmps25
  go_wp2
  go_loopw [8, 7] (fun u v wr => ∃ i g c : Nat, u = .int .i64 i ∧ v = .slice (some ⟨g, 0, none⟩) (lstI F G nw h now i).length c ∧ i ≤ n ∧ Hid (wr.ownsRow w.heap.size 80 11 (.slice (some ⟨g, 0, none⟩) (lstI F G nw h now i).length c) (lstI F G nw h now i).length (rowI F nw h (lstI F G nw h now i))) ∧ Hid (Below w.heap.size w wr)) (fun u _ _ => n - (intOf u).toNat)
  case atStart => exact ⟨0, w.heap.size, 0, rfl, rfl, by omega, World.ownsRow_lit w #[] 0 (Nat.le_refl _) (by unfold maxLen; omega) rfl, (Below.refl _ _).alloc (Nat.le_refl _) _⟩
  case round =>
    obtain ⟨i, g, c, rfl, rfl, hi, HO, HB⟩ := hrel
    by_cases hlt : i < n
    · have hltz : (i : Int) < (n : Int) := by omega
      have HE2 := Lib.hid (ens_below HE.out HB.out)
      have HW2 := Lib.hid (wds_below HW.out HB.out)
      have HT2 := Lib.hid (tos_below (HT.out i hlt) HB.out)
      obtain ⟨b1, o1, rfl, t0, t1, t2, t3, t4, t5, t6, t7, t8, t9⟩ := HE2.out i hlt
      have hsz := HB.out.size
      have hni := HN.out i hlt
      have HP : Hid (pdB F G now i = (!decide (now < (F i).next) && wtB (F i).n (G i))) := rfl
      have HST := Lib.hid (fun j => lstI_step F G nw h now i j)
      have HNO := Lib.hid (lstI_no F G nw h now i)
      have HLN : Hid ((lstI F G nw h now i).length ≤ i) := by
        have q := dueT_len F G nw h now i
        rw [← lstI_len] at q
        exact q
      have HLL := Lib.hid (fun j => lstI_lt F G nw h now i j)
      have HWS := Lib.hid (wtB_succ (G i))
      generalize lstI F G nw h now i = L at *
      obtain ⟨x, hx⟩ : ∃ x, x = F i := ⟨_, rfl⟩
      obtain ⟨gg, hgg⟩ : ∃ gg, gg = G i := ⟨_, rfl⟩
      rw [← hx] at t0 t1 t2 t3 t4 t5 t6 t7 t8 t9 hni HP HT2
      rw [← hgg] at HP HT2 HWS
      have HX := Lib.hid hx
      clear hx hgg
      go_wp2_with fail
      go_loop [10, 9] (fun u v => ∃ k : Nat, u = .int .i64 k ∧ v = .bool (wtB k gg) ∧ k ≤ x.n) (fun u _ => x.n - (intOf u).toNat)
      case atStart => exact ⟨0, rfl, rfl, by omega⟩
      case round =>
        obtain ⟨k, rfl, rfl, hk⟩ := hrel
        by_cases hkn : k < x.n
        · have hknz : (k : Int) < (x.n : Int) := by omega
          obtain ⟨b3, o3, hA3, ⟨s1, s2⟩, s3⟩ := HT2.out k hkn
          rw [hA3] at t6
          have HW1 := Lib.hid (HWS.out k)
          generalize hwb : wtB k gg = wb at *
          cases wb with
          | true =>
            have HV : Hid (wtB (k + 1) gg = true) := by show _ = _; rw [HW1.out]; rfl
            go_wp2_with fail
            go_round
            case rel => exact ⟨k + 1, by go_num, by rw [HV.out], by omega⟩
            case measure => simp [intOf]; omega
          | false =>
            have HV : Hid (wtB (k + 1) gg = ((gg k).st == 0)) := by show _ = _; rw [HW1.out]; rfl
            generalize (gg k).st = st at *
            go_wp2_with fail
            go_round
            case rel => exact ⟨k + 1, by go_num, by rw [HV.out], by omega⟩
            case measure => simp [intOf]; omega
        · have hknz : ¬ (k : Int) < (x.n : Int) := by omega
          obtain rfl : k = x.n := by omega
          clear HWS
          by_cases hnx : now < x.next
          · have HS1 : Hid (lstI F G nw h now (i + 1) = L) := HNO.out (by rw [HP.out]; simp [hnx])
            have hnx2 : ¬ x.next ≤ now := by omega
            go_wp2_with fail
            go_roundw
            case rel => exact ⟨i + 1, g, c, by go_num, by rw [HS1.out], by omega, by rw [HS1.out]; exact HO.out, HB.out⟩
            case measure => simp [intOf]; omega
          · have hnx2 : x.next ≤ now := by omega
            generalize hwb : wtB x.n gg = wb at *
            cases wb with
            | false =>
              have HS1 : Hid (lstI F G nw h now (i + 1) = L) := HNO.out (by rw [HP.out]; simp)
              go_wp2_with fail
              go_roundw
              case rel => exact ⟨i + 1, g, c, by go_num, by rw [HS1.out], by omega, by rw [HS1.out]; exact HO.out, HB.out⟩
              case measure => simp [intOf]; omega
            | true =>
              have HPY : Hid (pdB F G now i = true) := by show _ = _; rw [HP.out]; simp [hnx]
              have O5 := Lib.hid (HO.out.alloc (.cells (dvA x 0) 80))
              have B5 := Lib.hid (HB.out.alloc hsz (.cells (dvA x 0) 80))
              have K5 : Hid ((wr.alloc (.cells (dvA x 0) 80)).heap[wr.heap.size]? = some (.cells (dvA x 0) 80 (0, 0))) := by show (wr.heap.push _)[wr.heap.size]? = _; rw [Array.getElem?_push_size]
              have hgl : g < wr.heap.size := (HO.out.lt g rfl).2
              by_cases hiw : i < nw
              · have hiwz : (i : Int) < (nw : Int) := by omega
                have HW3 := Lib.hid (wds_below HW.out B5.out)
                obtain ⟨b2, o2, rfl, u0⟩ := HW3.out i hiw
                have u1 : (wr.alloc (.cells #[.int .u64 x.id, .string ⟨x.dom.toArray⟩, .int .u64 x.ep, .int .u64 x.ct, .string ⟨x.fl.toArray⟩, .string ⟨x.fd.toArray⟩, .slice x.A x.n x.c, .int .u64 x.born, .int .u64 x.next, .int .i64 x.tries, .int .u64 0] 80)).cell? ⟨b2, o2 + i, none⟩ = some (.int .u64 ((h i).toNat : Int)) := u0
                clear u0
                have HQ : Hid (Qw nw h i = h i) := if_pos hiw
                have Z5 : Dz w F nw h L g c wr.heap.size i (wr.alloc (.cells (dvA x (h i)) 80)) := by
                  refine ⟨HO.out.alloc _, ?_, HB.out.alloc hsz _⟩
                  rw [HQ.out, ← HX.out]
                  show (wr.heap.push _)[wr.heap.size]? = _
                  rw [Array.getElem?_push_size]
                have HZ5 := Lib.hid Z5
                clear Z5 O5 B5 K5 HQ
                go_wp2_with fail
                generalize wr.heap.size = X at *
                go_wp2_with fail
                go_loopw [12] (fun u wq => ∃ k : Nat, u = .int .i64 k ∧ k ≤ L.length ∧ Hid (Dz w F nw h L g c X i wq) ∧ Hid (k < L.length → ltI F nw h i (L.getD k 0) = true)) (fun u _ => (intOf u).toNat)
                case atStart => exact ⟨L.length, rfl, Nat.le_refl _, HZ5, fun q => absurd q (Nat.lt_irrefl _)⟩
                case round =>
                  clear HZ5
                  obtain ⟨k, rfl, hk, HZ, HK⟩ := hrel
                  by_cases h0 : k = 0
                  · have hkz : ¬ (0 : Int) < (k : Int) := by omega
                    have hd : decide (0 < k) = false := decide_eq_false (by omega)
                    have H1 : Hid (0 < k → ltI F nw h i (L.getD (k - 1) 0) = false) := fun q => by omega
                    clear h0
                    go_wp2_with fail
                    go_quiet (fail)
                    have HZ6 := Lib.hid (dz_next HZ.out (below_drewN (Below.refl wr.heap.size wr) nq))
                    clear HZ
                    generalize wr.drewN nq = W6 at *
                    have HNEW := Lib.hid (HST.out k HPY.out hk HK.out H1.out)
                    have HI := HLN.out
                    have hZs := HZ6.out.bel.size
                    have hgW := (HZ6.out.row.lt g rfl).2
                    have hgb := (HZ6.out.row.lt g rfl).1
                    have hkc2 : L.length ≤ c := by
                      rcases HZ6.out.row.2 with ⟨e, _⟩ | ⟨_, cc, _, e, _, _, hc, _⟩
                      · cases e
                      · injection e with _ _ e5; omega
                    have kz0 : (0 : Int) ≤ (k : Int) := by omega
                    have kz1 : (k : Int) ≤ (L.length : Int) := by omega
                    have kz2 : (k : Int) ≤ (c : Int) := by omega
                    have kc2 : k ≤ c := by omega
                    have HN17 : Hid (∀ W, Below W6.heap.size W6 W → ∀ j u, (rowI F nw h (L.drop k))[j]? = some u → W.cell? ⟨g, k * 11 + j, none⟩ = some u) := fun W b j u hu => by
                      have e := flat_drop (fun i => dvL (F i) (Qw nw h i)) 11 (fun i => dvL_len _ _) L k
                      have hu2 : ((rowI F nw h L).drop (k * 11))[j]? = some u := by rw [← e]; exact hu
                      rw [List.getElem?_drop] at hu2
                      have q := HZ6.out.row.cells rfl (k * 11 + j) u hu2
                      rw [add_off, Nat.zero_add] at q
                      rw [b.cell (p := ⟨g, k * 11 + j, none⟩) hgW]
                      exact q
                    have HL17 : Hid ((rowI F nw h (L.drop k)).length = (L.length - k) * 11) := by
                      show _ = _
                      rw [flat_length (fun i => dvL (F i) (Qw nw h i)) 11 (fun i => dvL_len _ _), List.length_drop]
                    have HO17 : Hid (∀ M : List Nat, ∀ u ∈ rowI F nw h M, u.oneCell' = true) := fun M u hu => by
                      obtain ⟨y, _, hy⟩ := List.mem_flatMap.1 hu
                      exact dvL_one _ _ u hy
                    obtain ⟨xx, hxx⟩ : ∃ xx, xx = F i := ⟨_, rfl⟩
                    obtain ⟨qx, hqx⟩ : ∃ qx, qx = Qw nw h i := ⟨_, rfl⟩
                    have x0 := fun (W : World) (z : Dz w F nw h L g c X i W) => (show W.cell? ⟨X, 0, none⟩ = some (.int .u64 xx.id) from by rw [hxx, Lib.cell_of_heap z.blk]; rfl)
                    have x1 := fun (W : World) (z : Dz w F nw h L g c X i W) => (show W.cell? ⟨X, 1, none⟩ = some (.string ⟨xx.dom.toArray⟩) from by rw [hxx, Lib.cell_of_heap z.blk]; rfl)
                    have x2 := fun (W : World) (z : Dz w F nw h L g c X i W) => (show W.cell? ⟨X, 2, none⟩ = some (.int .u64 xx.ep) from by rw [hxx, Lib.cell_of_heap z.blk]; rfl)
                    have x3 := fun (W : World) (z : Dz w F nw h L g c X i W) => (show W.cell? ⟨X, 3, none⟩ = some (.int .u64 xx.ct) from by rw [hxx, Lib.cell_of_heap z.blk]; rfl)
                    have x4 := fun (W : World) (z : Dz w F nw h L g c X i W) => (show W.cell? ⟨X, 4, none⟩ = some (.string ⟨xx.fl.toArray⟩) from by rw [hxx, Lib.cell_of_heap z.blk]; rfl)
                    have x5 := fun (W : World) (z : Dz w F nw h L g c X i W) => (show W.cell? ⟨X, 5, none⟩ = some (.string ⟨xx.fd.toArray⟩) from by rw [hxx, Lib.cell_of_heap z.blk]; rfl)
                    have x6 := fun (W : World) (z : Dz w F nw h L g c X i W) => (show W.cell? ⟨X, 6, none⟩ = some (.slice xx.A xx.n xx.c) from by rw [hxx, Lib.cell_of_heap z.blk]; rfl)
                    have x7 := fun (W : World) (z : Dz w F nw h L g c X i W) => (show W.cell? ⟨X, 7, none⟩ = some (.int .u64 xx.born) from by rw [hxx, Lib.cell_of_heap z.blk]; rfl)
                    have x8 := fun (W : World) (z : Dz w F nw h L g c X i W) => (show W.cell? ⟨X, 8, none⟩ = some (.int .u64 xx.next) from by rw [hxx, Lib.cell_of_heap z.blk]; rfl)
                    have x9 := fun (W : World) (z : Dz w F nw h L g c X i W) => (show W.cell? ⟨X, 9, none⟩ = some (.int .i64 xx.tries) from by rw [hxx, Lib.cell_of_heap z.blk]; rfl)
                    have x10 := fun (W : World) (z : Dz w F nw h L g c X i W) => (show W.cell? ⟨X, 10, none⟩ = some (.int .u64 (qx.toNat : Int)) from by rw [hqx, Lib.cell_of_heap z.blk]; rfl)
                    have HXX := Lib.hid hxx
                    have HQX := Lib.hid hqx
                    clear hxx hqx
                    have HSA : Hid (∀ o, W6.heap.size ≤ ((W6.alloc o).drew).heap.size) := fun o => by show W6.heap.size ≤ (W6.alloc o).heap.size; rw [World.size_alloc]; omega
                    have HSB : Hid (∀ o, w.heap.size ≤ ((W6.alloc o).drew).heap.size) := fun o => by show w.heap.size ≤ (W6.alloc o).heap.size; rw [World.size_alloc]; omega
                    have HN18 : Hid (∀ W, Below W6.heap.size W6 W → ∀ j u, (rowI F nw h (L.take k))[j]? = some u → W.cell? ⟨g, j, none⟩ = some u) := fun W b j u hu => by
                      have e := flat_take (fun i => dvL (F i) (Qw nw h i)) 11 (fun i => dvL_len _ _) L k
                      have hu2 : ((rowI F nw h L).take (k * 11))[j]? = some u := by rw [← e]; exact hu
                      rw [List.getElem?_take] at hu2
                      split at hu2
                      · have q := HZ6.out.row.cells rfl j u hu2
                        rw [add_off, Nat.zero_add] at q
                        rw [b.cell (p := ⟨g, j, none⟩) hgW]
                        exact q
                      · cases hu2
                    have HL18 : Hid ((rowI F nw h (L.take k)).length = k * 11) := by
                      show _ = _
                      rw [flat_length (fun i => dvL (F i) (Qw nw h i)) 11 (fun i => dvL_len _ _), List.length_take]
                      congr 1; omega
                    by_cases hck : c = k
                    · have hck2 : k = c := hck.symm
                      clear hck
                      subst hck2
                      have hLk : L.length - k = 0 := by omega
                      have HL17z : Hid ((rowI F nw h (L.drop k)).length = 0 * 11) := by show _ = _; rw [HL17.out, hLk]
                      clear hLk
                      go_wp2
                      go_region_held3 (fun W => Dz w F nw h L g k X i W) (first | assumption | exact HZ6.out | exact dz_next HZ6.out (Below.refl _ _).drew | exact dz_next (by assumption) (Below.refl _ _).drew | exact dz_next (by assumption) ((Below.refl _ _).alloc (Nat.le_refl _) _) | exact dz_next HZ6.out (((Below.refl W6.heap.size W6).alloc (Nat.le_refl _) (.cells (dvA xx qx) 80)).drew.grown (by assumption) (HSA.out _) (fun q hq => by cases hq; exact Nat.le_refl _)))
                        ((refine step_append_at (by rfl) (.tmp 87) (.tmp 90) 78 (by rfl) w.heap.size 80 i0 (.agg #[.int .u64 0, .string ⟨#[]⟩, .int .u64 0, .int .u64 0, .string ⟨#[]⟩, .string ⟨#[]⟩, .slice none 0 0, .int .u64 0, .int .u64 0, .int .i64 0, .int .u64 0]) 11 128 Tryd.underlying78 hi0 hz0 hz1 hz2 (by rfl) (by decide) (.slice (some ⟨W6.heap.size, 0, none⟩) 1 1) 1 (dvL xx qx) (by rfl) (by exact World.ownsRow_lit W6 (dvA xx qx) 1 hZs (by unfold maxLen; omega) rfl) ⟨g, 0, none⟩ 0 0 (rowI F nw h (L.drop k)) (by rfl) HL17z.out (by intro j u hu; rw [List.drop_eq_nil_of_le (by omega)] at hu; cases hu) (HO17.out _) (by unfold maxLen; omega) (by omega) (by exact HSB.out _) ?_; intro v1 w1 hown1 hgrow1 hat1))
                      have HB1 : Hid (Below W6.heap.size W6 w1) := ((Below.refl W6.heap.size W6).alloc (Nat.le_refl _) (.cells (dvA xx qx) 80)).drew.grown hgrow1 (HSA.out _) (fun q hq => by cases hq; exact Nat.le_refl _)
                      obtain ⟨g1, c1', rfl, _, hg1w⟩ := hown1.form (by omega)
                      have HO1 := Lib.hid hown1
                      have hs1 := HB1.out.size
                      clear hown1 hgrow1 hat1
                      go_wp2_with (at_builtin; go_must (refine wpList_append_own_at _ rfl (.tmp 92) (.tmp 95) 78 rfl w.heap.size 80 i0 (.agg #[.int .u64 0, .string ⟨#[]⟩, .int .u64 0, .int .u64 0, .string ⟨#[]⟩, .string ⟨#[]⟩, .slice none 0 0, .int .u64 0, .int .u64 0, .int .i64 0, .int .u64 0]) 11 128 Tryd.underlying78 hi0 hz0 hz1 hz2 rfl (by decide) (.slice (some ⟨w1.heap.size, 0, none⟩) 0 0) 0 [] rfl ?b1 ⟨g, 0, none⟩ k k (rowI F nw h (L.take k)) rfl ?b2 ?b3 ?b4 ?b5 ?b6 ?b7 ?_))
                      case b1 => exact World.ownsRow_lit w1 #[] 0 (by omega) (by unfold maxLen; omega) rfl
                      case b2 => exact HL18.out
                      case b3 => intro j u hu; rw [add_off, Nat.zero_add]; exact HN18.out _ ((HB1.out).trans (((Below.refl w1.heap.size w1).alloc (Nat.le_refl _) _).mono hs1)) j u hu
                      case b4 => exact HO17.out _
                      case b5 => unfold maxLen; omega
                      case b6 => omega
                      case b7 => simp only [World.size_alloc]; omega
                      intro v2 w2 hown2 hg2 _ hat2
                      have hb2 : Below w1.heap.size w1 w2 := ((Below.refl _ _).alloc (Nat.le_refl _) _).grown hg2 (by simp) (by simp [Value.ownBlock])
                      have hv2 : ∀ q, v2.ownBlock = some q → w1.heap.size ≤ q := by
                        intro q hq
                        rcases hat2 with e | e
                        · rw [e] at hq; simp [Value.ownBlock] at hq; omega
                        · rw [e] at hq; simp at hq; omega
                      have HO2 := Lib.hid hown2
                      have HB2 := Lib.hid hb2
                      have HV2 := Lib.hid hv2
                      have hs2 := hb2.size
                      clear hown2 hg2 hat2 hb2 hv2
                      go_wp2_with (at_builtin; go_must (refine wpList_append_own_at _ rfl (.tmp 96) (.tmp 97) 78 rfl w.heap.size 80 i0 (.agg #[.int .u64 0, .string ⟨#[]⟩, .int .u64 0, .int .u64 0, .string ⟨#[]⟩, .string ⟨#[]⟩, .slice none 0 0, .int .u64 0, .int .u64 0, .int .i64 0, .int .u64 0]) 11 128 Tryd.underlying78 hi0 hz0 hz1 hz2 rfl (by decide) v2 k (rowI F nw h (L.take k)) ?d0 HO2.out ⟨g1, 0, none⟩ 1 c1' (dvL xx qx ++ rowI F nw h (L.drop k)) ?d1 ?d2 ?d3 ?d4 ?d5 ?d6 ?d7 ?_))
                      case d0 => rfl
                      case d1 => rfl
                      case d2 => rw [List.length_append, HL17z.out, dvL_len]
                      case d3 =>
                        intro j u hu
                        rw [HB2.out.cell (p := (⟨g1, 0, none⟩ : Addr).add j) (by rw [add_off]; exact hg1w)]
                        exact HO1.out.cells (g := g1) rfl j u hu
                      case d4 =>
                        intro u hu
                        rcases List.mem_append.1 hu with hu | hu
                        · exact dvL_one _ _ u hu
                        · exact HO17.out _ u hu
                      case d5 => unfold maxLen; omega
                      case d6 => omega
                      case d7 => omega
                      intro v3 w3 hown3 hg3 _ _
                      have hb3 : Below w1.heap.size w2 w3 := (Below.refl _ _).grown hg3 (by omega) HV2.out
                      have e3 : rowI F nw h (lstI F G nw h now (i + 1)) = rowI F nw h (L.take k) ++ (dvL xx qx ++ rowI F nw h (L.drop k)) := by
                        rw [HNEW.out, HXX.out, HQX.out]
                        show List.flatMap _ _ = _
                        rw [List.flatMap_append, List.flatMap_cons]
                      have e4 : (lstI F G nw h now (i + 1)).length = k + 1 := by
                        rw [HNEW.out, List.length_append, List.length_cons, List.length_take, List.length_drop]; omega
                      rw [← e3, ← e4] at hown3
                      obtain ⟨g3, c3, rfl, _, _⟩ := hown3.form (by omega)
                      have HO3 := Lib.hid hown3
                      have HB3 : Hid (Below w.heap.size w w3) := ((HZ6.out.bel.trans (HB1.out.mono hZs)).trans (HB2.out.mono (by omega))).trans (hb3.mono (by omega))
                      clear hown3 hg3 hb3 e3 e4
                      go_wp2
                      go_roundw
                      case rel => exact ⟨i + 1, g3, c3, by go_num, rfl, by omega, HO3.out, HB3.out⟩
                      case measure => simp [intOf]; omega
                    go_wp2
                    go_region_held3 (fun W => Dz w F nw h L g c X i W) (first | assumption | exact HZ6.out | exact dz_next HZ6.out (Below.refl _ _).drew | exact dz_next (by assumption) (Below.refl _ _).drew | exact dz_next (by assumption) ((Below.refl _ _).alloc (Nat.le_refl _) _) | exact dz_next HZ6.out (((Below.refl W6.heap.size W6).alloc (Nat.le_refl _) (.cells (dvA xx qx) 80)).drew.grown (by assumption) (HSA.out _) (fun q hq => by cases hq; exact Nat.le_refl _)))
                      ((refine step_append_at (by rfl) (.tmp 87) (.tmp 90) 78 (by rfl) w.heap.size 80 i0 (.agg #[.int .u64 0, .string ⟨#[]⟩, .int .u64 0, .int .u64 0, .string ⟨#[]⟩, .string ⟨#[]⟩, .slice none 0 0, .int .u64 0, .int .u64 0, .int .i64 0, .int .u64 0]) 11 128 Tryd.underlying78 hi0 hz0 hz1 hz2 (by rfl) (by decide) (.slice (some ⟨W6.heap.size, 0, none⟩) 1 1) 1 (dvL xx qx) (by rfl) (by exact World.ownsRow_lit W6 (dvA xx qx) 1 hZs (by unfold maxLen; omega) rfl) ⟨g, k * 11, none⟩ (L.length - k) (c - k) (rowI F nw h (L.drop k)) (by rfl) HL17.out (by intro j u hu; rw [add_off]; exact HN17.out _ (by exact ((Below.refl _ W6).alloc (Nat.le_refl _) (.cells (dvA xx qx) 80)).drew) j u hu) (HO17.out _) (by unfold maxLen; omega) (by omega) (by exact HSB.out _) ?_; intro v1 w1 hown1 hgrow1 hat1))
                    have HB1 : Hid (Below W6.heap.size W6 w1) := ((Below.refl W6.heap.size W6).alloc (Nat.le_refl _) (.cells (dvA xx qx) 80)).drew.grown hgrow1 (HSA.out _) (fun q hq => by cases hq; exact Nat.le_refl _)
                    obtain ⟨g1, c1', rfl, _, hg1w⟩ := hown1.form (by omega)
                    have HO1 := Lib.hid hown1
                    have hs1 := HB1.out.size
                    clear hown1 hgrow1 hat1
                    go_wp2_with (at_builtin; go_must (refine wpList_append_own_at _ rfl (.tmp 92) (.tmp 95) 78 rfl w.heap.size 80 i0 (.agg #[.int .u64 0, .string ⟨#[]⟩, .int .u64 0, .int .u64 0, .string ⟨#[]⟩, .string ⟨#[]⟩, .slice none 0 0, .int .u64 0, .int .u64 0, .int .i64 0, .int .u64 0]) 11 128 Tryd.underlying78 hi0 hz0 hz1 hz2 rfl (by decide) (.slice (some ⟨w1.heap.size, 0, none⟩) 0 0) 0 [] rfl ?b1 ⟨g, 0, none⟩ k c (rowI F nw h (L.take k)) rfl ?b2 ?b3 ?b4 ?b5 ?b6 ?b7 ?_))
                    case b1 => exact World.ownsRow_lit w1 #[] 0 (by omega) (by unfold maxLen; omega) rfl
                    case b2 => exact HL18.out
                    case b3 => intro j u hu; rw [add_off, Nat.zero_add]; exact HN18.out _ ((HB1.out).trans (((Below.refl w1.heap.size w1).alloc (Nat.le_refl _) _).mono hs1)) j u hu
                    case b4 => exact HO17.out _
                    case b5 => unfold maxLen; omega
                    case b6 => omega
                    case b7 => simp only [World.size_alloc]; omega
                    intro v2 w2 hown2 hg2 _ hat2
                    have hb2 : Below w1.heap.size w1 w2 := ((Below.refl _ _).alloc (Nat.le_refl _) _).grown hg2 (by simp) (by simp [Value.ownBlock])
                    have hv2 : ∀ q, v2.ownBlock = some q → w1.heap.size ≤ q := by
                      intro q hq
                      rcases hat2 with e | e
                      · rw [e] at hq; simp [Value.ownBlock] at hq; omega
                      · rw [e] at hq; simp at hq; omega
                    have HO2 := Lib.hid hown2
                    have HB2 := Lib.hid hb2
                    have HV2 := Lib.hid hv2
                    have hs2 := hb2.size
                    clear hown2 hg2 hat2 hb2 hv2
                    go_wp2_with (at_builtin; go_must (refine wpList_append_own_at _ rfl (.tmp 96) (.tmp 97) 78 rfl w.heap.size 80 i0 (.agg #[.int .u64 0, .string ⟨#[]⟩, .int .u64 0, .int .u64 0, .string ⟨#[]⟩, .string ⟨#[]⟩, .slice none 0 0, .int .u64 0, .int .u64 0, .int .i64 0, .int .u64 0]) 11 128 Tryd.underlying78 hi0 hz0 hz1 hz2 rfl (by decide) v2 k (rowI F nw h (L.take k)) ?d0 HO2.out ⟨g1, 0, none⟩ (1 + (L.length - k)) c1' (dvL xx qx ++ rowI F nw h (L.drop k)) ?d1 ?d2 ?d3 ?d4 ?d5 ?d6 ?d7 ?_))
                    case d0 => rfl
                    case d1 => rfl
                    case d2 => rw [List.length_append, HL17.out, dvL_len]; omega
                    case d3 =>
                      intro j u hu
                      rw [HB2.out.cell (p := (⟨g1, 0, none⟩ : Addr).add j) (by rw [add_off]; exact hg1w)]
                      exact HO1.out.cells (g := g1) rfl j u hu
                    case d4 =>
                      intro u hu
                      rcases List.mem_append.1 hu with hu | hu
                      · exact dvL_one _ _ u hu
                      · exact HO17.out _ u hu
                    case d5 => unfold maxLen; omega
                    case d6 => omega
                    case d7 => omega
                    intro v3 w3 hown3 hg3 _ _
                    have hb3 : Below w1.heap.size w2 w3 := (Below.refl _ _).grown hg3 (by omega) HV2.out
                    have e3 : rowI F nw h (lstI F G nw h now (i + 1)) = rowI F nw h (L.take k) ++ (dvL xx qx ++ rowI F nw h (L.drop k)) := by
                      rw [HNEW.out, HXX.out, HQX.out]
                      show List.flatMap _ _ = _
                      rw [List.flatMap_append, List.flatMap_cons]
                    have e4 : (lstI F G nw h now (i + 1)).length = k + (1 + (L.length - k)) := by
                      rw [HNEW.out, List.length_append, List.length_cons, List.length_take, List.length_drop]; omega
                    rw [← e3, ← e4] at hown3
                    obtain ⟨g3, c3, rfl, _, _⟩ := hown3.form (by omega)
                    have HO3 := Lib.hid hown3
                    have HB3 : Hid (Below w.heap.size w w3) := ((HZ6.out.bel.trans (HB1.out.mono hZs)).trans (HB2.out.mono (by omega))).trans (hb3.mono (by omega))
                    clear hown3 hg3 hb3 e3 e4
                    go_wp2
                    go_roundw
                    case rel => exact ⟨i + 1, g3, c3, by go_num, rfl, by omega, HO3.out, HB3.out⟩
                    case measure => simp [intOf]; omega
                  · have hkz : (0 : Int) < (k : Int) := by omega
                    have hd : decide (0 < k) = true := decide_eq_true (by omega)
                    have hLb := HLN.out
                    obtain ⟨kp, hkp⟩ : ∃ kp, kp = k - 1 := ⟨_, rfl⟩
                    have hkw : IntKind.i64.wrap (kp : Int) = (kp : Int) := by rw [IntKind.wrap_i64]; omega
                    have hke : (k : Int) - 1 = (kp : Int) := by omega
                    have hk0 : (0 : Int) ≤ (kp : Int) := by omega
                    have hk1 : (kp : Int) < (L.length : Int) := by omega
                    have hkn : kp < L.length := by omega
                    obtain ⟨q, hq⟩ : ∃ q, q = L.getD kp 0 := ⟨_, rfl⟩
                    have hq2 : q = L[kp] := by rw [hq, List.getD_eq_getElem?_getD, List.getElem?_eq_getElem hkn]; rfl
                    have CA := Lib.hid (fun W => ahead_any (F i) (F q) (Qw nw h i) (Qw nw h q) W)
                    have HLT : Hid (ltOf cmpDw (dwOf (F i) (Qw nw h i)) (dwOf (F q) (Qw nw h q)) = ltI F nw h i q) := rfl
                    rw [HLT.out] at CA
                    have HRW := Lib.hid (fun (W : World) (z : Dz w F nw h L g c X i W) (t : Nat) (ht : t < 11) (u : Value) (hu : (dvL (F q) (Qw nw h q))[t]? = some u) => own_at (g := fun i => dvL (F i) (Qw nw h i)) (fun i => dvL_len _ _) z.row kp hkn t ht (u := u) (by rw [← hq2]; exact hu))
                    have D1 := Lib.hid (fun (W : World) (z : Dz w F nw h L g c X i W) => (CA.out W).mono fun _ _ k2 => (⟨k2.1, dz_next z k2.2⟩ : _ ∧ Dz w F nw h L g c X i _))
                    have HQK : Hid (k = kp + 1) := by show _ = _; omega
                    have HQQ := Lib.hid hq
                    clear hq2 hkn CA HLT hkp
                    obtain ⟨y, hy⟩ : ∃ y, y = F q := ⟨_, rfl⟩
                    obtain ⟨qy, hqy⟩ : ∃ qy, qy = Qw nw h q := ⟨_, rfl⟩
                    obtain ⟨xx, hxx⟩ : ∃ xx, xx = F i := ⟨_, rfl⟩
                    obtain ⟨qx, hqx⟩ : ∃ qx, qx = Qw nw h i := ⟨_, rfl⟩
                    rw [← hy, ← hqy] at HRW
                    rw [← hxx, ← hqx, ← hy, ← hqy] at D1
                    have r0 := fun (W : World) (z : Dz w F nw h L g c X i W) => (show W.cell? ⟨g, kp * 11, none⟩ = some (.int .u64 y.id) from HRW.out W z 0 (by decide) _ rfl)
                    have r1 := fun (W : World) (z : Dz w F nw h L g c X i W) => (show W.cell? ⟨g, kp * 11 + 1, none⟩ = some (.string ⟨y.dom.toArray⟩) from HRW.out W z 1 (by decide) _ rfl)
                    have r2 := fun (W : World) (z : Dz w F nw h L g c X i W) => (show W.cell? ⟨g, kp * 11 + 2, none⟩ = some (.int .u64 y.ep) from HRW.out W z 2 (by decide) _ rfl)
                    have r3 := fun (W : World) (z : Dz w F nw h L g c X i W) => (show W.cell? ⟨g, kp * 11 + 3, none⟩ = some (.int .u64 y.ct) from HRW.out W z 3 (by decide) _ rfl)
                    have r4 := fun (W : World) (z : Dz w F nw h L g c X i W) => (show W.cell? ⟨g, kp * 11 + 4, none⟩ = some (.string ⟨y.fl.toArray⟩) from HRW.out W z 4 (by decide) _ rfl)
                    have r5 := fun (W : World) (z : Dz w F nw h L g c X i W) => (show W.cell? ⟨g, kp * 11 + 5, none⟩ = some (.string ⟨y.fd.toArray⟩) from HRW.out W z 5 (by decide) _ rfl)
                    have r6 := fun (W : World) (z : Dz w F nw h L g c X i W) => (show W.cell? ⟨g, kp * 11 + 6, none⟩ = some (.slice y.A y.n y.c) from HRW.out W z 6 (by decide) _ rfl)
                    have r7 := fun (W : World) (z : Dz w F nw h L g c X i W) => (show W.cell? ⟨g, kp * 11 + 7, none⟩ = some (.int .u64 y.born) from HRW.out W z 7 (by decide) _ rfl)
                    have r8 := fun (W : World) (z : Dz w F nw h L g c X i W) => (show W.cell? ⟨g, kp * 11 + 8, none⟩ = some (.int .u64 y.next) from HRW.out W z 8 (by decide) _ rfl)
                    have r9 := fun (W : World) (z : Dz w F nw h L g c X i W) => (show W.cell? ⟨g, kp * 11 + 9, none⟩ = some (.int .i64 y.tries) from HRW.out W z 9 (by decide) _ rfl)
                    have r10 := fun (W : World) (z : Dz w F nw h L g c X i W) => (show W.cell? ⟨g, kp * 11 + 10, none⟩ = some (.int .u64 (qy.toNat : Int)) from HRW.out W z 10 (by decide) _ rfl)
                    have x0 := fun (W : World) (z : Dz w F nw h L g c X i W) => (show W.cell? ⟨X, 0, none⟩ = some (.int .u64 xx.id) from by rw [hxx, Lib.cell_of_heap z.blk]; rfl)
                    have x1 := fun (W : World) (z : Dz w F nw h L g c X i W) => (show W.cell? ⟨X, 1, none⟩ = some (.string ⟨xx.dom.toArray⟩) from by rw [hxx, Lib.cell_of_heap z.blk]; rfl)
                    have x2 := fun (W : World) (z : Dz w F nw h L g c X i W) => (show W.cell? ⟨X, 2, none⟩ = some (.int .u64 xx.ep) from by rw [hxx, Lib.cell_of_heap z.blk]; rfl)
                    have x3 := fun (W : World) (z : Dz w F nw h L g c X i W) => (show W.cell? ⟨X, 3, none⟩ = some (.int .u64 xx.ct) from by rw [hxx, Lib.cell_of_heap z.blk]; rfl)
                    have x4 := fun (W : World) (z : Dz w F nw h L g c X i W) => (show W.cell? ⟨X, 4, none⟩ = some (.string ⟨xx.fl.toArray⟩) from by rw [hxx, Lib.cell_of_heap z.blk]; rfl)
                    have x5 := fun (W : World) (z : Dz w F nw h L g c X i W) => (show W.cell? ⟨X, 5, none⟩ = some (.string ⟨xx.fd.toArray⟩) from by rw [hxx, Lib.cell_of_heap z.blk]; rfl)
                    have x6 := fun (W : World) (z : Dz w F nw h L g c X i W) => (show W.cell? ⟨X, 6, none⟩ = some (.slice xx.A xx.n xx.c) from by rw [hxx, Lib.cell_of_heap z.blk]; rfl)
                    have x7 := fun (W : World) (z : Dz w F nw h L g c X i W) => (show W.cell? ⟨X, 7, none⟩ = some (.int .u64 xx.born) from by rw [hxx, Lib.cell_of_heap z.blk]; rfl)
                    have x8 := fun (W : World) (z : Dz w F nw h L g c X i W) => (show W.cell? ⟨X, 8, none⟩ = some (.int .u64 xx.next) from by rw [hxx, Lib.cell_of_heap z.blk]; rfl)
                    have x9 := fun (W : World) (z : Dz w F nw h L g c X i W) => (show W.cell? ⟨X, 9, none⟩ = some (.int .i64 xx.tries) from by rw [hxx, Lib.cell_of_heap z.blk]; rfl)
                    have x10 := fun (W : World) (z : Dz w F nw h L g c X i W) => (show W.cell? ⟨X, 10, none⟩ = some (.int .u64 (qx.toNat : Int)) from by rw [hqx, Lib.cell_of_heap z.blk]; rfl)
                    clear HRW hy hqy hxx hqx hq
                    cases hlt2 : ltI F nw h i q with
                    | true =>
                      rw [hlt2] at D1
                      have HK2 : Hid (kp < L.length → ltI F nw h i (L.getD kp 0) = true) := fun _ => by rw [← HQQ.out]; exact hlt2
                      clear hlt2
                      go_wp2_with fail
                      go_region_held3 (fun W => Dz w F nw h L g c X i W) (first | assumption | exact HZ.out | exact dz_next HZ.out (Below.refl _ _).drew | exact dz_next (by assumption) (Below.refl _ _).drew) (first
                        | (go_at_call 39; refine (D1.out _ (by assumption)).mono ?_; rintro e w9 ⟨rfl, h9⟩))
                      all_goals go_wp2
                      all_goals go_roundw
                      case rel => exact ⟨kp, by first | rfl | go_num, by omega, h9, HK2⟩
                      case measure => have := HQK.out; simp [intOf]; omega
                    | false =>
                      rw [hlt2] at D1
                      have H1 : Hid (0 < k → ltI F nw h i (L.getD (k - 1) 0) = false) := fun _ => by
                        have e : k - 1 = kp := by have := HQK.out; omega
                        rw [e, ← HQQ.out]; exact hlt2
                      clear hlt2
                      go_wp2_with fail
                      go_region_held3 (fun W => Dz w F nw h L g c X i W) (first | assumption | exact HZ.out | exact dz_next HZ.out (Below.refl _ _).drew | exact dz_next (by assumption) (Below.refl _ _).drew) (first
                        | (go_at_call 39; refine (D1.out _ (by assumption)).mono ?_; rintro e w9 ⟨rfl, h9⟩))
                      have HZ6 := Lib.hid h9
                      clear h9 r0 r1 r2 r3 r4 r5 r6 r7 r8 r9 r10 x0 x1 x2 x3 x4 x5 x6 x7 x8 x9 x10 HZ D1
                      generalize w9 = W6 at *
                      have HNEW := Lib.hid (HST.out k HPY.out hk HK.out H1.out)
                      have HI := HLN.out
                      have hZs := HZ6.out.bel.size
                      have hgW := (HZ6.out.row.lt g rfl).2
                      have hgb := (HZ6.out.row.lt g rfl).1
                      have hkc2 : L.length ≤ c := by
                        rcases HZ6.out.row.2 with ⟨e, _⟩ | ⟨_, cc, _, e, _, _, hc, _⟩
                        · cases e
                        · injection e with _ _ e5; omega
                      have kz0 : (0 : Int) ≤ (k : Int) := by omega
                      have kz1 : (k : Int) ≤ (L.length : Int) := by omega
                      have kz2 : (k : Int) ≤ (c : Int) := by omega
                      have kc2 : k ≤ c := by omega
                      have HN17 : Hid (∀ W, Below W6.heap.size W6 W → ∀ j u, (rowI F nw h (L.drop k))[j]? = some u → W.cell? ⟨g, k * 11 + j, none⟩ = some u) := fun W b j u hu => by
                        have e := flat_drop (fun i => dvL (F i) (Qw nw h i)) 11 (fun i => dvL_len _ _) L k
                        have hu2 : ((rowI F nw h L).drop (k * 11))[j]? = some u := by rw [← e]; exact hu
                        rw [List.getElem?_drop] at hu2
                        have q := HZ6.out.row.cells rfl (k * 11 + j) u hu2
                        rw [add_off, Nat.zero_add] at q
                        rw [b.cell (p := ⟨g, k * 11 + j, none⟩) hgW]
                        exact q
                      have HL17 : Hid ((rowI F nw h (L.drop k)).length = (L.length - k) * 11) := by
                        show _ = _
                        rw [flat_length (fun i => dvL (F i) (Qw nw h i)) 11 (fun i => dvL_len _ _), List.length_drop]
                      have HO17 : Hid (∀ M : List Nat, ∀ u ∈ rowI F nw h M, u.oneCell' = true) := fun M u hu => by
                        obtain ⟨y, _, hy⟩ := List.mem_flatMap.1 hu
                        exact dvL_one _ _ u hy
                      obtain ⟨xx, hxx⟩ : ∃ xx, xx = F i := ⟨_, rfl⟩
                      obtain ⟨qx, hqx⟩ : ∃ qx, qx = Qw nw h i := ⟨_, rfl⟩
                      have x0 := fun (W : World) (z : Dz w F nw h L g c X i W) => (show W.cell? ⟨X, 0, none⟩ = some (.int .u64 xx.id) from by rw [hxx, Lib.cell_of_heap z.blk]; rfl)
                      have x1 := fun (W : World) (z : Dz w F nw h L g c X i W) => (show W.cell? ⟨X, 1, none⟩ = some (.string ⟨xx.dom.toArray⟩) from by rw [hxx, Lib.cell_of_heap z.blk]; rfl)
                      have x2 := fun (W : World) (z : Dz w F nw h L g c X i W) => (show W.cell? ⟨X, 2, none⟩ = some (.int .u64 xx.ep) from by rw [hxx, Lib.cell_of_heap z.blk]; rfl)
                      have x3 := fun (W : World) (z : Dz w F nw h L g c X i W) => (show W.cell? ⟨X, 3, none⟩ = some (.int .u64 xx.ct) from by rw [hxx, Lib.cell_of_heap z.blk]; rfl)
                      have x4 := fun (W : World) (z : Dz w F nw h L g c X i W) => (show W.cell? ⟨X, 4, none⟩ = some (.string ⟨xx.fl.toArray⟩) from by rw [hxx, Lib.cell_of_heap z.blk]; rfl)
                      have x5 := fun (W : World) (z : Dz w F nw h L g c X i W) => (show W.cell? ⟨X, 5, none⟩ = some (.string ⟨xx.fd.toArray⟩) from by rw [hxx, Lib.cell_of_heap z.blk]; rfl)
                      have x6 := fun (W : World) (z : Dz w F nw h L g c X i W) => (show W.cell? ⟨X, 6, none⟩ = some (.slice xx.A xx.n xx.c) from by rw [hxx, Lib.cell_of_heap z.blk]; rfl)
                      have x7 := fun (W : World) (z : Dz w F nw h L g c X i W) => (show W.cell? ⟨X, 7, none⟩ = some (.int .u64 xx.born) from by rw [hxx, Lib.cell_of_heap z.blk]; rfl)
                      have x8 := fun (W : World) (z : Dz w F nw h L g c X i W) => (show W.cell? ⟨X, 8, none⟩ = some (.int .u64 xx.next) from by rw [hxx, Lib.cell_of_heap z.blk]; rfl)
                      have x9 := fun (W : World) (z : Dz w F nw h L g c X i W) => (show W.cell? ⟨X, 9, none⟩ = some (.int .i64 xx.tries) from by rw [hxx, Lib.cell_of_heap z.blk]; rfl)
                      have x10 := fun (W : World) (z : Dz w F nw h L g c X i W) => (show W.cell? ⟨X, 10, none⟩ = some (.int .u64 (qx.toNat : Int)) from by rw [hqx, Lib.cell_of_heap z.blk]; rfl)
                      have HXX := Lib.hid hxx
                      have HQX := Lib.hid hqx
                      clear hxx hqx
                      have HSA : Hid (∀ o, W6.heap.size ≤ ((W6.alloc o).drew).heap.size) := fun o => by show W6.heap.size ≤ (W6.alloc o).heap.size; rw [World.size_alloc]; omega
                      have HSB : Hid (∀ o, w.heap.size ≤ ((W6.alloc o).drew).heap.size) := fun o => by show w.heap.size ≤ (W6.alloc o).heap.size; rw [World.size_alloc]; omega
                      have HN18 : Hid (∀ W, Below W6.heap.size W6 W → ∀ j u, (rowI F nw h (L.take k))[j]? = some u → W.cell? ⟨g, j, none⟩ = some u) := fun W b j u hu => by
                        have e := flat_take (fun i => dvL (F i) (Qw nw h i)) 11 (fun i => dvL_len _ _) L k
                        have hu2 : ((rowI F nw h L).take (k * 11))[j]? = some u := by rw [← e]; exact hu
                        rw [List.getElem?_take] at hu2
                        split at hu2
                        · have q := HZ6.out.row.cells rfl j u hu2
                          rw [add_off, Nat.zero_add] at q
                          rw [b.cell (p := ⟨g, j, none⟩) hgW]
                          exact q
                        · cases hu2
                      have HL18 : Hid ((rowI F nw h (L.take k)).length = k * 11) := by
                        show _ = _
                        rw [flat_length (fun i => dvL (F i) (Qw nw h i)) 11 (fun i => dvL_len _ _), List.length_take]
                        congr 1; omega
                      by_cases hck : c = k
                      · have hck2 : k = c := hck.symm
                        clear hck
                        subst hck2
                        have hLk : L.length - k = 0 := by omega
                        have HL17z : Hid ((rowI F nw h (L.drop k)).length = 0 * 11) := by show _ = _; rw [HL17.out, hLk]
                        clear hLk
                        go_wp2
                        go_region_held3 (fun W => Dz w F nw h L g k X i W) (first | assumption | exact HZ6.out | exact dz_next HZ6.out (Below.refl _ _).drew | exact dz_next (by assumption) (Below.refl _ _).drew | exact dz_next (by assumption) ((Below.refl _ _).alloc (Nat.le_refl _) _) | exact dz_next HZ6.out (((Below.refl W6.heap.size W6).alloc (Nat.le_refl _) (.cells (dvA xx qx) 80)).drew.grown (by assumption) (HSA.out _) (fun q hq => by cases hq; exact Nat.le_refl _)))
                          ((refine step_append_at (by rfl) (.tmp 87) (.tmp 90) 78 (by rfl) w.heap.size 80 i0 (.agg #[.int .u64 0, .string ⟨#[]⟩, .int .u64 0, .int .u64 0, .string ⟨#[]⟩, .string ⟨#[]⟩, .slice none 0 0, .int .u64 0, .int .u64 0, .int .i64 0, .int .u64 0]) 11 128 Tryd.underlying78 hi0 hz0 hz1 hz2 (by rfl) (by decide) (.slice (some ⟨W6.heap.size, 0, none⟩) 1 1) 1 (dvL xx qx) (by rfl) (by exact World.ownsRow_lit W6 (dvA xx qx) 1 hZs (by unfold maxLen; omega) rfl) ⟨g, 0, none⟩ 0 0 (rowI F nw h (L.drop k)) (by rfl) HL17z.out (by intro j u hu; rw [List.drop_eq_nil_of_le (by omega)] at hu; cases hu) (HO17.out _) (by unfold maxLen; omega) (by omega) (by exact HSB.out _) ?_; intro v1 w1 hown1 hgrow1 hat1))
                        have HB1 : Hid (Below W6.heap.size W6 w1) := ((Below.refl W6.heap.size W6).alloc (Nat.le_refl _) (.cells (dvA xx qx) 80)).drew.grown hgrow1 (HSA.out _) (fun q hq => by cases hq; exact Nat.le_refl _)
                        obtain ⟨g1, c1', rfl, _, hg1w⟩ := hown1.form (by omega)
                        have HO1 := Lib.hid hown1
                        have hs1 := HB1.out.size
                        clear hown1 hgrow1 hat1
                        go_wp2_with (at_builtin; go_must (refine wpList_append_own_at _ rfl (.tmp 92) (.tmp 95) 78 rfl w.heap.size 80 i0 (.agg #[.int .u64 0, .string ⟨#[]⟩, .int .u64 0, .int .u64 0, .string ⟨#[]⟩, .string ⟨#[]⟩, .slice none 0 0, .int .u64 0, .int .u64 0, .int .i64 0, .int .u64 0]) 11 128 Tryd.underlying78 hi0 hz0 hz1 hz2 rfl (by decide) (.slice (some ⟨w1.heap.size, 0, none⟩) 0 0) 0 [] rfl ?b1 ⟨g, 0, none⟩ k k (rowI F nw h (L.take k)) rfl ?b2 ?b3 ?b4 ?b5 ?b6 ?b7 ?_))
                        case b1 => exact World.ownsRow_lit w1 #[] 0 (by omega) (by unfold maxLen; omega) rfl
                        case b2 => exact HL18.out
                        case b3 => intro j u hu; rw [add_off, Nat.zero_add]; exact HN18.out _ ((HB1.out).trans (((Below.refl w1.heap.size w1).alloc (Nat.le_refl _) _).mono hs1)) j u hu
                        case b4 => exact HO17.out _
                        case b5 => unfold maxLen; omega
                        case b6 => omega
                        case b7 => simp only [World.size_alloc]; omega
                        intro v2 w2 hown2 hg2 _ hat2
                        have hb2 : Below w1.heap.size w1 w2 := ((Below.refl _ _).alloc (Nat.le_refl _) _).grown hg2 (by simp) (by simp [Value.ownBlock])
                        have hv2 : ∀ q, v2.ownBlock = some q → w1.heap.size ≤ q := by
                          intro q hq
                          rcases hat2 with e | e
                          · rw [e] at hq; simp [Value.ownBlock] at hq; omega
                          · rw [e] at hq; simp at hq; omega
                        have HO2 := Lib.hid hown2
                        have HB2 := Lib.hid hb2
                        have HV2 := Lib.hid hv2
                        have hs2 := hb2.size
                        clear hown2 hg2 hat2 hb2 hv2
                        go_wp2_with (at_builtin; go_must (refine wpList_append_own_at _ rfl (.tmp 96) (.tmp 97) 78 rfl w.heap.size 80 i0 (.agg #[.int .u64 0, .string ⟨#[]⟩, .int .u64 0, .int .u64 0, .string ⟨#[]⟩, .string ⟨#[]⟩, .slice none 0 0, .int .u64 0, .int .u64 0, .int .i64 0, .int .u64 0]) 11 128 Tryd.underlying78 hi0 hz0 hz1 hz2 rfl (by decide) v2 k (rowI F nw h (L.take k)) ?d0 HO2.out ⟨g1, 0, none⟩ 1 c1' (dvL xx qx ++ rowI F nw h (L.drop k)) ?d1 ?d2 ?d3 ?d4 ?d5 ?d6 ?d7 ?_))
                        case d0 => rfl
                        case d1 => rfl
                        case d2 => rw [List.length_append, HL17z.out, dvL_len]
                        case d3 =>
                          intro j u hu
                          rw [HB2.out.cell (p := (⟨g1, 0, none⟩ : Addr).add j) (by rw [add_off]; exact hg1w)]
                          exact HO1.out.cells (g := g1) rfl j u hu
                        case d4 =>
                          intro u hu
                          rcases List.mem_append.1 hu with hu | hu
                          · exact dvL_one _ _ u hu
                          · exact HO17.out _ u hu
                        case d5 => unfold maxLen; omega
                        case d6 => omega
                        case d7 => omega
                        intro v3 w3 hown3 hg3 _ _
                        have hb3 : Below w1.heap.size w2 w3 := (Below.refl _ _).grown hg3 (by omega) HV2.out
                        have e3 : rowI F nw h (lstI F G nw h now (i + 1)) = rowI F nw h (L.take k) ++ (dvL xx qx ++ rowI F nw h (L.drop k)) := by
                          rw [HNEW.out, HXX.out, HQX.out]
                          show List.flatMap _ _ = _
                          rw [List.flatMap_append, List.flatMap_cons]
                        have e4 : (lstI F G nw h now (i + 1)).length = k + 1 := by
                          rw [HNEW.out, List.length_append, List.length_cons, List.length_take, List.length_drop]; omega
                        rw [← e3, ← e4] at hown3
                        obtain ⟨g3, c3, rfl, _, _⟩ := hown3.form (by omega)
                        have HO3 := Lib.hid hown3
                        have HB3 : Hid (Below w.heap.size w w3) := ((HZ6.out.bel.trans (HB1.out.mono hZs)).trans (HB2.out.mono (by omega))).trans (hb3.mono (by omega))
                        clear hown3 hg3 hb3 e3 e4
                        go_wp2
                        go_roundw
                        case rel => exact ⟨i + 1, g3, c3, by go_num, rfl, by omega, HO3.out, HB3.out⟩
                        case measure => simp [intOf]; omega
                      go_wp2
                      go_region_held3 (fun W => Dz w F nw h L g c X i W) (first | assumption | exact HZ6.out | exact dz_next HZ6.out (Below.refl _ _).drew | exact dz_next (by assumption) (Below.refl _ _).drew | exact dz_next (by assumption) ((Below.refl _ _).alloc (Nat.le_refl _) _) | exact dz_next HZ6.out (((Below.refl W6.heap.size W6).alloc (Nat.le_refl _) (.cells (dvA xx qx) 80)).drew.grown (by assumption) (HSA.out _) (fun q hq => by cases hq; exact Nat.le_refl _)))
                        ((refine step_append_at (by rfl) (.tmp 87) (.tmp 90) 78 (by rfl) w.heap.size 80 i0 (.agg #[.int .u64 0, .string ⟨#[]⟩, .int .u64 0, .int .u64 0, .string ⟨#[]⟩, .string ⟨#[]⟩, .slice none 0 0, .int .u64 0, .int .u64 0, .int .i64 0, .int .u64 0]) 11 128 Tryd.underlying78 hi0 hz0 hz1 hz2 (by rfl) (by decide) (.slice (some ⟨W6.heap.size, 0, none⟩) 1 1) 1 (dvL xx qx) (by rfl) (by exact World.ownsRow_lit W6 (dvA xx qx) 1 hZs (by unfold maxLen; omega) rfl) ⟨g, k * 11, none⟩ (L.length - k) (c - k) (rowI F nw h (L.drop k)) (by rfl) HL17.out (by intro j u hu; rw [add_off]; exact HN17.out _ (by exact ((Below.refl _ W6).alloc (Nat.le_refl _) (.cells (dvA xx qx) 80)).drew) j u hu) (HO17.out _) (by unfold maxLen; omega) (by omega) (by exact HSB.out _) ?_; intro v1 w1 hown1 hgrow1 hat1))
                      have HB1 : Hid (Below W6.heap.size W6 w1) := ((Below.refl W6.heap.size W6).alloc (Nat.le_refl _) (.cells (dvA xx qx) 80)).drew.grown hgrow1 (HSA.out _) (fun q hq => by cases hq; exact Nat.le_refl _)
                      obtain ⟨g1, c1', rfl, _, hg1w⟩ := hown1.form (by omega)
                      have HO1 := Lib.hid hown1
                      have hs1 := HB1.out.size
                      clear hown1 hgrow1 hat1
                      go_wp2_with (at_builtin; go_must (refine wpList_append_own_at _ rfl (.tmp 92) (.tmp 95) 78 rfl w.heap.size 80 i0 (.agg #[.int .u64 0, .string ⟨#[]⟩, .int .u64 0, .int .u64 0, .string ⟨#[]⟩, .string ⟨#[]⟩, .slice none 0 0, .int .u64 0, .int .u64 0, .int .i64 0, .int .u64 0]) 11 128 Tryd.underlying78 hi0 hz0 hz1 hz2 rfl (by decide) (.slice (some ⟨w1.heap.size, 0, none⟩) 0 0) 0 [] rfl ?b1 ⟨g, 0, none⟩ k c (rowI F nw h (L.take k)) rfl ?b2 ?b3 ?b4 ?b5 ?b6 ?b7 ?_))
                      case b1 => exact World.ownsRow_lit w1 #[] 0 (by omega) (by unfold maxLen; omega) rfl
                      case b2 => exact HL18.out
                      case b3 => intro j u hu; rw [add_off, Nat.zero_add]; exact HN18.out _ ((HB1.out).trans (((Below.refl w1.heap.size w1).alloc (Nat.le_refl _) _).mono hs1)) j u hu
                      case b4 => exact HO17.out _
                      case b5 => unfold maxLen; omega
                      case b6 => omega
                      case b7 => simp only [World.size_alloc]; omega
                      intro v2 w2 hown2 hg2 _ hat2
                      have hb2 : Below w1.heap.size w1 w2 := ((Below.refl _ _).alloc (Nat.le_refl _) _).grown hg2 (by simp) (by simp [Value.ownBlock])
                      have hv2 : ∀ q, v2.ownBlock = some q → w1.heap.size ≤ q := by
                        intro q hq
                        rcases hat2 with e | e
                        · rw [e] at hq; simp [Value.ownBlock] at hq; omega
                        · rw [e] at hq; simp at hq; omega
                      have HO2 := Lib.hid hown2
                      have HB2 := Lib.hid hb2
                      have HV2 := Lib.hid hv2
                      have hs2 := hb2.size
                      clear hown2 hg2 hat2 hb2 hv2
                      go_wp2_with (at_builtin; go_must (refine wpList_append_own_at _ rfl (.tmp 96) (.tmp 97) 78 rfl w.heap.size 80 i0 (.agg #[.int .u64 0, .string ⟨#[]⟩, .int .u64 0, .int .u64 0, .string ⟨#[]⟩, .string ⟨#[]⟩, .slice none 0 0, .int .u64 0, .int .u64 0, .int .i64 0, .int .u64 0]) 11 128 Tryd.underlying78 hi0 hz0 hz1 hz2 rfl (by decide) v2 k (rowI F nw h (L.take k)) ?d0 HO2.out ⟨g1, 0, none⟩ (1 + (L.length - k)) c1' (dvL xx qx ++ rowI F nw h (L.drop k)) ?d1 ?d2 ?d3 ?d4 ?d5 ?d6 ?d7 ?_))
                      case d0 => rfl
                      case d1 => rfl
                      case d2 => rw [List.length_append, HL17.out, dvL_len]; omega
                      case d3 =>
                        intro j u hu
                        rw [HB2.out.cell (p := (⟨g1, 0, none⟩ : Addr).add j) (by rw [add_off]; exact hg1w)]
                        exact HO1.out.cells (g := g1) rfl j u hu
                      case d4 =>
                        intro u hu
                        rcases List.mem_append.1 hu with hu | hu
                        · exact dvL_one _ _ u hu
                        · exact HO17.out _ u hu
                      case d5 => unfold maxLen; omega
                      case d6 => omega
                      case d7 => omega
                      intro v3 w3 hown3 hg3 _ _
                      have hb3 : Below w1.heap.size w2 w3 := (Below.refl _ _).grown hg3 (by omega) HV2.out
                      have e3 : rowI F nw h (lstI F G nw h now (i + 1)) = rowI F nw h (L.take k) ++ (dvL xx qx ++ rowI F nw h (L.drop k)) := by
                        rw [HNEW.out, HXX.out, HQX.out]
                        show List.flatMap _ _ = _
                        rw [List.flatMap_append, List.flatMap_cons]
                      have e4 : (lstI F G nw h now (i + 1)).length = k + (1 + (L.length - k)) := by
                        rw [HNEW.out, List.length_append, List.length_cons, List.length_take, List.length_drop]; omega
                      rw [← e3, ← e4] at hown3
                      obtain ⟨g3, c3, rfl, _, _⟩ := hown3.form (by omega)
                      have HO3 := Lib.hid hown3
                      have HB3 : Hid (Below w.heap.size w w3) := ((HZ6.out.bel.trans (HB1.out.mono hZs)).trans (HB2.out.mono (by omega))).trans (hb3.mono (by omega))
                      clear hown3 hg3 hb3 e3 e4
                      go_wp2
                      go_roundw
                      case rel => exact ⟨i + 1, g3, c3, by go_num, rfl, by omega, HO3.out, HB3.out⟩
                      case measure => simp [intOf]; omega
              · have hiwz : ¬ (i : Int) < (nw : Int) := by omega
                have HQ : Hid (Qw nw h i = 0) := if_neg hiw
                have Z5 : Dz w F nw h L g c wr.heap.size i (wr.alloc (.cells (dvA x 0) 80)) := by
                  refine ⟨O5.out, ?_, B5.out⟩
                  rw [HQ.out, ← HX.out]
                  exact K5.out
                have HZ5 := Lib.hid Z5
                clear Z5 O5 B5 K5 HQ
                go_wp2_with fail
                generalize wr.heap.size = X at *
                go_wp2_with fail
                go_loopw [12] (fun u wq => ∃ k : Nat, u = .int .i64 k ∧ k ≤ L.length ∧ Hid (Dz w F nw h L g c X i wq) ∧ Hid (k < L.length → ltI F nw h i (L.getD k 0) = true)) (fun u _ => (intOf u).toNat)
                case atStart => exact ⟨L.length, rfl, Nat.le_refl _, HZ5, fun q => absurd q (Nat.lt_irrefl _)⟩
                case round =>
                  clear HZ5
                  obtain ⟨k, rfl, hk, HZ, HK⟩ := hrel
                  by_cases h0 : k = 0
                  · have hkz : ¬ (0 : Int) < (k : Int) := by omega
                    have hd : decide (0 < k) = false := decide_eq_false (by omega)
                    have H1 : Hid (0 < k → ltI F nw h i (L.getD (k - 1) 0) = false) := fun q => by omega
                    clear h0
                    go_wp2_with fail
                    go_quiet (fail)
                    have HZ6 := Lib.hid (dz_next HZ.out (below_drewN (Below.refl wr.heap.size wr) nq))
                    clear HZ
                    generalize wr.drewN nq = W6 at *
                    have HNEW := Lib.hid (HST.out k HPY.out hk HK.out H1.out)
                    have HI := HLN.out
                    have hZs := HZ6.out.bel.size
                    have hgW := (HZ6.out.row.lt g rfl).2
                    have hgb := (HZ6.out.row.lt g rfl).1
                    have hkc2 : L.length ≤ c := by
                      rcases HZ6.out.row.2 with ⟨e, _⟩ | ⟨_, cc, _, e, _, _, hc, _⟩
                      · cases e
                      · injection e with _ _ e5; omega
                    have kz0 : (0 : Int) ≤ (k : Int) := by omega
                    have kz1 : (k : Int) ≤ (L.length : Int) := by omega
                    have kz2 : (k : Int) ≤ (c : Int) := by omega
                    have kc2 : k ≤ c := by omega
                    have HN17 : Hid (∀ W, Below W6.heap.size W6 W → ∀ j u, (rowI F nw h (L.drop k))[j]? = some u → W.cell? ⟨g, k * 11 + j, none⟩ = some u) := fun W b j u hu => by
                      have e := flat_drop (fun i => dvL (F i) (Qw nw h i)) 11 (fun i => dvL_len _ _) L k
                      have hu2 : ((rowI F nw h L).drop (k * 11))[j]? = some u := by rw [← e]; exact hu
                      rw [List.getElem?_drop] at hu2
                      have q := HZ6.out.row.cells rfl (k * 11 + j) u hu2
                      rw [add_off, Nat.zero_add] at q
                      rw [b.cell (p := ⟨g, k * 11 + j, none⟩) hgW]
                      exact q
                    have HL17 : Hid ((rowI F nw h (L.drop k)).length = (L.length - k) * 11) := by
                      show _ = _
                      rw [flat_length (fun i => dvL (F i) (Qw nw h i)) 11 (fun i => dvL_len _ _), List.length_drop]
                    have HO17 : Hid (∀ M : List Nat, ∀ u ∈ rowI F nw h M, u.oneCell' = true) := fun M u hu => by
                      obtain ⟨y, _, hy⟩ := List.mem_flatMap.1 hu
                      exact dvL_one _ _ u hy
                    obtain ⟨xx, hxx⟩ : ∃ xx, xx = F i := ⟨_, rfl⟩
                    obtain ⟨qx, hqx⟩ : ∃ qx, qx = Qw nw h i := ⟨_, rfl⟩
                    have x0 := fun (W : World) (z : Dz w F nw h L g c X i W) => (show W.cell? ⟨X, 0, none⟩ = some (.int .u64 xx.id) from by rw [hxx, Lib.cell_of_heap z.blk]; rfl)
                    have x1 := fun (W : World) (z : Dz w F nw h L g c X i W) => (show W.cell? ⟨X, 1, none⟩ = some (.string ⟨xx.dom.toArray⟩) from by rw [hxx, Lib.cell_of_heap z.blk]; rfl)
                    have x2 := fun (W : World) (z : Dz w F nw h L g c X i W) => (show W.cell? ⟨X, 2, none⟩ = some (.int .u64 xx.ep) from by rw [hxx, Lib.cell_of_heap z.blk]; rfl)
                    have x3 := fun (W : World) (z : Dz w F nw h L g c X i W) => (show W.cell? ⟨X, 3, none⟩ = some (.int .u64 xx.ct) from by rw [hxx, Lib.cell_of_heap z.blk]; rfl)
                    have x4 := fun (W : World) (z : Dz w F nw h L g c X i W) => (show W.cell? ⟨X, 4, none⟩ = some (.string ⟨xx.fl.toArray⟩) from by rw [hxx, Lib.cell_of_heap z.blk]; rfl)
                    have x5 := fun (W : World) (z : Dz w F nw h L g c X i W) => (show W.cell? ⟨X, 5, none⟩ = some (.string ⟨xx.fd.toArray⟩) from by rw [hxx, Lib.cell_of_heap z.blk]; rfl)
                    have x6 := fun (W : World) (z : Dz w F nw h L g c X i W) => (show W.cell? ⟨X, 6, none⟩ = some (.slice xx.A xx.n xx.c) from by rw [hxx, Lib.cell_of_heap z.blk]; rfl)
                    have x7 := fun (W : World) (z : Dz w F nw h L g c X i W) => (show W.cell? ⟨X, 7, none⟩ = some (.int .u64 xx.born) from by rw [hxx, Lib.cell_of_heap z.blk]; rfl)
                    have x8 := fun (W : World) (z : Dz w F nw h L g c X i W) => (show W.cell? ⟨X, 8, none⟩ = some (.int .u64 xx.next) from by rw [hxx, Lib.cell_of_heap z.blk]; rfl)
                    have x9 := fun (W : World) (z : Dz w F nw h L g c X i W) => (show W.cell? ⟨X, 9, none⟩ = some (.int .i64 xx.tries) from by rw [hxx, Lib.cell_of_heap z.blk]; rfl)
                    have x10 := fun (W : World) (z : Dz w F nw h L g c X i W) => (show W.cell? ⟨X, 10, none⟩ = some (.int .u64 (qx.toNat : Int)) from by rw [hqx, Lib.cell_of_heap z.blk]; rfl)
                    have HXX := Lib.hid hxx
                    have HQX := Lib.hid hqx
                    clear hxx hqx
                    have HSA : Hid (∀ o, W6.heap.size ≤ ((W6.alloc o).drew).heap.size) := fun o => by show W6.heap.size ≤ (W6.alloc o).heap.size; rw [World.size_alloc]; omega
                    have HSB : Hid (∀ o, w.heap.size ≤ ((W6.alloc o).drew).heap.size) := fun o => by show w.heap.size ≤ (W6.alloc o).heap.size; rw [World.size_alloc]; omega
                    have HN18 : Hid (∀ W, Below W6.heap.size W6 W → ∀ j u, (rowI F nw h (L.take k))[j]? = some u → W.cell? ⟨g, j, none⟩ = some u) := fun W b j u hu => by
                      have e := flat_take (fun i => dvL (F i) (Qw nw h i)) 11 (fun i => dvL_len _ _) L k
                      have hu2 : ((rowI F nw h L).take (k * 11))[j]? = some u := by rw [← e]; exact hu
                      rw [List.getElem?_take] at hu2
                      split at hu2
                      · have q := HZ6.out.row.cells rfl j u hu2
                        rw [add_off, Nat.zero_add] at q
                        rw [b.cell (p := ⟨g, j, none⟩) hgW]
                        exact q
                      · cases hu2
                    have HL18 : Hid ((rowI F nw h (L.take k)).length = k * 11) := by
                      show _ = _
                      rw [flat_length (fun i => dvL (F i) (Qw nw h i)) 11 (fun i => dvL_len _ _), List.length_take]
                      congr 1; omega
                    by_cases hck : c = k
                    · have hck2 : k = c := hck.symm
                      clear hck
                      subst hck2
                      have hLk : L.length - k = 0 := by omega
                      have HL17z : Hid ((rowI F nw h (L.drop k)).length = 0 * 11) := by show _ = _; rw [HL17.out, hLk]
                      clear hLk
                      go_wp2
                      go_region_held3 (fun W => Dz w F nw h L g k X i W) (first | assumption | exact HZ6.out | exact dz_next HZ6.out (Below.refl _ _).drew | exact dz_next (by assumption) (Below.refl _ _).drew | exact dz_next (by assumption) ((Below.refl _ _).alloc (Nat.le_refl _) _) | exact dz_next HZ6.out (((Below.refl W6.heap.size W6).alloc (Nat.le_refl _) (.cells (dvA xx qx) 80)).drew.grown (by assumption) (HSA.out _) (fun q hq => by cases hq; exact Nat.le_refl _)))
                        ((refine step_append_at (by rfl) (.tmp 87) (.tmp 90) 78 (by rfl) w.heap.size 80 i0 (.agg #[.int .u64 0, .string ⟨#[]⟩, .int .u64 0, .int .u64 0, .string ⟨#[]⟩, .string ⟨#[]⟩, .slice none 0 0, .int .u64 0, .int .u64 0, .int .i64 0, .int .u64 0]) 11 128 Tryd.underlying78 hi0 hz0 hz1 hz2 (by rfl) (by decide) (.slice (some ⟨W6.heap.size, 0, none⟩) 1 1) 1 (dvL xx qx) (by rfl) (by exact World.ownsRow_lit W6 (dvA xx qx) 1 hZs (by unfold maxLen; omega) rfl) ⟨g, 0, none⟩ 0 0 (rowI F nw h (L.drop k)) (by rfl) HL17z.out (by intro j u hu; rw [List.drop_eq_nil_of_le (by omega)] at hu; cases hu) (HO17.out _) (by unfold maxLen; omega) (by omega) (by exact HSB.out _) ?_; intro v1 w1 hown1 hgrow1 hat1))
                      have HB1 : Hid (Below W6.heap.size W6 w1) := ((Below.refl W6.heap.size W6).alloc (Nat.le_refl _) (.cells (dvA xx qx) 80)).drew.grown hgrow1 (HSA.out _) (fun q hq => by cases hq; exact Nat.le_refl _)
                      obtain ⟨g1, c1', rfl, _, hg1w⟩ := hown1.form (by omega)
                      have HO1 := Lib.hid hown1
                      have hs1 := HB1.out.size
                      clear hown1 hgrow1 hat1
                      go_wp2_with (at_builtin; go_must (refine wpList_append_own_at _ rfl (.tmp 92) (.tmp 95) 78 rfl w.heap.size 80 i0 (.agg #[.int .u64 0, .string ⟨#[]⟩, .int .u64 0, .int .u64 0, .string ⟨#[]⟩, .string ⟨#[]⟩, .slice none 0 0, .int .u64 0, .int .u64 0, .int .i64 0, .int .u64 0]) 11 128 Tryd.underlying78 hi0 hz0 hz1 hz2 rfl (by decide) (.slice (some ⟨w1.heap.size, 0, none⟩) 0 0) 0 [] rfl ?b1 ⟨g, 0, none⟩ k k (rowI F nw h (L.take k)) rfl ?b2 ?b3 ?b4 ?b5 ?b6 ?b7 ?_))
                      case b1 => exact World.ownsRow_lit w1 #[] 0 (by omega) (by unfold maxLen; omega) rfl
                      case b2 => exact HL18.out
                      case b3 => intro j u hu; rw [add_off, Nat.zero_add]; exact HN18.out _ ((HB1.out).trans (((Below.refl w1.heap.size w1).alloc (Nat.le_refl _) _).mono hs1)) j u hu
                      case b4 => exact HO17.out _
                      case b5 => unfold maxLen; omega
                      case b6 => omega
                      case b7 => simp only [World.size_alloc]; omega
                      intro v2 w2 hown2 hg2 _ hat2
                      have hb2 : Below w1.heap.size w1 w2 := ((Below.refl _ _).alloc (Nat.le_refl _) _).grown hg2 (by simp) (by simp [Value.ownBlock])
                      have hv2 : ∀ q, v2.ownBlock = some q → w1.heap.size ≤ q := by
                        intro q hq
                        rcases hat2 with e | e
                        · rw [e] at hq; simp [Value.ownBlock] at hq; omega
                        · rw [e] at hq; simp at hq; omega
                      have HO2 := Lib.hid hown2
                      have HB2 := Lib.hid hb2
                      have HV2 := Lib.hid hv2
                      have hs2 := hb2.size
                      clear hown2 hg2 hat2 hb2 hv2
                      go_wp2_with (at_builtin; go_must (refine wpList_append_own_at _ rfl (.tmp 96) (.tmp 97) 78 rfl w.heap.size 80 i0 (.agg #[.int .u64 0, .string ⟨#[]⟩, .int .u64 0, .int .u64 0, .string ⟨#[]⟩, .string ⟨#[]⟩, .slice none 0 0, .int .u64 0, .int .u64 0, .int .i64 0, .int .u64 0]) 11 128 Tryd.underlying78 hi0 hz0 hz1 hz2 rfl (by decide) v2 k (rowI F nw h (L.take k)) ?d0 HO2.out ⟨g1, 0, none⟩ 1 c1' (dvL xx qx ++ rowI F nw h (L.drop k)) ?d1 ?d2 ?d3 ?d4 ?d5 ?d6 ?d7 ?_))
                      case d0 => rfl
                      case d1 => rfl
                      case d2 => rw [List.length_append, HL17z.out, dvL_len]
                      case d3 =>
                        intro j u hu
                        rw [HB2.out.cell (p := (⟨g1, 0, none⟩ : Addr).add j) (by rw [add_off]; exact hg1w)]
                        exact HO1.out.cells (g := g1) rfl j u hu
                      case d4 =>
                        intro u hu
                        rcases List.mem_append.1 hu with hu | hu
                        · exact dvL_one _ _ u hu
                        · exact HO17.out _ u hu
                      case d5 => unfold maxLen; omega
                      case d6 => omega
                      case d7 => omega
                      intro v3 w3 hown3 hg3 _ _
                      have hb3 : Below w1.heap.size w2 w3 := (Below.refl _ _).grown hg3 (by omega) HV2.out
                      have e3 : rowI F nw h (lstI F G nw h now (i + 1)) = rowI F nw h (L.take k) ++ (dvL xx qx ++ rowI F nw h (L.drop k)) := by
                        rw [HNEW.out, HXX.out, HQX.out]
                        show List.flatMap _ _ = _
                        rw [List.flatMap_append, List.flatMap_cons]
                      have e4 : (lstI F G nw h now (i + 1)).length = k + 1 := by
                        rw [HNEW.out, List.length_append, List.length_cons, List.length_take, List.length_drop]; omega
                      rw [← e3, ← e4] at hown3
                      obtain ⟨g3, c3, rfl, _, _⟩ := hown3.form (by omega)
                      have HO3 := Lib.hid hown3
                      have HB3 : Hid (Below w.heap.size w w3) := ((HZ6.out.bel.trans (HB1.out.mono hZs)).trans (HB2.out.mono (by omega))).trans (hb3.mono (by omega))
                      clear hown3 hg3 hb3 e3 e4
                      go_wp2
                      go_roundw
                      case rel => exact ⟨i + 1, g3, c3, by go_num, rfl, by omega, HO3.out, HB3.out⟩
                      case measure => simp [intOf]; omega
                    go_wp2
                    go_region_held3 (fun W => Dz w F nw h L g c X i W) (first | assumption | exact HZ6.out | exact dz_next HZ6.out (Below.refl _ _).drew | exact dz_next (by assumption) (Below.refl _ _).drew | exact dz_next (by assumption) ((Below.refl _ _).alloc (Nat.le_refl _) _) | exact dz_next HZ6.out (((Below.refl W6.heap.size W6).alloc (Nat.le_refl _) (.cells (dvA xx qx) 80)).drew.grown (by assumption) (HSA.out _) (fun q hq => by cases hq; exact Nat.le_refl _)))
                      ((refine step_append_at (by rfl) (.tmp 87) (.tmp 90) 78 (by rfl) w.heap.size 80 i0 (.agg #[.int .u64 0, .string ⟨#[]⟩, .int .u64 0, .int .u64 0, .string ⟨#[]⟩, .string ⟨#[]⟩, .slice none 0 0, .int .u64 0, .int .u64 0, .int .i64 0, .int .u64 0]) 11 128 Tryd.underlying78 hi0 hz0 hz1 hz2 (by rfl) (by decide) (.slice (some ⟨W6.heap.size, 0, none⟩) 1 1) 1 (dvL xx qx) (by rfl) (by exact World.ownsRow_lit W6 (dvA xx qx) 1 hZs (by unfold maxLen; omega) rfl) ⟨g, k * 11, none⟩ (L.length - k) (c - k) (rowI F nw h (L.drop k)) (by rfl) HL17.out (by intro j u hu; rw [add_off]; exact HN17.out _ (by exact ((Below.refl _ W6).alloc (Nat.le_refl _) (.cells (dvA xx qx) 80)).drew) j u hu) (HO17.out _) (by unfold maxLen; omega) (by omega) (by exact HSB.out _) ?_; intro v1 w1 hown1 hgrow1 hat1))
                    have HB1 : Hid (Below W6.heap.size W6 w1) := ((Below.refl W6.heap.size W6).alloc (Nat.le_refl _) (.cells (dvA xx qx) 80)).drew.grown hgrow1 (HSA.out _) (fun q hq => by cases hq; exact Nat.le_refl _)
                    obtain ⟨g1, c1', rfl, _, hg1w⟩ := hown1.form (by omega)
                    have HO1 := Lib.hid hown1
                    have hs1 := HB1.out.size
                    clear hown1 hgrow1 hat1
                    go_wp2_with (at_builtin; go_must (refine wpList_append_own_at _ rfl (.tmp 92) (.tmp 95) 78 rfl w.heap.size 80 i0 (.agg #[.int .u64 0, .string ⟨#[]⟩, .int .u64 0, .int .u64 0, .string ⟨#[]⟩, .string ⟨#[]⟩, .slice none 0 0, .int .u64 0, .int .u64 0, .int .i64 0, .int .u64 0]) 11 128 Tryd.underlying78 hi0 hz0 hz1 hz2 rfl (by decide) (.slice (some ⟨w1.heap.size, 0, none⟩) 0 0) 0 [] rfl ?b1 ⟨g, 0, none⟩ k c (rowI F nw h (L.take k)) rfl ?b2 ?b3 ?b4 ?b5 ?b6 ?b7 ?_))
                    case b1 => exact World.ownsRow_lit w1 #[] 0 (by omega) (by unfold maxLen; omega) rfl
                    case b2 => exact HL18.out
                    case b3 => intro j u hu; rw [add_off, Nat.zero_add]; exact HN18.out _ ((HB1.out).trans (((Below.refl w1.heap.size w1).alloc (Nat.le_refl _) _).mono hs1)) j u hu
                    case b4 => exact HO17.out _
                    case b5 => unfold maxLen; omega
                    case b6 => omega
                    case b7 => simp only [World.size_alloc]; omega
                    intro v2 w2 hown2 hg2 _ hat2
                    have hb2 : Below w1.heap.size w1 w2 := ((Below.refl _ _).alloc (Nat.le_refl _) _).grown hg2 (by simp) (by simp [Value.ownBlock])
                    have hv2 : ∀ q, v2.ownBlock = some q → w1.heap.size ≤ q := by
                      intro q hq
                      rcases hat2 with e | e
                      · rw [e] at hq; simp [Value.ownBlock] at hq; omega
                      · rw [e] at hq; simp at hq; omega
                    have HO2 := Lib.hid hown2
                    have HB2 := Lib.hid hb2
                    have HV2 := Lib.hid hv2
                    have hs2 := hb2.size
                    clear hown2 hg2 hat2 hb2 hv2
                    go_wp2_with (at_builtin; go_must (refine wpList_append_own_at _ rfl (.tmp 96) (.tmp 97) 78 rfl w.heap.size 80 i0 (.agg #[.int .u64 0, .string ⟨#[]⟩, .int .u64 0, .int .u64 0, .string ⟨#[]⟩, .string ⟨#[]⟩, .slice none 0 0, .int .u64 0, .int .u64 0, .int .i64 0, .int .u64 0]) 11 128 Tryd.underlying78 hi0 hz0 hz1 hz2 rfl (by decide) v2 k (rowI F nw h (L.take k)) ?d0 HO2.out ⟨g1, 0, none⟩ (1 + (L.length - k)) c1' (dvL xx qx ++ rowI F nw h (L.drop k)) ?d1 ?d2 ?d3 ?d4 ?d5 ?d6 ?d7 ?_))
                    case d0 => rfl
                    case d1 => rfl
                    case d2 => rw [List.length_append, HL17.out, dvL_len]; omega
                    case d3 =>
                      intro j u hu
                      rw [HB2.out.cell (p := (⟨g1, 0, none⟩ : Addr).add j) (by rw [add_off]; exact hg1w)]
                      exact HO1.out.cells (g := g1) rfl j u hu
                    case d4 =>
                      intro u hu
                      rcases List.mem_append.1 hu with hu | hu
                      · exact dvL_one _ _ u hu
                      · exact HO17.out _ u hu
                    case d5 => unfold maxLen; omega
                    case d6 => omega
                    case d7 => omega
                    intro v3 w3 hown3 hg3 _ _
                    have hb3 : Below w1.heap.size w2 w3 := (Below.refl _ _).grown hg3 (by omega) HV2.out
                    have e3 : rowI F nw h (lstI F G nw h now (i + 1)) = rowI F nw h (L.take k) ++ (dvL xx qx ++ rowI F nw h (L.drop k)) := by
                      rw [HNEW.out, HXX.out, HQX.out]
                      show List.flatMap _ _ = _
                      rw [List.flatMap_append, List.flatMap_cons]
                    have e4 : (lstI F G nw h now (i + 1)).length = k + (1 + (L.length - k)) := by
                      rw [HNEW.out, List.length_append, List.length_cons, List.length_take, List.length_drop]; omega
                    rw [← e3, ← e4] at hown3
                    obtain ⟨g3, c3, rfl, _, _⟩ := hown3.form (by omega)
                    have HO3 := Lib.hid hown3
                    have HB3 : Hid (Below w.heap.size w w3) := ((HZ6.out.bel.trans (HB1.out.mono hZs)).trans (HB2.out.mono (by omega))).trans (hb3.mono (by omega))
                    clear hown3 hg3 hb3 e3 e4
                    go_wp2
                    go_roundw
                    case rel => exact ⟨i + 1, g3, c3, by go_num, rfl, by omega, HO3.out, HB3.out⟩
                    case measure => simp [intOf]; omega
                  · have hkz : (0 : Int) < (k : Int) := by omega
                    have hd : decide (0 < k) = true := decide_eq_true (by omega)
                    have hLb := HLN.out
                    obtain ⟨kp, hkp⟩ : ∃ kp, kp = k - 1 := ⟨_, rfl⟩
                    have hkw : IntKind.i64.wrap (kp : Int) = (kp : Int) := by rw [IntKind.wrap_i64]; omega
                    have hke : (k : Int) - 1 = (kp : Int) := by omega
                    have hk0 : (0 : Int) ≤ (kp : Int) := by omega
                    have hk1 : (kp : Int) < (L.length : Int) := by omega
                    have hkn : kp < L.length := by omega
                    obtain ⟨q, hq⟩ : ∃ q, q = L.getD kp 0 := ⟨_, rfl⟩
                    have hq2 : q = L[kp] := by rw [hq, List.getD_eq_getElem?_getD, List.getElem?_eq_getElem hkn]; rfl
                    have CA := Lib.hid (fun W => ahead_any (F i) (F q) (Qw nw h i) (Qw nw h q) W)
                    have HLT : Hid (ltOf cmpDw (dwOf (F i) (Qw nw h i)) (dwOf (F q) (Qw nw h q)) = ltI F nw h i q) := rfl
                    rw [HLT.out] at CA
                    have HRW := Lib.hid (fun (W : World) (z : Dz w F nw h L g c X i W) (t : Nat) (ht : t < 11) (u : Value) (hu : (dvL (F q) (Qw nw h q))[t]? = some u) => own_at (g := fun i => dvL (F i) (Qw nw h i)) (fun i => dvL_len _ _) z.row kp hkn t ht (u := u) (by rw [← hq2]; exact hu))
                    have D1 := Lib.hid (fun (W : World) (z : Dz w F nw h L g c X i W) => (CA.out W).mono fun _ _ k2 => (⟨k2.1, dz_next z k2.2⟩ : _ ∧ Dz w F nw h L g c X i _))
                    have HQK : Hid (k = kp + 1) := by show _ = _; omega
                    have HQQ := Lib.hid hq
                    clear hq2 hkn CA HLT hkp
                    obtain ⟨y, hy⟩ : ∃ y, y = F q := ⟨_, rfl⟩
                    obtain ⟨qy, hqy⟩ : ∃ qy, qy = Qw nw h q := ⟨_, rfl⟩
                    obtain ⟨xx, hxx⟩ : ∃ xx, xx = F i := ⟨_, rfl⟩
                    obtain ⟨qx, hqx⟩ : ∃ qx, qx = Qw nw h i := ⟨_, rfl⟩
                    rw [← hy, ← hqy] at HRW
                    rw [← hxx, ← hqx, ← hy, ← hqy] at D1
                    have r0 := fun (W : World) (z : Dz w F nw h L g c X i W) => (show W.cell? ⟨g, kp * 11, none⟩ = some (.int .u64 y.id) from HRW.out W z 0 (by decide) _ rfl)
                    have r1 := fun (W : World) (z : Dz w F nw h L g c X i W) => (show W.cell? ⟨g, kp * 11 + 1, none⟩ = some (.string ⟨y.dom.toArray⟩) from HRW.out W z 1 (by decide) _ rfl)
                    have r2 := fun (W : World) (z : Dz w F nw h L g c X i W) => (show W.cell? ⟨g, kp * 11 + 2, none⟩ = some (.int .u64 y.ep) from HRW.out W z 2 (by decide) _ rfl)
                    have r3 := fun (W : World) (z : Dz w F nw h L g c X i W) => (show W.cell? ⟨g, kp * 11 + 3, none⟩ = some (.int .u64 y.ct) from HRW.out W z 3 (by decide) _ rfl)
                    have r4 := fun (W : World) (z : Dz w F nw h L g c X i W) => (show W.cell? ⟨g, kp * 11 + 4, none⟩ = some (.string ⟨y.fl.toArray⟩) from HRW.out W z 4 (by decide) _ rfl)
                    have r5 := fun (W : World) (z : Dz w F nw h L g c X i W) => (show W.cell? ⟨g, kp * 11 + 5, none⟩ = some (.string ⟨y.fd.toArray⟩) from HRW.out W z 5 (by decide) _ rfl)
                    have r6 := fun (W : World) (z : Dz w F nw h L g c X i W) => (show W.cell? ⟨g, kp * 11 + 6, none⟩ = some (.slice y.A y.n y.c) from HRW.out W z 6 (by decide) _ rfl)
                    have r7 := fun (W : World) (z : Dz w F nw h L g c X i W) => (show W.cell? ⟨g, kp * 11 + 7, none⟩ = some (.int .u64 y.born) from HRW.out W z 7 (by decide) _ rfl)
                    have r8 := fun (W : World) (z : Dz w F nw h L g c X i W) => (show W.cell? ⟨g, kp * 11 + 8, none⟩ = some (.int .u64 y.next) from HRW.out W z 8 (by decide) _ rfl)
                    have r9 := fun (W : World) (z : Dz w F nw h L g c X i W) => (show W.cell? ⟨g, kp * 11 + 9, none⟩ = some (.int .i64 y.tries) from HRW.out W z 9 (by decide) _ rfl)
                    have r10 := fun (W : World) (z : Dz w F nw h L g c X i W) => (show W.cell? ⟨g, kp * 11 + 10, none⟩ = some (.int .u64 (qy.toNat : Int)) from HRW.out W z 10 (by decide) _ rfl)
                    have x0 := fun (W : World) (z : Dz w F nw h L g c X i W) => (show W.cell? ⟨X, 0, none⟩ = some (.int .u64 xx.id) from by rw [hxx, Lib.cell_of_heap z.blk]; rfl)
                    have x1 := fun (W : World) (z : Dz w F nw h L g c X i W) => (show W.cell? ⟨X, 1, none⟩ = some (.string ⟨xx.dom.toArray⟩) from by rw [hxx, Lib.cell_of_heap z.blk]; rfl)
                    have x2 := fun (W : World) (z : Dz w F nw h L g c X i W) => (show W.cell? ⟨X, 2, none⟩ = some (.int .u64 xx.ep) from by rw [hxx, Lib.cell_of_heap z.blk]; rfl)
                    have x3 := fun (W : World) (z : Dz w F nw h L g c X i W) => (show W.cell? ⟨X, 3, none⟩ = some (.int .u64 xx.ct) from by rw [hxx, Lib.cell_of_heap z.blk]; rfl)
                    have x4 := fun (W : World) (z : Dz w F nw h L g c X i W) => (show W.cell? ⟨X, 4, none⟩ = some (.string ⟨xx.fl.toArray⟩) from by rw [hxx, Lib.cell_of_heap z.blk]; rfl)
                    have x5 := fun (W : World) (z : Dz w F nw h L g c X i W) => (show W.cell? ⟨X, 5, none⟩ = some (.string ⟨xx.fd.toArray⟩) from by rw [hxx, Lib.cell_of_heap z.blk]; rfl)
                    have x6 := fun (W : World) (z : Dz w F nw h L g c X i W) => (show W.cell? ⟨X, 6, none⟩ = some (.slice xx.A xx.n xx.c) from by rw [hxx, Lib.cell_of_heap z.blk]; rfl)
                    have x7 := fun (W : World) (z : Dz w F nw h L g c X i W) => (show W.cell? ⟨X, 7, none⟩ = some (.int .u64 xx.born) from by rw [hxx, Lib.cell_of_heap z.blk]; rfl)
                    have x8 := fun (W : World) (z : Dz w F nw h L g c X i W) => (show W.cell? ⟨X, 8, none⟩ = some (.int .u64 xx.next) from by rw [hxx, Lib.cell_of_heap z.blk]; rfl)
                    have x9 := fun (W : World) (z : Dz w F nw h L g c X i W) => (show W.cell? ⟨X, 9, none⟩ = some (.int .i64 xx.tries) from by rw [hxx, Lib.cell_of_heap z.blk]; rfl)
                    have x10 := fun (W : World) (z : Dz w F nw h L g c X i W) => (show W.cell? ⟨X, 10, none⟩ = some (.int .u64 (qx.toNat : Int)) from by rw [hqx, Lib.cell_of_heap z.blk]; rfl)
                    clear HRW hy hqy hxx hqx hq
                    cases hlt2 : ltI F nw h i q with
                    | true =>
                      rw [hlt2] at D1
                      have HK2 : Hid (kp < L.length → ltI F nw h i (L.getD kp 0) = true) := fun _ => by rw [← HQQ.out]; exact hlt2
                      clear hlt2
                      go_wp2_with fail
                      go_region_held3 (fun W => Dz w F nw h L g c X i W) (first | assumption | exact HZ.out | exact dz_next HZ.out (Below.refl _ _).drew | exact dz_next (by assumption) (Below.refl _ _).drew) (first
                        | (go_at_call 39; refine (D1.out _ (by assumption)).mono ?_; rintro e w9 ⟨rfl, h9⟩))
                      all_goals go_wp2
                      all_goals go_roundw
                      case rel => exact ⟨kp, by first | rfl | go_num, by omega, h9, HK2⟩
                      case measure => have := HQK.out; simp [intOf]; omega
                    | false =>
                      rw [hlt2] at D1
                      have H1 : Hid (0 < k → ltI F nw h i (L.getD (k - 1) 0) = false) := fun _ => by
                        have e : k - 1 = kp := by have := HQK.out; omega
                        rw [e, ← HQQ.out]; exact hlt2
                      clear hlt2
                      go_wp2_with fail
                      go_region_held3 (fun W => Dz w F nw h L g c X i W) (first | assumption | exact HZ.out | exact dz_next HZ.out (Below.refl _ _).drew | exact dz_next (by assumption) (Below.refl _ _).drew) (first
                        | (go_at_call 39; refine (D1.out _ (by assumption)).mono ?_; rintro e w9 ⟨rfl, h9⟩))
                      have HZ6 := Lib.hid h9
                      clear h9 r0 r1 r2 r3 r4 r5 r6 r7 r8 r9 r10 x0 x1 x2 x3 x4 x5 x6 x7 x8 x9 x10 HZ D1
                      generalize w9 = W6 at *
                      have HNEW := Lib.hid (HST.out k HPY.out hk HK.out H1.out)
                      have HI := HLN.out
                      have hZs := HZ6.out.bel.size
                      have hgW := (HZ6.out.row.lt g rfl).2
                      have hgb := (HZ6.out.row.lt g rfl).1
                      have hkc2 : L.length ≤ c := by
                        rcases HZ6.out.row.2 with ⟨e, _⟩ | ⟨_, cc, _, e, _, _, hc, _⟩
                        · cases e
                        · injection e with _ _ e5; omega
                      have kz0 : (0 : Int) ≤ (k : Int) := by omega
                      have kz1 : (k : Int) ≤ (L.length : Int) := by omega
                      have kz2 : (k : Int) ≤ (c : Int) := by omega
                      have kc2 : k ≤ c := by omega
                      have HN17 : Hid (∀ W, Below W6.heap.size W6 W → ∀ j u, (rowI F nw h (L.drop k))[j]? = some u → W.cell? ⟨g, k * 11 + j, none⟩ = some u) := fun W b j u hu => by
                        have e := flat_drop (fun i => dvL (F i) (Qw nw h i)) 11 (fun i => dvL_len _ _) L k
                        have hu2 : ((rowI F nw h L).drop (k * 11))[j]? = some u := by rw [← e]; exact hu
                        rw [List.getElem?_drop] at hu2
                        have q := HZ6.out.row.cells rfl (k * 11 + j) u hu2
                        rw [add_off, Nat.zero_add] at q
                        rw [b.cell (p := ⟨g, k * 11 + j, none⟩) hgW]
                        exact q
                      have HL17 : Hid ((rowI F nw h (L.drop k)).length = (L.length - k) * 11) := by
                        show _ = _
                        rw [flat_length (fun i => dvL (F i) (Qw nw h i)) 11 (fun i => dvL_len _ _), List.length_drop]
                      have HO17 : Hid (∀ M : List Nat, ∀ u ∈ rowI F nw h M, u.oneCell' = true) := fun M u hu => by
                        obtain ⟨y, _, hy⟩ := List.mem_flatMap.1 hu
                        exact dvL_one _ _ u hy
                      obtain ⟨xx, hxx⟩ : ∃ xx, xx = F i := ⟨_, rfl⟩
                      obtain ⟨qx, hqx⟩ : ∃ qx, qx = Qw nw h i := ⟨_, rfl⟩
                      have x0 := fun (W : World) (z : Dz w F nw h L g c X i W) => (show W.cell? ⟨X, 0, none⟩ = some (.int .u64 xx.id) from by rw [hxx, Lib.cell_of_heap z.blk]; rfl)
                      have x1 := fun (W : World) (z : Dz w F nw h L g c X i W) => (show W.cell? ⟨X, 1, none⟩ = some (.string ⟨xx.dom.toArray⟩) from by rw [hxx, Lib.cell_of_heap z.blk]; rfl)
                      have x2 := fun (W : World) (z : Dz w F nw h L g c X i W) => (show W.cell? ⟨X, 2, none⟩ = some (.int .u64 xx.ep) from by rw [hxx, Lib.cell_of_heap z.blk]; rfl)
                      have x3 := fun (W : World) (z : Dz w F nw h L g c X i W) => (show W.cell? ⟨X, 3, none⟩ = some (.int .u64 xx.ct) from by rw [hxx, Lib.cell_of_heap z.blk]; rfl)
                      have x4 := fun (W : World) (z : Dz w F nw h L g c X i W) => (show W.cell? ⟨X, 4, none⟩ = some (.string ⟨xx.fl.toArray⟩) from by rw [hxx, Lib.cell_of_heap z.blk]; rfl)
                      have x5 := fun (W : World) (z : Dz w F nw h L g c X i W) => (show W.cell? ⟨X, 5, none⟩ = some (.string ⟨xx.fd.toArray⟩) from by rw [hxx, Lib.cell_of_heap z.blk]; rfl)
                      have x6 := fun (W : World) (z : Dz w F nw h L g c X i W) => (show W.cell? ⟨X, 6, none⟩ = some (.slice xx.A xx.n xx.c) from by rw [hxx, Lib.cell_of_heap z.blk]; rfl)
                      have x7 := fun (W : World) (z : Dz w F nw h L g c X i W) => (show W.cell? ⟨X, 7, none⟩ = some (.int .u64 xx.born) from by rw [hxx, Lib.cell_of_heap z.blk]; rfl)
                      have x8 := fun (W : World) (z : Dz w F nw h L g c X i W) => (show W.cell? ⟨X, 8, none⟩ = some (.int .u64 xx.next) from by rw [hxx, Lib.cell_of_heap z.blk]; rfl)
                      have x9 := fun (W : World) (z : Dz w F nw h L g c X i W) => (show W.cell? ⟨X, 9, none⟩ = some (.int .i64 xx.tries) from by rw [hxx, Lib.cell_of_heap z.blk]; rfl)
                      have x10 := fun (W : World) (z : Dz w F nw h L g c X i W) => (show W.cell? ⟨X, 10, none⟩ = some (.int .u64 (qx.toNat : Int)) from by rw [hqx, Lib.cell_of_heap z.blk]; rfl)
                      have HXX := Lib.hid hxx
                      have HQX := Lib.hid hqx
                      clear hxx hqx
                      have HSA : Hid (∀ o, W6.heap.size ≤ ((W6.alloc o).drew).heap.size) := fun o => by show W6.heap.size ≤ (W6.alloc o).heap.size; rw [World.size_alloc]; omega
                      have HSB : Hid (∀ o, w.heap.size ≤ ((W6.alloc o).drew).heap.size) := fun o => by show w.heap.size ≤ (W6.alloc o).heap.size; rw [World.size_alloc]; omega
                      have HN18 : Hid (∀ W, Below W6.heap.size W6 W → ∀ j u, (rowI F nw h (L.take k))[j]? = some u → W.cell? ⟨g, j, none⟩ = some u) := fun W b j u hu => by
                        have e := flat_take (fun i => dvL (F i) (Qw nw h i)) 11 (fun i => dvL_len _ _) L k
                        have hu2 : ((rowI F nw h L).take (k * 11))[j]? = some u := by rw [← e]; exact hu
                        rw [List.getElem?_take] at hu2
                        split at hu2
                        · have q := HZ6.out.row.cells rfl j u hu2
                          rw [add_off, Nat.zero_add] at q
                          rw [b.cell (p := ⟨g, j, none⟩) hgW]
                          exact q
                        · cases hu2
                      have HL18 : Hid ((rowI F nw h (L.take k)).length = k * 11) := by
                        show _ = _
                        rw [flat_length (fun i => dvL (F i) (Qw nw h i)) 11 (fun i => dvL_len _ _), List.length_take]
                        congr 1; omega
                      by_cases hck : c = k
                      · have hck2 : k = c := hck.symm
                        clear hck
                        subst hck2
                        have hLk : L.length - k = 0 := by omega
                        have HL17z : Hid ((rowI F nw h (L.drop k)).length = 0 * 11) := by show _ = _; rw [HL17.out, hLk]
                        clear hLk
                        go_wp2
                        go_region_held3 (fun W => Dz w F nw h L g k X i W) (first | assumption | exact HZ6.out | exact dz_next HZ6.out (Below.refl _ _).drew | exact dz_next (by assumption) (Below.refl _ _).drew | exact dz_next (by assumption) ((Below.refl _ _).alloc (Nat.le_refl _) _) | exact dz_next HZ6.out (((Below.refl W6.heap.size W6).alloc (Nat.le_refl _) (.cells (dvA xx qx) 80)).drew.grown (by assumption) (HSA.out _) (fun q hq => by cases hq; exact Nat.le_refl _)))
                          ((refine step_append_at (by rfl) (.tmp 87) (.tmp 90) 78 (by rfl) w.heap.size 80 i0 (.agg #[.int .u64 0, .string ⟨#[]⟩, .int .u64 0, .int .u64 0, .string ⟨#[]⟩, .string ⟨#[]⟩, .slice none 0 0, .int .u64 0, .int .u64 0, .int .i64 0, .int .u64 0]) 11 128 Tryd.underlying78 hi0 hz0 hz1 hz2 (by rfl) (by decide) (.slice (some ⟨W6.heap.size, 0, none⟩) 1 1) 1 (dvL xx qx) (by rfl) (by exact World.ownsRow_lit W6 (dvA xx qx) 1 hZs (by unfold maxLen; omega) rfl) ⟨g, 0, none⟩ 0 0 (rowI F nw h (L.drop k)) (by rfl) HL17z.out (by intro j u hu; rw [List.drop_eq_nil_of_le (by omega)] at hu; cases hu) (HO17.out _) (by unfold maxLen; omega) (by omega) (by exact HSB.out _) ?_; intro v1 w1 hown1 hgrow1 hat1))
                        have HB1 : Hid (Below W6.heap.size W6 w1) := ((Below.refl W6.heap.size W6).alloc (Nat.le_refl _) (.cells (dvA xx qx) 80)).drew.grown hgrow1 (HSA.out _) (fun q hq => by cases hq; exact Nat.le_refl _)
                        obtain ⟨g1, c1', rfl, _, hg1w⟩ := hown1.form (by omega)
                        have HO1 := Lib.hid hown1
                        have hs1 := HB1.out.size
                        clear hown1 hgrow1 hat1
                        go_wp2_with (at_builtin; go_must (refine wpList_append_own_at _ rfl (.tmp 92) (.tmp 95) 78 rfl w.heap.size 80 i0 (.agg #[.int .u64 0, .string ⟨#[]⟩, .int .u64 0, .int .u64 0, .string ⟨#[]⟩, .string ⟨#[]⟩, .slice none 0 0, .int .u64 0, .int .u64 0, .int .i64 0, .int .u64 0]) 11 128 Tryd.underlying78 hi0 hz0 hz1 hz2 rfl (by decide) (.slice (some ⟨w1.heap.size, 0, none⟩) 0 0) 0 [] rfl ?b1 ⟨g, 0, none⟩ k k (rowI F nw h (L.take k)) rfl ?b2 ?b3 ?b4 ?b5 ?b6 ?b7 ?_))
                        case b1 => exact World.ownsRow_lit w1 #[] 0 (by omega) (by unfold maxLen; omega) rfl
                        case b2 => exact HL18.out
                        case b3 => intro j u hu; rw [add_off, Nat.zero_add]; exact HN18.out _ ((HB1.out).trans (((Below.refl w1.heap.size w1).alloc (Nat.le_refl _) _).mono hs1)) j u hu
                        case b4 => exact HO17.out _
                        case b5 => unfold maxLen; omega
                        case b6 => omega
                        case b7 => simp only [World.size_alloc]; omega
                        intro v2 w2 hown2 hg2 _ hat2
                        have hb2 : Below w1.heap.size w1 w2 := ((Below.refl _ _).alloc (Nat.le_refl _) _).grown hg2 (by simp) (by simp [Value.ownBlock])
                        have hv2 : ∀ q, v2.ownBlock = some q → w1.heap.size ≤ q := by
                          intro q hq
                          rcases hat2 with e | e
                          · rw [e] at hq; simp [Value.ownBlock] at hq; omega
                          · rw [e] at hq; simp at hq; omega
                        have HO2 := Lib.hid hown2
                        have HB2 := Lib.hid hb2
                        have HV2 := Lib.hid hv2
                        have hs2 := hb2.size
                        clear hown2 hg2 hat2 hb2 hv2
                        go_wp2_with (at_builtin; go_must (refine wpList_append_own_at _ rfl (.tmp 96) (.tmp 97) 78 rfl w.heap.size 80 i0 (.agg #[.int .u64 0, .string ⟨#[]⟩, .int .u64 0, .int .u64 0, .string ⟨#[]⟩, .string ⟨#[]⟩, .slice none 0 0, .int .u64 0, .int .u64 0, .int .i64 0, .int .u64 0]) 11 128 Tryd.underlying78 hi0 hz0 hz1 hz2 rfl (by decide) v2 k (rowI F nw h (L.take k)) ?d0 HO2.out ⟨g1, 0, none⟩ 1 c1' (dvL xx qx ++ rowI F nw h (L.drop k)) ?d1 ?d2 ?d3 ?d4 ?d5 ?d6 ?d7 ?_))
                        case d0 => rfl
                        case d1 => rfl
                        case d2 => rw [List.length_append, HL17z.out, dvL_len]
                        case d3 =>
                          intro j u hu
                          rw [HB2.out.cell (p := (⟨g1, 0, none⟩ : Addr).add j) (by rw [add_off]; exact hg1w)]
                          exact HO1.out.cells (g := g1) rfl j u hu
                        case d4 =>
                          intro u hu
                          rcases List.mem_append.1 hu with hu | hu
                          · exact dvL_one _ _ u hu
                          · exact HO17.out _ u hu
                        case d5 => unfold maxLen; omega
                        case d6 => omega
                        case d7 => omega
                        intro v3 w3 hown3 hg3 _ _
                        have hb3 : Below w1.heap.size w2 w3 := (Below.refl _ _).grown hg3 (by omega) HV2.out
                        have e3 : rowI F nw h (lstI F G nw h now (i + 1)) = rowI F nw h (L.take k) ++ (dvL xx qx ++ rowI F nw h (L.drop k)) := by
                          rw [HNEW.out, HXX.out, HQX.out]
                          show List.flatMap _ _ = _
                          rw [List.flatMap_append, List.flatMap_cons]
                        have e4 : (lstI F G nw h now (i + 1)).length = k + 1 := by
                          rw [HNEW.out, List.length_append, List.length_cons, List.length_take, List.length_drop]; omega
                        rw [← e3, ← e4] at hown3
                        obtain ⟨g3, c3, rfl, _, _⟩ := hown3.form (by omega)
                        have HO3 := Lib.hid hown3
                        have HB3 : Hid (Below w.heap.size w w3) := ((HZ6.out.bel.trans (HB1.out.mono hZs)).trans (HB2.out.mono (by omega))).trans (hb3.mono (by omega))
                        clear hown3 hg3 hb3 e3 e4
                        go_wp2
                        go_roundw
                        case rel => exact ⟨i + 1, g3, c3, by go_num, rfl, by omega, HO3.out, HB3.out⟩
                        case measure => simp [intOf]; omega
                      go_wp2
                      go_region_held3 (fun W => Dz w F nw h L g c X i W) (first | assumption | exact HZ6.out | exact dz_next HZ6.out (Below.refl _ _).drew | exact dz_next (by assumption) (Below.refl _ _).drew | exact dz_next (by assumption) ((Below.refl _ _).alloc (Nat.le_refl _) _) | exact dz_next HZ6.out (((Below.refl W6.heap.size W6).alloc (Nat.le_refl _) (.cells (dvA xx qx) 80)).drew.grown (by assumption) (HSA.out _) (fun q hq => by cases hq; exact Nat.le_refl _)))
                        ((refine step_append_at (by rfl) (.tmp 87) (.tmp 90) 78 (by rfl) w.heap.size 80 i0 (.agg #[.int .u64 0, .string ⟨#[]⟩, .int .u64 0, .int .u64 0, .string ⟨#[]⟩, .string ⟨#[]⟩, .slice none 0 0, .int .u64 0, .int .u64 0, .int .i64 0, .int .u64 0]) 11 128 Tryd.underlying78 hi0 hz0 hz1 hz2 (by rfl) (by decide) (.slice (some ⟨W6.heap.size, 0, none⟩) 1 1) 1 (dvL xx qx) (by rfl) (by exact World.ownsRow_lit W6 (dvA xx qx) 1 hZs (by unfold maxLen; omega) rfl) ⟨g, k * 11, none⟩ (L.length - k) (c - k) (rowI F nw h (L.drop k)) (by rfl) HL17.out (by intro j u hu; rw [add_off]; exact HN17.out _ (by exact ((Below.refl _ W6).alloc (Nat.le_refl _) (.cells (dvA xx qx) 80)).drew) j u hu) (HO17.out _) (by unfold maxLen; omega) (by omega) (by exact HSB.out _) ?_; intro v1 w1 hown1 hgrow1 hat1))
                      have HB1 : Hid (Below W6.heap.size W6 w1) := ((Below.refl W6.heap.size W6).alloc (Nat.le_refl _) (.cells (dvA xx qx) 80)).drew.grown hgrow1 (HSA.out _) (fun q hq => by cases hq; exact Nat.le_refl _)
                      obtain ⟨g1, c1', rfl, _, hg1w⟩ := hown1.form (by omega)
                      have HO1 := Lib.hid hown1
                      have hs1 := HB1.out.size
                      clear hown1 hgrow1 hat1
                      go_wp2_with (at_builtin; go_must (refine wpList_append_own_at _ rfl (.tmp 92) (.tmp 95) 78 rfl w.heap.size 80 i0 (.agg #[.int .u64 0, .string ⟨#[]⟩, .int .u64 0, .int .u64 0, .string ⟨#[]⟩, .string ⟨#[]⟩, .slice none 0 0, .int .u64 0, .int .u64 0, .int .i64 0, .int .u64 0]) 11 128 Tryd.underlying78 hi0 hz0 hz1 hz2 rfl (by decide) (.slice (some ⟨w1.heap.size, 0, none⟩) 0 0) 0 [] rfl ?b1 ⟨g, 0, none⟩ k c (rowI F nw h (L.take k)) rfl ?b2 ?b3 ?b4 ?b5 ?b6 ?b7 ?_))
                      case b1 => exact World.ownsRow_lit w1 #[] 0 (by omega) (by unfold maxLen; omega) rfl
                      case b2 => exact HL18.out
                      case b3 => intro j u hu; rw [add_off, Nat.zero_add]; exact HN18.out _ ((HB1.out).trans (((Below.refl w1.heap.size w1).alloc (Nat.le_refl _) _).mono hs1)) j u hu
                      case b4 => exact HO17.out _
                      case b5 => unfold maxLen; omega
                      case b6 => omega
                      case b7 => simp only [World.size_alloc]; omega
                      intro v2 w2 hown2 hg2 _ hat2
                      have hb2 : Below w1.heap.size w1 w2 := ((Below.refl _ _).alloc (Nat.le_refl _) _).grown hg2 (by simp) (by simp [Value.ownBlock])
                      have hv2 : ∀ q, v2.ownBlock = some q → w1.heap.size ≤ q := by
                        intro q hq
                        rcases hat2 with e | e
                        · rw [e] at hq; simp [Value.ownBlock] at hq; omega
                        · rw [e] at hq; simp at hq; omega
                      have HO2 := Lib.hid hown2
                      have HB2 := Lib.hid hb2
                      have HV2 := Lib.hid hv2
                      have hs2 := hb2.size
                      clear hown2 hg2 hat2 hb2 hv2
                      go_wp2_with (at_builtin; go_must (refine wpList_append_own_at _ rfl (.tmp 96) (.tmp 97) 78 rfl w.heap.size 80 i0 (.agg #[.int .u64 0, .string ⟨#[]⟩, .int .u64 0, .int .u64 0, .string ⟨#[]⟩, .string ⟨#[]⟩, .slice none 0 0, .int .u64 0, .int .u64 0, .int .i64 0, .int .u64 0]) 11 128 Tryd.underlying78 hi0 hz0 hz1 hz2 rfl (by decide) v2 k (rowI F nw h (L.take k)) ?d0 HO2.out ⟨g1, 0, none⟩ (1 + (L.length - k)) c1' (dvL xx qx ++ rowI F nw h (L.drop k)) ?d1 ?d2 ?d3 ?d4 ?d5 ?d6 ?d7 ?_))
                      case d0 => rfl
                      case d1 => rfl
                      case d2 => rw [List.length_append, HL17.out, dvL_len]; omega
                      case d3 =>
                        intro j u hu
                        rw [HB2.out.cell (p := (⟨g1, 0, none⟩ : Addr).add j) (by rw [add_off]; exact hg1w)]
                        exact HO1.out.cells (g := g1) rfl j u hu
                      case d4 =>
                        intro u hu
                        rcases List.mem_append.1 hu with hu | hu
                        · exact dvL_one _ _ u hu
                        · exact HO17.out _ u hu
                      case d5 => unfold maxLen; omega
                      case d6 => omega
                      case d7 => omega
                      intro v3 w3 hown3 hg3 _ _
                      have hb3 : Below w1.heap.size w2 w3 := (Below.refl _ _).grown hg3 (by omega) HV2.out
                      have e3 : rowI F nw h (lstI F G nw h now (i + 1)) = rowI F nw h (L.take k) ++ (dvL xx qx ++ rowI F nw h (L.drop k)) := by
                        rw [HNEW.out, HXX.out, HQX.out]
                        show List.flatMap _ _ = _
                        rw [List.flatMap_append, List.flatMap_cons]
                      have e4 : (lstI F G nw h now (i + 1)).length = k + (1 + (L.length - k)) := by
                        rw [HNEW.out, List.length_append, List.length_cons, List.length_take, List.length_drop]; omega
                      rw [← e3, ← e4] at hown3
                      obtain ⟨g3, c3, rfl, _, _⟩ := hown3.form (by omega)
                      have HO3 := Lib.hid hown3
                      have HB3 : Hid (Below w.heap.size w w3) := ((HZ6.out.bel.trans (HB1.out.mono hZs)).trans (HB2.out.mono (by omega))).trans (hb3.mono (by omega))
                      clear hown3 hg3 hb3 e3 e4
                      go_wp2
                      go_roundw
                      case rel => exact ⟨i + 1, g3, c3, by go_num, rfl, by omega, HO3.out, HB3.out⟩
                      case measure => simp [intOf]; omega
    · have hltz : ¬ (i : Int) < (n : Int) := by omega
      have hin : i = n := by omega
      subst hin
      obtain ⟨j0, hj0, yz0, yz1, yz2⟩ := info_parts info36
      have HLN : Hid ((lstI F G nw h now i).length ≤ i) := by
        have q := dueT_len F G nw h now i
        rw [← lstI_len] at q
        exact q
      have HLm := HLN.out
      have hZs := HB.out.size
      have hgW := (HO.out.lt g rfl).2
      obtain ⟨L, hL⟩ : ∃ L, L = lstI F G nw h now i := ⟨_, rfl⟩
      rw [← hL] at HLm HO ⊢
      have HLE := Lib.hid hL
      clear hL HLN
      obtain ⟨M, hM⟩ : ∃ M, M = L.map (fun q => Value.int .u64 (F q).id) := ⟨_, rfl⟩
      have HMM := Lib.hid hM
      have HML : Hid (M.length = L.length) := by show _ = _; rw [hM, List.length_map]
      clear hM
      have HB0 := Lib.hid HB.out
      have HO0 := Lib.hid HO.out
      clear HB HO
      generalize wr = w4 at *
      go_wp2_with fail
      go_loopw [15, 14] (fun u v wr => ∃ j : Nat, u = .int .i64 j ∧ j ≤ L.length ∧ Hid (wr.ownsRow w4.heap.size 36 1 v j (M.take j)) ∧ Hid (Below w4.heap.size w4 wr)) (fun u _ _ => L.length - (intOf u).toNat)
      case atStart => exact ⟨0, rfl, by omega, World.ownsRow_lit w4 #[] 0 (Nat.le_refl _) (by unfold maxLen; omega) rfl, (Below.refl _ _).alloc (Nat.le_refl _) _⟩
      case round =>
        obtain ⟨j, rfl, hj, HO4, HB5⟩ := hrel
        have hs5 : w4.heap.size ≤ wr.heap.size := HB5.out.size
        by_cases hlt2 : j < L.length
        · have hltz2 : (j : Int) < (L.length : Int) := by omega
          have d0 : wr.cell? ⟨g, j * 11, none⟩ = some (.int .u64 (F (L[j])).id) := by
            rw [HB5.out.cell (p := ⟨g, j * 11, none⟩) hgW]
            exact own_at (g := fun i => dvL (F i) (Qw nw h i)) (fun i => dvL_len _ _) HO0.out j hlt2 0 (by decide) (u := .int .u64 (F (L[j])).id) rfl
          have HX : Hid (M.take (j + 1) = M.take j ++ [.int .u64 (F (L[j])).id]) := by
            show _ = _
            rw [List.take_succ_eq_append_getElem (by rw [HML.out]; exact hlt2)]
            congr 2
            simp only [HMM.out, List.getElem_map]
          generalize (F (L[j])).id = y at *
          go_wp2_with (at_builtin; go_must (refine wpList_append_own _ rfl (.tmp 106) (.tmp 113) 49 rfl w4.heap.size 36 j0 (.int .u64 0) 1 8 Tryd.underlying49 hj0 yz0 yz1 yz2 rfl (by decide) _ _ _ rfl (HO4.out.alloc _) ⟨wr.heap.size, 0, none⟩ 1 1 [.int .u64 y] rfl rfl ?r1 ?r2 ?r3 ?r4 ?r5 ?_))
          case r1 => exact (World.ownsRow_lit (base := 0) (size := 1) (e := 36) wr #[.int .u64 y] 1 (Nat.zero_le _) (by unfold maxLen; omega) rfl).cells rfl
          case r2 => intro u hu; simp only [List.mem_singleton] at hu; subst hu; rfl
          case r3 => unfold maxLen; omega
          case r4 => omega
          case r5 => simp only [World.size_alloc]; omega
          intro v' w6 hown hgrow _
          have hb6 : Below w4.heap.size w4 w6 := (HB5.out.alloc hs5 _).grown hgrow (by simp only [World.size_alloc]; omega) (fun q hq => (HO4.out.lt q hq).1)
          have HOW : Hid (w6.ownsRow w4.heap.size 36 1 v' (j + 1) (M.take (j + 1))) := by
            rw [HX.out]
            exact hown
          have HB6 := Lib.hid hb6
          clear hown hgrow hb6
          go_wp2
          go_roundw
          case rel => exact ⟨j + 1, by go_num, by omega, HOW, HB6⟩
          case measure => simp [intOf]; omega
        · have hLi : j = L.length := by omega
          subst hLi
          have HFIN : Hid (M.take L.length = L.map fun q => .int .u64 (F q).id) := by show _ = _; rw [← HML.out, List.take_length, HMM.out]
          have hltz2 : ¬ (L.length : Int) < (L.length : Int) := by omega
          go_wp2_with fail
          go_ret
          refine ⟨⟨_, rfl, ?_⟩, HB0.out.trans (HB5.out.mono HB0.out.size)⟩
          rw [← HLE.out, ← HFIN.out]
          exact World.ownsRow.mono HO4.out HB0.out.size
end Go.Proofs.YtocjjfjcepflnaaDoor
