/-
  PROVED HERE: what Due of the program computes.
-/
import Derived.Test.YtocjjfjcepflnaaDoorNil
import Derived.Deep.Onto
set_option linter.unusedVariables false
namespace Go.Proofs.YtocjjfjcepflnaaDoor
open Go.RowKit Go.Shelf Go.Lib Go.Sort
/-- A row of entries in memory. -/
def Ens (W : World) (A : Option Addr) (n : Nat) (F : Nat → En) : Prop := ∀ k, k < n → ∃ b off, A = some ⟨b, off, none⟩ ∧ W.cell? ⟨b, off + k * 10, none⟩ = some (.int .u64 (F k).id) ∧ W.cell? ⟨b, off + k * 10 + 1, none⟩ = some (.string ⟨(F k).dom.toArray⟩) ∧ W.cell? ⟨b, off + k * 10 + 2, none⟩ = some (.int .u64 (F k).ep) ∧ W.cell? ⟨b, off + k * 10 + 3, none⟩ = some (.int .u64 (F k).ct) ∧ W.cell? ⟨b, off + k * 10 + 4, none⟩ = some (.string ⟨(F k).fl.toArray⟩) ∧ W.cell? ⟨b, off + k * 10 + 5, none⟩ = some (.string ⟨(F k).fd.toArray⟩) ∧ W.cell? ⟨b, off + k * 10 + 6, none⟩ = some (.slice (F k).A (F k).n (F k).c) ∧ W.cell? ⟨b, off + k * 10 + 7, none⟩ = some (.int .u64 (F k).born) ∧ W.cell? ⟨b, off + k * 10 + 8, none⟩ = some (.int .u64 (F k).next) ∧ W.cell? ⟨b, off + k * 10 + 9, none⟩ = some (.int .i64 (F k).tries)
theorem ens_below {W W1 : World} {A : Option Addr} {n : Nat} {F : Nat → En} (h : Ens W A n F) (hb : Below W.heap.size W W1) : Ens W1 A n F := fun k hk => by
  obtain ⟨b, off, e, h0, h1, h2, h3, h4, h5, h6, h7, h8, h9⟩ := h k hk
  exact ⟨b, off, e, by rw [hb.cell (World.block_lt_of_cell? _ _ h0)]; exact h0, by rw [hb.cell (World.block_lt_of_cell? _ _ h1)]; exact h1, by rw [hb.cell (World.block_lt_of_cell? _ _ h2)]; exact h2, by rw [hb.cell (World.block_lt_of_cell? _ _ h3)]; exact h3, by rw [hb.cell (World.block_lt_of_cell? _ _ h4)]; exact h4, by rw [hb.cell (World.block_lt_of_cell? _ _ h5)]; exact h5, by rw [hb.cell (World.block_lt_of_cell? _ _ h6)]; exact h6, by rw [hb.cell (World.block_lt_of_cell? _ _ h7)]; exact h7, by rw [hb.cell (World.block_lt_of_cell? _ _ h8)]; exact h8, by rw [hb.cell (World.block_lt_of_cell? _ _ h9)]; exact h9⟩
/-- A row of weights in memory. -/
def Wds (W : World) (A : Option Addr) (n : Nat) (h : Nat → UInt64) : Prop := ∀ k, k < n → ∃ b off, A = some ⟨b, off, none⟩ ∧ W.cell? ⟨b, off + k, none⟩ = some (.int .u64 ((h k).toNat : Int))
theorem wds_below {W W1 : World} {A : Option Addr} {n : Nat} {h : Nat → UInt64} (g : Wds W A n h) (hb : Below W.heap.size W W1) : Wds W1 A n h := fun k hk => by
  obtain ⟨b, off, e, f⟩ := g k hk
  exact ⟨b, off, e, by rw [hb.cell (World.block_lt_of_cell? _ _ f)]; exact f⟩
/-- What is due of an entry. -/
def dueO (F : Nat → En) (G : Nat → Nat → To3) (nw : Nat) (h : Nat → UInt64) (now : Int) (i : Nat) : Option Dw :=
  if now < (F i).next then none else if wtB (F i).n (G i) = true then some ⟨if i < nw then h i else 0, (F i).next, (F i).id⟩ else none
def dueT (F : Nat → En) (G : Nat → Nat → To3) (nw : Nat) (h : Nat → UInt64) (now : Int) (k : Nat) : List Dw := (List.range k).filterMap (dueO F G nw h now)
theorem dueT_succ (F : Nat → En) (G : Nat → Nat → To3) (nw : Nat) (h : Nat → UInt64) (now : Int) (k : Nat) : dueT F G nw h now (k + 1) = dueT F G nw h now k ++ (dueO F G nw h now k).toList := by
  unfold dueT
  rw [List.range_succ, List.filterMap_append]
  cases hh : dueO F G nw h now k <;> simp [hh]
theorem dueT_len (F : Nat → En) (G : Nat → Nat → To3) (nw : Nat) (h : Nat → UInt64) (now : Int) (k : Nat) : (dueT F G nw h now k).length ≤ k := by
  unfold dueT
  have := List.length_filterMap_le (dueO F G nw h now) (List.range k)
  rwa [List.length_range] at this
theorem info75 : (Tryd.prog.info? 75).map (fun i => (i.zero, i.size, i.bytes)) = some (some (.agg #[.int .u64 0, .int .u64 0, .int .u64 0]), 3, 24) := by kernel_rfl
theorem info36 : (Tryd.prog.info? 36).map (fun i => (i.zero, i.size, i.bytes)) = some (some (.int .u64 0), 1, 8) := by kernel_rfl

theorem cell_three_new (w : World) (o : Obj) (a b c : Value) (t : TypeId) : ∀ j u, ([a, b, c] : List Value)[j]? = some u → ((w.alloc o).alloc (.cells #[a, b, c] t)).cell? ((⟨w.heap.size + 1, 0, none⟩ : Addr).add j) = some u := by
  intro j u hj
  have e : w.heap.size + 1 = (w.alloc o).heap.size := by simp
  rw [e, add_off, Nat.zero_add, World.cell?_alloc_new]
  match j, hj with
  | 0, hj => exact hj
  | 1, hj => exact hj
  | 2, hj => exact hj
theorem seg_arr (D : List Dw) : Stb.seg (Gd D.toArray) 0 D.length = D := by
  unfold Stb.seg Gd
  refine List.ext_getElem (by simp) fun i h1 h2 => ?_
  simp only [List.getElem_map, List.getElem_range, Nat.zero_add]
  rw [getElem!_pos D.toArray i (by simpa using h2)]
  rfl
/-- What is due, in order. -/
def dueR (F : Nat → En) (G : Nat → Nat → To3) (nw : Nat) (h : Nat → UInt64) (now : Int) (k : Nat) : List Dw := Stb.isort (ltOf cmpDw) (dueT F G nw h now k)
theorem cell_one_past (w : World) (o : Obj) (a : Value) (t : TypeId) : ∀ j u, ([a] : List Value)[j]? = some u → ((w.alloc o).alloc (.cells #[a] t)).cell? ((⟨w.heap.size + 1, 0, none⟩ : Addr).add j) = some u := by
  intro j u hj
  have e : w.heap.size + 1 = (w.alloc o).heap.size := by simp
  rw [e]
  exact cell_one_new (w.alloc o) a t j u hj
theorem own_below {W W1 : World} {base : Nat} {e : TypeId} {size : Nat} {v : Value} {n : Nat} {xs : List Value} (h : W.ownsRow base e size v n xs) (hb : Below W.heap.size W W1) : W1.ownsRow base e size v n xs := by
  obtain ⟨h1, h2⟩ := h
  refine ⟨h1, ?_⟩
  rcases h2 with h2 | ⟨g, cap, cur, a, b, c, d⟩
  · exact .inl h2
  · exact .inr ⟨g, cap, cur, a, b, (hb.block g (Array.getElem?_eq_some_iff.1 c).1).trans c, d⟩

set_option maxRecDepth 100000 in
set_option maxHeartbeats 4000000 in
theorem due_any (A : Option Addr) (n c : Nat) (F : Nat → En) (G : Nat → Nat → To3) (A2 : Option Addr) (nw c2 : Nat) (h : Nat → UInt64) (now : Int) (w : World) (hE : Ens w A n F) (hT : ∀ k, k < n → Tos w (F k).A (F k).n (G k)) (hN : ∀ k, k < n → (F k).n ≤ 4611686018427387904) (hW : Wds w A2 nw h) (hn : n ≤ 1000000) (hnw : nw ≤ 4611686018427387904) :
    Calls Tryd.prog 24 #[.slice A n c, .slice A2 nw c2, .int .u64 now] w fun e w' => (∃ v, e = .returned v ∧ w'.ownsRow w.heap.size 36 1 v (dueT F G nw h now n).length ((dueR F G nw h now n).map fun x => .int .u64 x.id)) ∧ Below w.heap.size w w' := by
  obtain ⟨i0, hi0, hz0, hz1, hz2⟩ := info_parts info75
  have HE := Lib.hid hE
  have HT := Lib.hid hT
  have HN := Lib.hid hN
  have HW := Lib.hid hW
  have HD := Lib.hid (fun k => dueT_succ F G nw h now k)
  have HL := Lib.hid (fun k => dueT_len F G nw h now k)
  clear hE hT hN hW
  go_enter Tryd.func24, Tryd.ntmps24
  go_wp2
  go_loopw [16, 7] (fun u v wr => ∃ k : Nat, u = .int .i64 k ∧ k ≤ n ∧ Hid (wr.ownsRow w.heap.size 75 3 v (dueT F G nw h now k).length ((dueT F G nw h now k).flatMap dwL)) ∧ Hid (Below w.heap.size w wr)) (fun u _ _ => n - (intOf u).toNat)
  case atStart => exact ⟨0, rfl, by omega, World.ownsRow_nil _ _ _ _, Below.refl _ _⟩
  case round =>
    obtain ⟨k, rfl, hk, HO, HB⟩ := hrel
    by_cases hlt : k < n
    · have hltz : (k : Int) < (n : Int) := by omega
      have HE2 := Lib.hid (ens_below HE.out HB.out)
      have HW2 := Lib.hid (wds_below HW.out HB.out)
      obtain ⟨b1, o1, rfl, t0, t1, t2, t3, t4, t5, t6, t7, t8, t9⟩ := HE2.out k hlt
      have hsz := HB.out.size
      have E1 := Lib.hid (ex_new (Below.refl wr.heap.size wr) (F k))
      have CW := Lib.hid (waits_any (F k) (G k) (wr.alloc (.cells (enA (F k)) 41)) (tos_below (tos_below (HT.out k hlt) HB.out) E1.out.bel) (HN.out k hlt))
      have HS := Lib.hid (HD.out k)
      have HO2 : Hid (dueO F G nw h now k = if now < (F k).next then none else if wtB (F k).n (G k) = true then some ⟨if k < nw then h k else 0, (F k).next, (F k).id⟩ else none) := rfl
      generalize dueO F G nw h now k = od at *
      have HLk := HL.out k
      generalize wtB (F k).n (G k) = wb at *
      generalize F k = x at *
      unfold enA at *
      by_cases hnx : now < x.next
      · have hod : od = none := by rw [HO2.out, if_pos hnx]
        have HS1 : Hid (dueT F G nw h now (k + 1) = dueT F G nw h now k) := by show _ = _; rw [HS.out, hod]; simp
        clear HS HO2 hod CW
        go_wp2_with fail
        go_roundw
        case rel => exact ⟨k + 1, by go_num, by omega, by rw [HS1.out]; exact HO.out.alloc _, HB.out.alloc hsz _⟩
        case measure => simp [intOf]; omega
      · cases wb with
        | false =>
          have hod : od = none := by rw [HO2.out, if_neg hnx, if_neg (by decide)]
          have HS1 : Hid (dueT F G nw h now (k + 1) = dueT F G nw h now k) := by show _ = _; rw [HS.out, hod]; simp
          clear HS HO2 hod
          go_wp2_with fail
          refine CW.out.mono ?_
          rintro e w3 ⟨rfl, h3⟩
          have O3 := Lib.hid (own_below (HO.out.alloc (.cells #[.int .u64 x.id, .string ⟨x.dom.toArray⟩, .int .u64 x.ep, .int .u64 x.ct, .string ⟨x.fl.toArray⟩, .string ⟨x.fd.toArray⟩, .slice x.A x.n x.c, .int .u64 x.born, .int .u64 x.next, .int .i64 x.tries] 41)) h3)
          have B3 : Hid (Below w.heap.size w w3) := (HB.out.alloc hsz _).trans (h3.mono (by rw [World.size_alloc]; omega))
          clear h3
          go_wp2_with fail
          go_roundw
          case rel => exact ⟨k + 1, by go_num, by omega, by rw [HS1.out]; exact O3.out, B3.out⟩
          case measure => simp [intOf]; omega
        | true =>
          have hod : od = some ⟨if k < nw then h k else 0, x.next, x.id⟩ := by rw [HO2.out, if_neg hnx, if_pos rfl]
          rw [hod] at HS
          clear HO2 hod
          go_wp2_with fail
          refine CW.out.mono ?_
          rintro e w3 ⟨rfl, h3⟩
          have O3 := Lib.hid (own_below (HO.out.alloc (.cells #[.int .u64 x.id, .string ⟨x.dom.toArray⟩, .int .u64 x.ep, .int .u64 x.ct, .string ⟨x.fl.toArray⟩, .string ⟨x.fd.toArray⟩, .slice x.A x.n x.c, .int .u64 x.born, .int .u64 x.next, .int .i64 x.tries] 41)) h3)
          have B3 : Hid (Below w.heap.size w w3) := (HB.out.alloc hsz _).trans (h3.mono (by rw [World.size_alloc]; omega))
          obtain ⟨a0, a1, a2, a3, a4, a5, a6, a7, a8, a9⟩ := ex_cells (ex_next E1.out h3)
          have s3 : w.heap.size ≤ w3.heap.size := B3.out.size
          clear h3
          by_cases hkw : k < nw
          · have hkwz : (k : Int) < (nw : Int) := by omega
            rw [if_pos hkw] at HS
            have W4 := Lib.hid (wds_below HW.out ((B3.out.alloc s3 (.cells #[.int .u64 0, .int .u64 x.next, .int .u64 x.id] 75))))
            obtain ⟨b2, o2, rfl, u0⟩ := W4.out k hkw
            obtain ⟨hkv, hhk⟩ : ∃ q, q = h k := ⟨_, rfl⟩
            rw [← hhk] at HS u0
            clear hhk
            go_wp2_with (at_builtin; go_must (refine wpList_append_own _ rfl (.tmp 44) (.tmp 46) 72 rfl w.heap.size 75 i0 (.agg #[.int .u64 0, .int .u64 0, .int .u64 0]) 3 24 Tryd.underlying72 hi0 hz0 hz1 hz2 rfl (by decide) _ _ _ rfl ((O3.out.alloc _).alloc _) ⟨w3.heap.size + 1, 0, none⟩ 1 1 (dwL ⟨hkv, x.next, x.id⟩) rfl rfl ?pa ?pb ?pc ?pd ?pe ?_))
            case pa => exact cell_three_new w3 _ _ _ _ 75
            case pb => exact dw_one _
            case pc => unfold maxLen; omega
            case pd => omega
            case pe => simp only [World.size_alloc]; omega
            intro v' w5 hown hgrow _
            have hb5 : Below w.heap.size w w5 := ((B3.out.alloc s3 _).alloc (by simp only [World.size_alloc]; omega) _).grown hgrow (by simp only [World.size_alloc]; omega) (fun q hq => (HO.out.lt q hq).1)
            have HOW : Hid (w5.ownsRow w.heap.size 75 3 v' (dueT F G nw h now (k + 1)).length ((dueT F G nw h now (k + 1)).flatMap dwL)) := by
              rw [HS.out, List.length_append, List.flatMap_append]
              exact hown
            have HB5 := Lib.hid hb5
            clear hown hgrow hb5
            go_wp2
            go_roundw
            case rel => exact ⟨k + 1, by go_num, by omega, HOW, HB5.out⟩
            case measure => simp [intOf]; omega
          · have hkwz : ¬ (k : Int) < (nw : Int) := by omega
            rw [if_neg hkw] at HS
            go_wp2_with (at_builtin; go_must (refine wpList_append_own _ rfl (.tmp 44) (.tmp 46) 72 rfl w.heap.size 75 i0 (.agg #[.int .u64 0, .int .u64 0, .int .u64 0]) 3 24 Tryd.underlying72 hi0 hz0 hz1 hz2 rfl (by decide) _ _ _ rfl ((O3.out.alloc _).alloc _) ⟨w3.heap.size + 1, 0, none⟩ 1 1 (dwL ⟨0, x.next, x.id⟩) rfl rfl ?qa ?qb ?qc ?qd ?qe ?_))
            case qa => exact cell_three_new w3 _ _ _ _ 75
            case qb => exact dw_one _
            case qc => unfold maxLen; omega
            case qd => omega
            case qe => simp only [World.size_alloc]; omega
            intro v' w5 hown hgrow _
            have hb5 : Below w.heap.size w w5 := ((B3.out.alloc s3 _).alloc (by simp only [World.size_alloc]; omega) _).grown hgrow (by simp only [World.size_alloc]; omega) (fun q hq => (HO.out.lt q hq).1)
            have HOW : Hid (w5.ownsRow w.heap.size 75 3 v' (dueT F G nw h now (k + 1)).length ((dueT F G nw h now (k + 1)).flatMap dwL)) := by
              rw [HS.out, List.length_append, List.flatMap_append]
              exact hown
            have HB5 := Lib.hid hb5
            clear hown hgrow hb5
            go_wp2
            go_roundw
            case rel => exact ⟨k + 1, by go_num, by omega, HOW, HB5.out⟩
            case measure => simp [intOf]; omega
    · have hltz : ¬ (k : Int) < (n : Int) := by omega
      have hkn : k = n := by omega
      subst hkn
      clear HD HE HT HN HW
      have HLk := HL.out k
      obtain ⟨D, hD⟩ : ∃ D, D = dueT F G nw h now k := ⟨_, rfl⟩
      have HR : Hid (dueR F G nw h now k = Stb.isort (ltOf cmpDw) D) := by show _ = _; unfold dueR; rw [hD]
      rw [← hD] at HO HLk
      have HDD := Lib.hid hD
      obtain ⟨j0, hj0, yz0, yz1, yz2⟩ := info_parts info36
      clear HL hD
      rcases HO.out.2 with ⟨e1, e0⟩ | ⟨g, cap, cur, e1, eb, ec, ed, ef, eg, eh⟩
      · subst e1
        have HNIL := Lib.hid (fun W => sortNil_any (.func (.func 38) #[] #[]) W)
        have hDn : D = [] := List.length_eq_zero_iff.1 e0
        subst hDn
        have HR2 : Hid (dueR F G nw h now k = []) := by show _ = _; rw [HR.out]; rfl
        clear e0
        go_wp2_with fail
        refine (HNIL.out _).mono ?_
        rintro e w4 ⟨rfl, rfl⟩
        go_wp2
        go_loop [53, 11] (fun u v => u = .int .i64 0 ∧ v = .slice none 0 0) (fun _ _ => 0)
        case atStart => exact ⟨rfl, rfl⟩
        case round =>
          obtain ⟨rfl, rfl⟩ := hrel
          go_wp2_with fail
          go_ret
          refine ⟨⟨_, rfl, ?_⟩, HB.out⟩
          rw [HR2.out, ← HDD.out]
          exact World.ownsRow_nil _ _ _ _
      · subst e1
        have HSO := Lib.hid (sortDue_any HO.out rfl (by omega) eb)
        have hgl : g < wr.heap.size := (HO.out.lt g rfl).2
        clear ec eg eh ed ef
        obtain ⟨L, hL⟩ : ∃ L, L = D.length := ⟨_, rfl⟩
        rw [← hL] at HSO HLk
        rw [← hL]
        have HLL := Lib.hid hL
        clear hL
        go_wp2_with fail
        refine HSO.out.mono ?_
        rintro e w4 ⟨rfl, ⟨d, hd, hq, hh⟩, hb4⟩
        have HH := Lib.hid hh
        have HB4 := Lib.hid (HB.out.trans hb4)
        have hs4 : wr.heap.size ≤ w4.heap.size := hb4.size
        have HQ := Lib.hid hq
        have HDS := Lib.hid hd
        clear hh hb4 hq hd
        go_wp2
        go_loopw [53, 11] (fun u v wr => ∃ i : Nat, u = .int .i64 i ∧ i ≤ L ∧ Hid (wr.ownsRow w4.heap.size 36 1 v i ((List.range i).map fun j => .int .u64 d[j]!.id)) ∧ Hid (Below w4.heap.size w4 wr)) (fun u _ _ => L - (intOf u).toNat)
        case atStart => exact ⟨0, rfl, by omega, World.ownsRow_nil _ _ _ _, Below.refl _ _⟩
        case round =>
          obtain ⟨i, rfl, hi, HO4, HB5⟩ := hrel
          have hs5 : w4.heap.size ≤ wr.heap.size := HB5.out.size
          by_cases hlt2 : i < L
          · have hltz2 : (i : Int) < (L : Int) := by omega
            obtain ⟨⟨c0, c1⟩, c2'⟩ := holds_cells HH.out i (by rw [HDS.out]; exact hlt2)
            have d0 : wr.cell? ⟨g, i * 3, none⟩ = some (.int .u64 (d[i]!.wt.toNat : Int)) := by rw [HB5.out.cell (p := ⟨g, i * 3, none⟩) (show g < w4.heap.size by omega)]; exact c0
            have d1 : wr.cell? ⟨g, i * 3 + 1, none⟩ = some (.int .u64 d[i]!.nx) := by rw [HB5.out.cell (p := ⟨g, i * 3 + 1, none⟩) (show g < w4.heap.size by omega)]; exact c1
            have d2 : wr.cell? ⟨g, i * 3 + 2, none⟩ = some (.int .u64 d[i]!.id) := by rw [HB5.out.cell (p := ⟨g, i * 3 + 2, none⟩) (show g < w4.heap.size by omega)]; exact c2'
            have HX : Hid (((List.range (i + 1)).map fun j => Value.int .u64 d[j]!.id) = ((List.range i).map fun j => Value.int .u64 d[j]!.id) ++ [.int .u64 d[i]!.id]) := by show _ = _; rw [List.range_succ, List.map_append]; rfl
            clear c0 c1 c2'
            generalize d[i]! = y at *
            go_wp2_with (at_builtin; go_must (refine wpList_append_own _ rfl (.tmp 57) (.tmp 60) 49 rfl w4.heap.size 36 j0 (.int .u64 0) 1 8 Tryd.underlying49 hj0 yz0 yz1 yz2 rfl (by decide) _ _ _ rfl ((HO4.out.alloc _).alloc _) ⟨wr.heap.size + 1, 0, none⟩ 1 1 [.int .u64 y.id] rfl rfl ?r1 ?r2 ?r3 ?r4 ?r5 ?_))
            case r1 => exact cell_one_past wr _ _ 36
            case r2 => intro u hu; simp only [List.mem_singleton] at hu; subst hu; rfl
            case r3 => unfold maxLen; omega
            case r4 => omega
            case r5 => simp only [World.size_alloc]; omega
            intro v' w6 hown hgrow _
            have hb6 : Below w4.heap.size w4 w6 := ((HB5.out.alloc hs5 _).alloc (by simp only [World.size_alloc]; omega) _).grown hgrow (by simp only [World.size_alloc]; omega) (fun q hq => (HO4.out.lt q hq).1)
            have HOW : Hid (w6.ownsRow w4.heap.size 36 1 v' (i + 1) ((List.range (i + 1)).map fun j => .int .u64 d[j]!.id)) := by
              rw [HX.out]
              exact hown
            have HB6 := Lib.hid hb6
            clear hown hgrow hb6
            go_wp2
            go_roundw
            case rel => exact ⟨i + 1, by go_num, by omega, HOW, HB6⟩
            case measure => simp [intOf]; omega
          · have hLi : i = L := by omega
            subst hLi
            have HFIN : Hid (((List.range i).map fun j => Value.int .u64 d[j]!.id) = (dueR F G nw h now k).map fun x => .int .u64 x.id) := by
              show _ = _
              have q := HQ.out
              rw [HLL.out, seg_arr] at q
              rw [HR.out, ← q]
              unfold Stb.seg Gd
              rw [List.map_map, HLL.out]
              refine List.map_congr_left fun j _ => ?_
              simp
            have hltz2 : ¬ (i : Int) < (i : Int) := by omega
            go_wp2_with fail
            go_ret
            refine ⟨⟨_, rfl, ?_⟩, HB4.out.trans (HB5.out.mono HB4.out.size)⟩
            rw [← HFIN.out, ← HDD.out, ← HLL.out]
            exact World.ownsRow.mono HO4.out HB4.out.size
end Go.Proofs.YtocjjfjcepflnaaDoor
