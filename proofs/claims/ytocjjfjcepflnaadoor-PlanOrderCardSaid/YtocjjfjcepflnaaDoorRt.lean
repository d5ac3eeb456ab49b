/-
  PROVED HERE: what Route of the program computes.
-/
import Derived.Test.YtocjjfjcepflnaaDoorEnds
import Derived.Lib.SmallJoins
set_option linter.unusedVariables false
namespace Go.Proofs.YtocjjfjcepflnaaDoor
open Go.RowKit Go.Maps Go.ChangeMaps
variable {w W W1 : World} {A B : Nat} {x y : Ru} {t : TypeId}
/-- The world behind the store of a whole rule. -/
abbrev stR (W : World) (B : Nat) (x : Ru) : World := ((W.setCell ⟨B, 0, none⟩ (.string ⟨x.dm.toArray⟩)).setCell ⟨B, 1, none⟩ (.int .i64 x.kd)).setCell ⟨B, 2, none⟩ (.int .i64 x.ho)
theorem rb_put (h : Rb t w B y W) (x : Ru) : Rb t w B x (stR W B x) := by
  have hb : Below B W (stR W B x) := (((Below.refl _ _).setCell (p := ⟨B, 0, none⟩) (Nat.le_refl _) _).setCell (p := ⟨B, 1, none⟩) (Nat.le_refl _) _).setCell (p := ⟨B, 2, none⟩) (Nat.le_refl _) _
  have q := Joins.block_setCell (i := 2) (Joins.block_setCell (i := 1) (Joins.block_setCell (i := 0) (h.kp) (.string ⟨x.dm.toArray⟩)) (.int .i64 x.kd)) (.int .i64 x.ho)
  simp only [ruA, List.setIfInBounds_toArray, List.set_cons_zero, List.set_cons_succ] at q
  exact ⟨q, h.bel.trans (hb.mono h.ws), h.ws⟩
theorem rb_zero (h : Rb t w B ruZ (stR W B ruZ)) : (((W.setCell ⟨B, 0, none⟩ (.string ⟨#[]⟩)).setCell ⟨B, 1, none⟩ (.int .i64 0)).setCell ⟨B, 2, none⟩ (.int .i64 0)).cell? ⟨B, 0, none⟩ = some (.string ⟨#[]⟩) ∧ (((W.setCell ⟨B, 0, none⟩ (.string ⟨#[]⟩)).setCell ⟨B, 1, none⟩ (.int .i64 0)).setCell ⟨B, 2, none⟩ (.int .i64 0)).cell? ⟨B, 1, none⟩ = some (.int .i64 0) ∧ (((W.setCell ⟨B, 0, none⟩ (.string ⟨#[]⟩)).setCell ⟨B, 1, none⟩ (.int .i64 0)).setCell ⟨B, 2, none⟩ (.int .i64 0)).cell? ⟨B, 2, none⟩ = some (.int .i64 0) := rb_cells h
theorem len_dom {t : List UInt8} (h : Adr.domB t = true) : (Adr.sml t).length ≤ 255 := by
  unfold Adr.domB at h
  have h1 : decide (t.length ≤ 255) = true := by
    cases hh : decide (t.length ≤ 255) with
    | true => rfl
    | false => rw [hh] at h; cases h
  have h2 := of_decide_eq_true h1
  unfold Adr.sml
  simpa using h2

set_option maxRecDepth 100000 in
set_option maxHeartbeats 4000000 in
theorem route_any (A : Option Addr) (n c : Nat) (f : Nat → Ru) (T : List UInt8) (m : Int) (w : World) (hR : Rus w A n f) (hL : ∀ k, k < n → (f k).dm.length < 4294967281) (hn : n ≤ 4611686018427387904) (hT : T.length < 4294967281) (hm : w.cell? ⟨0, 0, none⟩ = some (.int .i64 m)) :
    Calls Tryd.prog 12 #[.slice A n c, .string ⟨T.toArray⟩] w fun e w' => e = .returned (.tuple #[.agg (ruA (rtR f n T)), .bool (rtB f n T)]) ∧ Below w.heap.size w w' := by
  have HR := Lib.hid hR
  have HL := Lib.hid hL
  have HM := Lib.hid hm
  have HN0 := Lib.hid (rt_no (f := f) (n := n) (t := T))
  have HY0 := Lib.hid (fun k => rt_yes (f := f) (n := n) (k := k) (t := T))
  have hwl : 0 < w.heap.size := World.block_lt_of_cell? _ _ hm
  have CD := Lib.hid (domain_any ⟨T.toArray⟩ m (w.alloc (.cells (ruA ruZ) 26)) (by rw [size_mk]; exact hT) (cell0_alloc hm _))
  have R1 : Hid (Rb 26 w w.heap.size ruZ (w.alloc (.cells (ruA ruZ) 26))) := rb_new (Below.refl w.heap.size w) ruZ
  have HI : Hid (Adr.domB T = true → mayL f n = true → rtO f n T = rtI f n (Adr.sml T)) := fun h g => if_pos ⟨h, g⟩
  have HI1 : Hid (Adr.domB T = false → rtO f n T = -1) := fun h => if_neg (fun g => by rw [h] at g; cases g.1)
  have HI2 : Hid (mayL f n = false → rtO f n T = -1) := fun h => if_neg (fun g => by rw [h] at g; cases g.2)
  have CM := Lib.hid (fun (W : World) (h : Below w.heap.size w W) => may_any A n c f m W (rus_below HR.out h) HL.out hn (by rw [h.cell hwl]; exact HM.out))
  have HMO := Lib.hid (fun h => mayL_ok (f := f) (n := n) h)
  clear hR hL hm
  unfold domV sV at CD
  generalize rtB f n T = rb at *
  generalize rtR f n T = rr at *
  generalize rtO f n T = ro at *
  generalize mayL f n = ml at *
  cases hd : Adr.domB T with
  | false =>
    have e1 : Adr.domE T = 2 := by unfold Adr.domE; rw [hd]; rfl
    have HV := Lib.hid (HN0.out (HI1.out hd))
    rw [e1] at CD
    clear hd e1 HI HI1 HI2
    go_enter Tryd.func12, Tryd.ntmps12
    go_wp2_with fail
    refine CD.out.mono ?_
    rintro e w1 ⟨rfl, h1⟩
    have R2 := Lib.hid (rb_next R1.out h1)
    obtain ⟨z0, z1, z2⟩ := rb_cells R2.out
    have g0 := rb_frozen R2.out 0
    have g1 := rb_frozen R2.out 1
    have g2 := rb_frozen R2.out 2
    have P2 := Lib.hid (rb_put R2.out ruZ)
    clear h1
    go_wp2_with fail
    obtain ⟨p0, p1, p2⟩ := rb_zero P2.out
    rw [HV.out.1, HV.out.2]
    refine bodyPost_ret (v := .tuple #[.agg (ruA ruZ), .bool false]) ?_ rfl ⟨rfl, P2.out.bel⟩
    simp [results, Tryd.results12, go_sem, p0, p1, p2, ruZ]
  | true =>
    have e1 : Adr.domE T = 0 := by unfold Adr.domE; rw [hd]; rfl
    have e2 : Adr.domT T = Adr.sml T := by unfold Adr.domT; rw [hd]; rfl
    have hsl := len_dom hd
    rw [e1, e2] at CD
    have HI3 := Lib.hid (HI.out hd)
    clear hd e1 e2 HI HI1
    generalize Adr.sml T = D at *
    cases ml with
    | false =>
      have HV := Lib.hid (HN0.out (HI2.out rfl))
      clear HI2 HI3
      go_enter Tryd.func12, Tryd.ntmps12
      go_wp2_with fail
      refine CD.out.mono ?_
      rintro e w1 ⟨rfl, h1⟩
      have R2 := Lib.hid (rb_next R1.out h1)
      have CM1 := Lib.hid (CM.out w1 R2.out.bel)
      clear h1
      go_wp2_with fail
      refine CM1.out.mono ?_
      rintro e w2 ⟨rfl, h2⟩
      have R3 := Lib.hid (rb_next R2.out h2)
      obtain ⟨z0, z1, z2⟩ := rb_cells R3.out
      have g0 := rb_frozen R3.out 0
      have g1 := rb_frozen R3.out 1
      have g2 := rb_frozen R3.out 2
      have P2 := Lib.hid (rb_put R3.out ruZ)
      clear h2
      go_wp2_with fail
      obtain ⟨p0, p1, p2⟩ := rb_zero P2.out
      rw [HV.out.1, HV.out.2]
      refine bodyPost_ret (v := .tuple #[.agg (ruA ruZ), .bool false]) ?_ rfl ⟨rfl, P2.out.bel⟩
      simp [results, Tryd.results12, go_sem, p0, p1, p2, ruZ]
    | true =>
      have HRO := Lib.hid (HI3.out rfl)
      have HDS := Lib.hid ((HMO.out rfl).2.2)
      clear HI2 HI3
      go_enter Tryd.func12, Tryd.ntmps12
      go_wp2_with fail
      refine CD.out.mono ?_
      rintro e w1 ⟨rfl, h1⟩
      have R2 := Lib.hid (rb_next R1.out h1)
      have CM1 := Lib.hid (CM.out w1 R2.out.bel)
      clear h1
      go_wp2_with fail
      refine CM1.out.mono ?_
      rintro e w2 ⟨rfl, h2⟩
      have R3 := Lib.hid (rb_next R2.out h2)
      have CT := Lib.hid (table_any A n c f w2 (rus_below HR.out R3.out.bel) (fun k hk => by have := HL.out k hk; omega) hn)
      clear h2
      go_wp2_with fail
      refine CT.out.mono ?_
      rintro e w3 ⟨⟨rfl, ho⟩, h3⟩
      have R4 := Lib.hid (rb_next R3.out h3)
      have HO := Lib.hid ho
      clear h3 ho
      generalize w2.heap.size = b at *
      go_wp2_with fail
      go_loopw [6, 9] (fun u v wr => ∃ (d : List UInt8) (mr : Bool), u = .string ⟨d.toArray⟩ ∧ v = .bool mr ∧ d.length ≤ 255 ∧ Hid (lookE f n (D :: Pln.aft D) = lookE f n (if mr = true then d :: Pln.aft d else [])) ∧ Hid (wr.ownsMap Tryd.prog 9 ruR b n (tab f n)) ∧ Hid (Rb 26 w w.heap.size ruZ wr)) (fun u v _ => match v, u with | .bool true, .string s => s.size + 1 | _, _ => 0)
      case atStart => exact ⟨D, true, rfl, rfl, by omega, rfl, HO.out, R4.out⟩
      case round =>
        obtain ⟨d, mr, rfl, rfl, hdl, HK, HOW, HRB⟩ := hrel
        cases mr with
        | true =>
          rcases fndI_cases f d n with ⟨q1, q2⟩ | ⟨k, q1, q2, q3⟩
          · have hlk := look_no HOW.out q2 (by omega)
            have HK2 : Hid (lookE f n (D :: Pln.aft D) = lookE f n (Pln.aft d)) := by
              show _ = _
              rw [HK.out, if_pos rfl, lookE, q1, if_neg (by decide)]
            have HB1 := Lib.hid (rb_next HRB.out ((Below.refl _ _).alloc (Nat.le_refl _) (.cells (ruA ruZ) 26)))
            have CC := Lib.hid (cut_any d m (wr.alloc (.cells (ruA ruZ) 26)) (by omega) (by rw [HB1.out.bel.cell hwl]; exact HM.out))
            clear q1 q2
            go_wp2_with fail
            refine CC.out.mono ?_
            rintro e w4 ⟨⟨a, rfl⟩, h4⟩
            have HB4 := Lib.hid (rb_next HB1.out h4)
            have HO4 := Lib.hid ((HOW.out.alloc (.cells (ruA ruZ) 26)).kept (row := none) (below_grown h4) (by simp))
            clear h4 hlk
            rcases Pln.cut_aft d with ⟨c1, c2, c3⟩ | ⟨c1, c2, c3⟩
            · have HK3 : Hid (lookE f n (D :: Pln.aft D) = lookE f n (if true = true then Pln.cutA d :: Pln.aft (Pln.cutA d) else [])) := by
                show _ = _
                rw [HK2.out, if_pos rfl, c2]
              rw [c1]
              generalize Pln.cutA d = d1 at *
              clear c1 c2
              go_wp2_with fail
              go_roundw
              case rel => exact ⟨d1, true, rfl, rfl, by omega, HK3, HO4.out, HB4.out⟩
              case measure => simp [size_mk]; omega
            · have HK3 : Hid (lookE f n (D :: Pln.aft D) = lookE f n (if false = true then Pln.cutA d :: Pln.aft (Pln.cutA d) else [])) := by
                show _ = _
                rw [HK2.out, c2]
                rfl
              rw [c1]
              have c4 : (Pln.cutA d).length ≤ 255 := by rw [c3]; exact Nat.zero_le _
              generalize Pln.cutA d = d1 at *
              clear c1 c2 c3
              go_wp2_with fail
              go_roundw
              case rel => exact ⟨d1, false, rfl, rfl, c4, HK3, HO4.out, HB4.out⟩
              case measure => simp
          · have hlk := look_yes HOW.out HDS.out q2 q3 (by omega)
            have HV : Hid (rb = true ∧ rr = f k) := HY0.out k (by
              rw [HRO.out]
              unfold rtI
              rw [HK.out, if_pos rfl, lookE, q1, if_pos (by omega)]
              rw [if_pos (by omega)])
            have HB1 := Lib.hid (rb_next HRB.out ((Below.refl _ _).alloc (Nat.le_refl _) (.cells (ruA (f k)) 26)))
            clear q1 q2 q3
            generalize f k = x at *
            obtain ⟨z0, z1, z2⟩ := rb_cells HB1.out
            have g0 := rb_frozen HB1.out 0
            have g1 := rb_frozen HB1.out 1
            have g2 := rb_frozen HB1.out 2
            have P2 := Lib.hid (rb_put HB1.out x)
            go_wp2_with fail
            obtain ⟨p0, p1, p2⟩ := rb_cells P2.out
            rw [HV.out.1, HV.out.2]
            refine bodyPost_ret (v := .tuple #[.agg (ruA x), .bool true]) ?_ rfl ⟨rfl, P2.out.bel⟩
            simp [results, Tryd.results12, go_sem, p0, p1, p2]
        | false =>
          have HK2 : Hid (lookE f n (D :: Pln.aft D) = -1) := by
            show _ = _
            rw [HK.out]
            rfl
          rcases fndI_cases f [42] n with ⟨q1, q2⟩ | ⟨k, q1, q2, q3⟩
          · have hlk : (Instr.lookup 67 (.map (some b)) (.string ⟨#[42]⟩) true).run Tryd.prog wr = .ok (.tuple #[.agg (ruA ruZ), .bool false]) wr := look_no HOW.out q2 (by decide)
            have HV : Hid (rb = false ∧ rr = ruZ) := HN0.out (by
              rw [HRO.out]
              unfold rtI
              rw [HK2.out, if_neg (by decide)]
              exact q1)
            have HB1 := Lib.hid (rb_next HRB.out ((Below.refl _ _).alloc (Nat.le_refl _) (.cells (ruA ruZ) 26)))
            clear q1 q2
            obtain ⟨z0, z1, z2⟩ := rb_cells HB1.out
            have g0 := rb_frozen HB1.out 0
            have g1 := rb_frozen HB1.out 1
            have g2 := rb_frozen HB1.out 2
            have P2 := Lib.hid (rb_put HB1.out ruZ)
            go_wp2_with fail
            obtain ⟨p0, p1, p2⟩ := rb_cells P2.out
            rw [HV.out.1, HV.out.2]
            refine bodyPost_ret (v := .tuple #[.agg (ruA ruZ), .bool false]) ?_ rfl ⟨rfl, P2.out.bel⟩
            simp [results, Tryd.results12, go_sem, p0, p1, p2]
          · have hlk : (Instr.lookup 67 (.map (some b)) (.string ⟨#[42]⟩) true).run Tryd.prog wr = .ok (.tuple #[.agg (ruA (f k)), .bool true]) wr := look_yes HOW.out HDS.out q2 q3 (by decide)
            have HV : Hid (rb = true ∧ rr = f k) := HY0.out k (by
              rw [HRO.out]
              unfold rtI
              rw [HK2.out, if_neg (by decide)]
              exact q1)
            have HB1 := Lib.hid (rb_next HRB.out ((Below.refl _ _).alloc (Nat.le_refl _) (.cells (ruA (f k)) 26)))
            clear q1 q2 q3
            generalize f k = x at *
            obtain ⟨z0, z1, z2⟩ := rb_cells HB1.out
            have g0 := rb_frozen HB1.out 0
            have g1 := rb_frozen HB1.out 1
            have g2 := rb_frozen HB1.out 2
            have P2 := Lib.hid (rb_put HB1.out x)
            go_wp2_with fail
            obtain ⟨p0, p1, p2⟩ := rb_cells P2.out
            rw [HV.out.1, HV.out.2]
            refine bodyPost_ret (v := .tuple #[.agg (ruA x), .bool true]) ?_ rfl ⟨rfl, P2.out.bel⟩
            simp [results, Tryd.results12, go_sem, p0, p1, p2]
end Go.Proofs.YtocjjfjcepflnaaDoor
