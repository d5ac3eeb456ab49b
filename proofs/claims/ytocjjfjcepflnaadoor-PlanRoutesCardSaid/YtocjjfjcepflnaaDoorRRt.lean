/-
  PROVED HERE: what Route of the answer computes.
-/
import Derived.Test.YtocjjfjcepflnaaDoorRMy
set_option linter.unusedVariables false
namespace Pln
/-- What is still to be looked at, from a place on. -/
def rest (t : List UInt8) (k : Nat) : List (List UInt8) := if k = 0 then t :: aft t else aft (t.drop (k - 1))
theorem rest_zero (t : List UInt8) : rest t 0 = t.drop 0 :: rest t 1 := rfl
theorem rest_dot (t : List UInt8) (k : Nat) (h0 : 0 < k) (h : k - 1 < t.length) (hd : t[k - 1] = 46) : rest t k = t.drop k :: rest t (k + 1) := by
  have e : k - 1 + 1 = k := by omega
  unfold rest
  rw [if_neg (by omega), if_neg (by omega), aft_drop t (k - 1) h, if_pos hd, e]
  rfl
theorem rest_no (t : List UInt8) (k : Nat) (h0 : 0 < k) (h : k - 1 < t.length) (hd : t[k - 1] ≠ 46) : rest t k = rest t (k + 1) := by
  have e : k - 1 + 1 = k := by omega
  unfold rest
  rw [if_neg (by omega), if_neg (by omega), aft_drop t (k - 1) h, if_neg hd, e]
  rfl
theorem rest_end (t : List UInt8) : rest t t.length = [] ∨ rest t t.length = [[]] := by
  by_cases h : t.length = 0
  · have : t = [] := List.length_eq_zero_iff.1 h
    subst this
    exact .inr rfl
  · unfold rest
    rw [if_neg h, aft_drop t (t.length - 1) (by omega)]
    have e : t.length - 1 + 1 = t.length := by omega
    rw [e, List.drop_length]
    split
    · exact .inr rfl
    · exact .inl rfl
end Pln
namespace Go.Proofs.YtocjjfjcepflnaaDoor
open Go.RowKit
theorem fnd_nil {f : Nat → Ru} {n : Nat} (h : MayOk f n) : fndI f [] n = -1 := by
  refine fnd_no (fun j hj e => ?_)
  have h1 := h.2.1 j hj
  unfold mayR mayD at h1
  rw [e] at h1
  have h2 : Adr.domB [] = false := by decide
  rw [h2] at h1
  cases h1
theorem look_end {f : Nat → Ru} {n : Nat} {D : List UInt8} (h : MayOk f n) : lookE f n (Pln.rest D D.length) = -1 := by
  rcases Pln.rest_end D with e | e
  · rw [e]; rfl
  · rw [e, lookE, fnd_nil h, if_neg (by decide)]; rfl
theorem look_hit {f : Nat → Ru} {n k : Nat} {s : List UInt8} {l : List (List UInt8)} (h : fndI f s n = k) : lookE f n (s :: l) = k := by rw [lookE, h, if_pos (by omega)]
theorem look_miss {f : Nat → Ru} {n : Nat} {s : List UInt8} {l : List (List UInt8)} (h : fndI f s n = -1) : lookE f n (s :: l) = lookE f n l := by rw [lookE, h, if_neg (by decide)]
theorem ext_end (S : ByteArray) (k : Nat) : S.extract k S.size = ⟨(S.data.toList.drop k).toArray⟩ := by
  have := Lib.extract_to_end S k
  rw [← Lib.mk_data (ByteArray.extract _ _ _), this]

set_option maxRecDepth 100000 in
set_option maxHeartbeats 4000000 in
theorem rroute_any (A : Option Addr) (n c : Nat) (f : Nat → Ru) (T : List UInt8) (m : Int) (w : World) (hR : Rus w A n f) (hL : ∀ k, k < n → (f k).dm.length < 4294967281) (hn : n ≤ 4611686018427387904) (hT : T.length < 4294967281) (hm : w.cell? ⟨0, 0, none⟩ = some (.int .i64 m)) :
    Calls Tryd.prog 13 #[.slice A n c, .string ⟨T.toArray⟩] w fun e w' => e = .returned (.tuple #[.agg (ruA (rtR f n T)), .bool (rtB f n T)]) ∧ Below w.heap.size w w' := by
  have HR := Lib.hid hR
  have HL := Lib.hid hL
  have HM := Lib.hid hm
  have HN0 := Lib.hid (rt_no (f := f) (n := n) (t := T))
  have HY0 := Lib.hid (fun k => rt_yes (f := f) (n := n) (k := k) (t := T))
  have hwl : 0 < w.heap.size := World.block_lt_of_cell? _ _ hm
  have CD := Lib.hid (rdomain_any ⟨T.toArray⟩ m (w.alloc (.cells (ruA ruZ) 29)) (by rw [size_mk]; exact hT) (cell0_alloc hm _))
  have R1 : Hid (Rb 29 w w.heap.size ruZ (w.alloc (.cells (ruA ruZ) 29))) := rb_new (Below.refl w.heap.size w) ruZ
  have HI : Hid (Adr.domB T = true → mayL f n = true → rtO f n T = rtI f n (Adr.sml T)) := fun h g => if_pos ⟨h, g⟩
  have HI1 : Hid (Adr.domB T = false → rtO f n T = -1) := fun h => if_neg (fun g => by rw [h] at g; cases g.1)
  have HI2 : Hid (mayL f n = false → rtO f n T = -1) := fun h => if_neg (fun g => by rw [h] at g; cases g.2)
  have CM := Lib.hid (fun (W : World) (h : Below w.heap.size w W) => rmay_any A n c f m W (rus_below HR.out h) HL.out hn (by rw [h.cell hwl]; exact HM.out))
  have HMO := Lib.hid (fun h => mayL_ok (f := f) (n := n) h)
  clear hR hL hm
  unfold domV sV at CD
  generalize rtB f n T = rb at *
  generalize rtR f n T = rr at *
  generalize rtO f n T = ro at *
  generalize mayL f n = ml at *
  cases hd : Adr.domB T with
  | false =>
    have e1 : Adr.domE T = 2 := by unfold Adr.domE; rw [hd]; rfl
    have HV := Lib.hid (HN0.out (HI1.out hd))
    rw [e1] at CD
    clear hd e1 HI HI1 HI2
    go_enter Tryd.func13, Tryd.ntmps13
    go_wp2_with fail
    refine CD.out.mono ?_
    rintro e w1 ⟨rfl, h1⟩
    have R2 := Lib.hid (rb_next R1.out h1)
    obtain ⟨z0, z1, z2⟩ := rb_cells R2.out
    have g0 := rb_frozen R2.out 0
    have g1 := rb_frozen R2.out 1
    have g2 := rb_frozen R2.out 2
    have P2 := Lib.hid (rb_put R2.out ruZ)
    clear h1
    go_wp2_with fail
    obtain ⟨p0, p1, p2⟩ := rb_zero P2.out
    rw [HV.out.1, HV.out.2]
    refine bodyPost_ret (v := .tuple #[.agg (ruA ruZ), .bool false]) ?_ rfl ⟨rfl, P2.out.bel⟩
    simp [results, Tryd.results13, go_sem, p0, p1, p2, ruZ]
  | true =>
    have e1 : Adr.domE T = 0 := by unfold Adr.domE; rw [hd]; rfl
    have e2 : Adr.domT T = Adr.sml T := by unfold Adr.domT; rw [hd]; rfl
    have hsl := len_dom hd
    rw [e1, e2] at CD
    have HI3 := Lib.hid (HI.out hd)
    clear hd e1 e2 HI HI1
    generalize Adr.sml T = D at *
    cases ml with
    | false =>
      have HV := Lib.hid (HN0.out (HI2.out rfl))
      clear HI2 HI3
      go_enter Tryd.func13, Tryd.ntmps13
      go_wp2_with fail
      refine CD.out.mono ?_
      rintro e w1 ⟨rfl, h1⟩
      have R2 := Lib.hid (rb_next R1.out h1)
      have CM1 := Lib.hid (CM.out w1 R2.out.bel)
      clear h1
      go_wp2_with fail
      refine CM1.out.mono ?_
      rintro e w2 ⟨rfl, h2⟩
      have R3 := Lib.hid (rb_next R2.out h2)
      obtain ⟨z0, z1, z2⟩ := rb_cells R3.out
      have g0 := rb_frozen R3.out 0
      have g1 := rb_frozen R3.out 1
      have g2 := rb_frozen R3.out 2
      have P2 := Lib.hid (rb_put R3.out ruZ)
      clear h2
      go_wp2_with fail
      obtain ⟨p0, p1, p2⟩ := rb_zero P2.out
      rw [HV.out.1, HV.out.2]
      refine bodyPost_ret (v := .tuple #[.agg (ruA ruZ), .bool false]) ?_ rfl ⟨rfl, P2.out.bel⟩
      simp [results, Tryd.results13, go_sem, p0, p1, p2, ruZ]
    | true =>
      have HRO := Lib.hid (HI3.out rfl)
      have HMK := Lib.hid (HMO.out rfl)
      obtain ⟨S, hS⟩ : ∃ S : ByteArray, S = ⟨D.toArray⟩ := ⟨_, rfl⟩
      obtain rfl : D = S.data.toList := by rw [hS]
      rw [← hS] at CD
      have HS := Lib.hid hS
      have HZ := Lib.hid (Lib.size_eq S)
      have hSl : S.size ≤ 255 := by rw [HZ.out]; exact hsl
      clear HI2 HI3 hS hsl
      go_enter Tryd.func13, Tryd.ntmps13
      go_wp2_with fail
      refine CD.out.mono ?_
      rintro e w1 ⟨rfl, h1⟩
      have R2 := Lib.hid (rb_next R1.out h1)
      have CM1 := Lib.hid (CM.out w1 R2.out.bel)
      clear h1
      go_wp2_with fail
      refine CM1.out.mono ?_
      rintro e w2 ⟨rfl, h2⟩
      have R3 := Lib.hid (rb_next R2.out h2)
      have HR3 := Lib.hid (rus_below HR.out R3.out.bel)
      have CF := Lib.hid (fun T => find_any A n c f T w2 HR3.out hn)
      clear h2
      have g0 := rb_frozen R3.out 0
      have g1 := rb_frozen R3.out 1
      have g2 := rb_frozen R3.out 2
      obtain ⟨z0, z1, z2⟩ := rb_cells R3.out
      go_wp2_with fail
      go_loop [8] (fun u => ∃ k : Nat, u = .int .i64 k ∧ k ≤ S.size ∧ Hid (lookE f n (S.data.toList :: Pln.aft S.data.toList) = lookE f n (Pln.rest S.data.toList k))) (fun u => S.size - (intOf u).toNat)
      case atStart => exact ⟨0, rfl, by omega, rfl⟩
      case round =>
        obtain ⟨k, rfl, hk, HK⟩ := hrel
        by_cases hlt : k < S.size
        · have hltz : (k : Int) < (S.size : Int) := by omega
          have CF1 := Lib.hid (show Calls Tryd.prog 34 #[.slice A n c, .string (S.extract k S.size)] w2 fun e w' => e = .returned (.int .i64 (fndI f (S.data.toList.drop k) n)) ∧ w2 = w' by rw [ext_end]; exact CF.out _)
          by_cases hk0 : k = 0
          · subst hk0
            clear CF1
            have CF1 := Lib.hid (show Calls Tryd.prog 34 #[.slice A n c, .string S] w2 fun e w' => e = .returned (.int .i64 (fndI f (S.data.toList.drop 0) n)) ∧ w2 = w' by have := CF.out S.data.toList; rw [Lib.mk_data] at this; exact this)
            rcases fndI_cases f (S.data.toList.drop 0) n with ⟨q1, q2⟩ | ⟨i, q1, q2, q3⟩
            · have HK2 : Hid (lookE f n (S.data.toList :: Pln.aft S.data.toList) = lookE f n (Pln.rest S.data.toList (0 + 1))) := by
                show _ = _
                rw [HK.out, Pln.rest_zero, look_miss q1]
              rw [q1] at CF1
              clear q1 q2
              go_wp2_with fail
              refine CF1.out.mono ?_
              rintro e w3 ⟨rfl, rfl⟩
              go_wp2_with fail
              go_round
              case rel => exact ⟨1, by go_num, by omega, HK2.out⟩
              case measure => simp [intOf]; omega
            · have HV : Hid (rb = true ∧ rr = f i) := HY0.out i (by
                rw [HRO.out]
                unfold rtI
                rw [HK.out, Pln.rest_zero, look_hit q1, if_pos (by omega)])
              rw [q1] at CF1
              obtain ⟨b, off, rfl, ⟨t0, t1⟩, t2⟩ := HR3.out i q2
              have q2z : (i : Int) < (n : Int) := by omega
              clear q1 q3
              generalize f i = x at *
              have P2 := Lib.hid (rb_put R3.out x)
              go_wp2_with fail
              refine CF1.out.mono ?_
              rintro e w3 ⟨rfl, rfl⟩
              go_wp2_with fail
              obtain ⟨p0, p1, p2⟩ := rb_cells P2.out
              rw [HV.out.1, HV.out.2]
              refine bodyPost_ret (v := .tuple #[.agg (ruA x), .bool true]) ?_ rfl ⟨rfl, P2.out.bel⟩
              simp [results, Tryd.results13, go_sem, p0, p1, p2]
          · have hk0z : (0 : Int) < (k : Int) := by omega
            have hp1 : k - 1 < S.size := by omega
            have hp2 : k - 1 < S.data.toList.length := by rw [← HZ.out]; exact hp1
            have hat := at_data S (k - 1) hp1 hp2
            have a1 : (0 : Int) ≤ (k : Int) - 1 := by omega
            have a2 : (k : Int) - 1 < (S.size : Int) := by omega
            have e1 := Adr.u8_bne (S[k - 1]'hp1) 46
            rw [show ((46 : UInt8).toNat : Int) = 46 from rfl] at e1
            by_cases hdot : S.data.toList[k - 1] = 46
            · have hb : (S[k - 1]'hp1 != 46) = false := by rw [hat, hdot]; rfl
              rw [hb] at e1
              rcases fndI_cases f (S.data.toList.drop k) n with ⟨q1, q2⟩ | ⟨i, q1, q2, q3⟩
              · have HK2 : Hid (lookE f n (S.data.toList :: Pln.aft S.data.toList) = lookE f n (Pln.rest S.data.toList (k + 1))) := by
                  show _ = _
                  rw [HK.out, Pln.rest_dot _ _ (by omega) hp2 hdot, look_miss q1]
                rw [q1] at CF1
                clear q1 q2 hat hdot hb hp2
                go_wp2_with fail
                refine CF1.out.mono ?_
                rintro e w3 ⟨rfl, rfl⟩
                go_wp2_with fail
                go_round
                case rel => exact ⟨k + 1, by go_num, by omega, HK2.out⟩
                case measure => simp [intOf]; omega
              · have HV : Hid (rb = true ∧ rr = f i) := HY0.out i (by
                  rw [HRO.out]
                  unfold rtI
                  rw [HK.out, Pln.rest_dot _ _ (by omega) hp2 hdot, look_hit q1, if_pos (by omega)])
                rw [q1] at CF1
                obtain ⟨b, off, rfl, ⟨t0, t1⟩, t2⟩ := HR3.out i q2
                have q2z : (i : Int) < (n : Int) := by omega
                clear q1 q3 hat hdot hb hp2
                generalize f i = x at *
                have P2 := Lib.hid (rb_put R3.out x)
                go_wp2_with fail
                refine CF1.out.mono ?_
                rintro e w3 ⟨rfl, rfl⟩
                go_wp2_with fail
                obtain ⟨p0, p1, p2⟩ := rb_cells P2.out
                rw [HV.out.1, HV.out.2]
                refine bodyPost_ret (v := .tuple #[.agg (ruA x), .bool true]) ?_ rfl ⟨rfl, P2.out.bel⟩
                simp [results, Tryd.results13, go_sem, p0, p1, p2]
            · have hb : (S[k - 1]'hp1 != 46) = true := by rw [hat]; simpa using hdot
              rw [hb] at e1
              have HK2 : Hid (lookE f n (S.data.toList :: Pln.aft S.data.toList) = lookE f n (Pln.rest S.data.toList (k + 1))) := by
                show _ = _
                rw [HK.out, Pln.rest_no _ _ (by omega) hp2 hdot]
              clear hat hdot hb hp2
              go_wp2_with fail
              go_round
              case rel => exact ⟨k + 1, by go_num, by omega, HK2.out⟩
              case measure => simp [intOf]; omega
        · have hltz : ¬ (k : Int) < (S.size : Int) := by omega
          have HK2 : Hid (lookE f n (S.data.toList :: Pln.aft S.data.toList) = -1) := by
            show _ = _
            have e : k = S.data.toList.length := by rw [← HZ.out]; omega
            rw [HK.out, e]
            exact look_end HMK.out
          have CF1 : Hid (Calls Tryd.prog 34 #[.slice A n c, .string ⟨#[42]⟩] w2 fun e w' => e = .returned (.int .i64 (fndI f [42] n)) ∧ w2 = w') := CF.out [42]
          rcases fndI_cases f [42] n with ⟨q1, q2⟩ | ⟨i, q1, q2, q3⟩
          · have HV : Hid (rb = false ∧ rr = ruZ) := HN0.out (by
              rw [HRO.out]
              unfold rtI
              rw [HK2.out, if_neg (by decide)]
              exact q1)
            rw [q1] at CF1
            clear q1 q2
            have P2 := Lib.hid (rb_put R3.out ruZ)
            go_wp2_with fail
            refine CF1.out.mono ?_
            rintro e w3 ⟨rfl, rfl⟩
            go_wp2_with fail
            obtain ⟨p0, p1, p2⟩ := rb_zero P2.out
            rw [HV.out.1, HV.out.2]
            refine bodyPost_ret (v := .tuple #[.agg (ruA ruZ), .bool false]) ?_ rfl ⟨rfl, P2.out.bel⟩
            simp [results, Tryd.results13, go_sem, p0, p1, p2, ruZ]
          · have HV : Hid (rb = true ∧ rr = f i) := HY0.out i (by
              rw [HRO.out]
              unfold rtI
              rw [HK2.out, if_neg (by decide)]
              exact q1)
            rw [q1] at CF1
            obtain ⟨b, off, rfl, ⟨t0, t1⟩, t2⟩ := HR3.out i q2
            have q2z : (i : Int) < (n : Int) := by omega
            clear q1 q3
            generalize f i = x at *
            have P2 := Lib.hid (rb_put R3.out x)
            go_wp2_with fail
            refine CF1.out.mono ?_
            rintro e w3 ⟨rfl, rfl⟩
            go_wp2_with fail
            obtain ⟨p0, p1, p2⟩ := rb_cells P2.out
            rw [HV.out.1, HV.out.2]
            refine bodyPost_ret (v := .tuple #[.agg (ruA x), .bool true]) ?_ rfl ⟨rfl, P2.out.bel⟩
            simp [results, Tryd.results13, go_sem, p0, p1, p2]
end Go.Proofs.YtocjjfjcepflnaaDoor
