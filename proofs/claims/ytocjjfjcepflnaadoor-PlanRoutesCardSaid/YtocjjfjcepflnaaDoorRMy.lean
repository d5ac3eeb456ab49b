/-
  PROVED HERE: what May of the answer computes.
-/
import Derived.Test.YtocjjfjcepflnaaDoorRt
import Derived.Test.YtocjjfjcepflnaaDoorRDom
import Derived.Deep.QuietTactic
set_option linter.unusedVariables false
namespace Go.Proofs.YtocjjfjcepflnaaDoor
open Go.RowKit
theorem dst_more {f : Nat → Ru} {i : Nat} (h : Dst f i) (g : ∀ j, j < i → (f j).dm ≠ (f i).dm) : Dst f (i + 1) := fun a b hab hb => by
  rcases Nat.lt_succ_iff_lt_or_eq.1 hb with h1 | h1
  · exact h a b hab h1
  · subst h1
    exact g a hab

set_option maxRecDepth 100000 in
set_option maxHeartbeats 8000000 in
theorem rmay_any (A : Option Addr) (n c : Nat) (f : Nat → Ru) (m : Int) (w : World) (hR : Rus w A n f) (hL : ∀ k, k < n → (f k).dm.length < 4294967281) (hn : n ≤ 4611686018427387904) (hm : w.cell? ⟨0, 0, none⟩ = some (.int .i64 m)) :
    Calls Tryd.prog 16 #[.slice A n c] w fun e w' => e = .returned (.bool (mayL f n)) ∧ Below w.heap.size w w' := by
  have HR := Lib.hid hR
  have HL := Lib.hid hL
  have HM := Lib.hid hm
  have HNO := Lib.hid (mayL_no (f := f) (n := n))
  have HYES := Lib.hid (mayL_yes (f := f) (n := n))
  have hwl : 0 < w.heap.size := World.block_lt_of_cell? _ _ hm
  clear hR hL hm
  generalize mayL f n = ml at *
  go_enter Tryd.func16, Tryd.ntmps16
  go_wp2_with fail
  go_loopw [3] (fun u wr => ∃ i : Nat, u = .int .i64 i ∧ i ≤ n ∧ Hid (∀ j, j < i → mayR (f j) = true) ∧ Hid (Dst f i) ∧ Hid (Below w.heap.size w wr)) (fun u _ => n - (intOf u).toNat)
  case atStart => exact ⟨0, rfl, by omega, (fun j hj => absurd hj (Nat.not_lt_zero j)), (fun a b _ hb => absurd hb (Nat.not_lt_zero b)), Below.refl _ _⟩
  case round =>
    obtain ⟨i, rfl, hi, HA, HDS, HB⟩ := hrel
    by_cases hlt : i < n
    · have hltz : (i : Int) < (n : Int) := by omega
      have HR2 := Lib.hid (rus_below HR.out HB.out)
      obtain ⟨b, off, hAe, ⟨t0, t1⟩, t2⟩ := HR2.out i hlt
      have HBAD : Hid (mayR (f i) = false → ml = false) := fun h => HNO.out (fun g => by have := g.2.1 i hlt; rw [h] at this; cases this)
      have HGOOD : Hid (mayR (f i) = true → ∀ j, j < i + 1 → mayR (f j) = true) := fun h j hj => by
        rcases Nat.lt_succ_iff_lt_or_eq.1 hj with h1 | h1
        · exact HA.out j h1
        · subst h1; exact h
      have HDN := Lib.hid (fun g => dst_more (f := f) (i := i) HDS.out g)
      have HDB : Hid (∀ k, k < i → (f k).dm = (f i).dm → ml = false) := fun k hk e => HNO.out (fun g => g.2.2 k i hk hlt e)
      have CD := Lib.hid (rdomain_any ⟨(f i).dm.toArray⟩ m wr (by rw [size_mk]; exact HL.out i hlt) (by rw [HB.out.cell hwl]; exact HM.out))
      have HSQ : Hid (∀ k, k < i → ∃ b off, A = some ⟨b, off, none⟩ ∧ ∀ W, Below wr.heap.size wr W → W.cell? ⟨b, off + k * 3, none⟩ = some (.string ⟨(f k).dm.toArray⟩)) := fun k hk => by
        obtain ⟨b2, o2, e2, ⟨u0, _⟩, _⟩ := HR2.out k (by omega)
        exact ⟨b2, o2, e2, fun W h => by rw [h.cell (World.block_lt_of_cell? _ _ u0)]; exact u0⟩
      have hst : (f i).dm = (f i).dm := rfl
      obtain ⟨F, hF⟩ : ∃ F : Nat → List UInt8, ∀ k, F k = (f k).dm := ⟨_, fun _ => rfl⟩
      have HF := Lib.hid hF
      clear hF hst
      have HN := Lib.hid (mayR_no (x := f i))
      have HO := Lib.hid (mayR_out (x := f i))
      have HY := Lib.hid (mayR_yes (x := f i))
      have HD : Hid (mayD (f i) = ((f i).dm == [42] || (Adr.domB (f i).dm && Adr.domT (f i).dm == (f i).dm))) := rfl
      subst hAe
      generalize mayD (f i) = md at *
      generalize mayR (f i) = mr at *
      have HR3 : Hid (∀ W, Below wr.heap.size wr W → W.cell? ⟨b, off + i * 3, none⟩ = some (.string ⟨(f i).dm.toArray⟩) ∧ W.cell? ⟨b, off + i * 3 + 1, none⟩ = some (.int .i64 (f i).kd) ∧ W.cell? ⟨b, off + i * 3 + 2, none⟩ = some (.int .i64 (f i).ho)) := fun W h =>
        ⟨by rw [h.cell (World.block_lt_of_cell? _ _ t0)]; exact t0, by rw [h.cell (World.block_lt_of_cell? _ _ t1)]; exact t1, by rw [h.cell (World.block_lt_of_cell? _ _ t2)]; exact t2⟩
      unfold domV sV at CD
      generalize f i = x at *
      cases hd : Adr.domB x.dm with
      | true =>
        have e1 : Adr.domE x.dm = 0 := by unfold Adr.domE; rw [hd]; rfl
        rw [hd] at HD
        rw [e1] at CD
        clear hd e1
        generalize Adr.domT x.dm = dt at *
        cases s1 : (x.dm == [42]) with
        | true =>
          rw [s1] at HD
          have HMD : Hid (md = true) := by show _ = _; rw [HD.out]; rfl
          have s3 : (x.dm != [42]) = false := by unfold bne; rw [s1]; rfl
          by_cases c1 : 1 ≤ x.kd
          · by_cases c2 : x.kd ≤ 3
            · by_cases c3 : 0 ≤ x.ho
              · by_cases c4 : x.ho ≤ 7
                · skip
                  have HV := Lib.hid (HGOOD.out (HY.out HMD.out ⟨c1, c2, c3, c4⟩))
                  clear HN HO HY HD HMD HBAD HGOOD
                  go_wp2_with fail
                  refine CD.out.mono ?_
                  rintro e w1 ⟨rfl, h1⟩
                  have H1 := Lib.hid h1
                  obtain ⟨a0, a1, a2⟩ := HR3.out w1 h1
                  have HB1 := Lib.hid (HB.out.trans (h1.mono HB.out.size))
                  clear h1
                  go_wp2_with fail
                  go_loopw [6] (fun u wq => ∃ k : Nat, u = .int .i64 k ∧ k ≤ i ∧ Hid (∀ j, j < k → F j ≠ x.dm) ∧ Hid (Below wr.heap.size wr wq)) (fun u _ => i - (intOf u).toNat)
                  case atStart => exact ⟨0, rfl, by omega, (fun j hj => absurd hj (Nat.not_lt_zero j)), H1.out⟩
                  case round =>
                    rename_i wq _ _ _ _
                    obtain ⟨k, rfl, hk, HK, HQ⟩ := hrel
                    by_cases hki : k < i
                    · have hkz : (k : Int) < (i : Int) := by omega
                      obtain ⟨b2, o2, e2, u0⟩ := HSQ.out k hki
                      cases e2
                      have u1 := u0 _ HQ.out
                      obtain ⟨v0, _, _⟩ := HR3.out _ HQ.out
                      have hFk := HF.out k
                      rw [← hFk] at u1
                      have HDK := HDB.out k hki
                      rw [← hFk] at HDK
                      have HDK2 := Lib.hid HDK
                      clear u0 hFk HDK
                      by_cases hs : F k = x.dm
                      · have s2 : (F k == x.dm) = true := by simp [hs]
                        have HV2 := Lib.hid (HDK2.out hs)
                        clear hs
                        have hq : ((⟨(F k).toArray⟩ : ByteArray).toList == (⟨x.dm.toArray⟩ : ByteArray).toList) = true := (str_beq _ _).trans s2
                        generalize F k = y at *
                        go_wp2_with fail
                        go_quiet (fail)
                        go_wp2
                        go_ret
                        exact ⟨by rw [HV2.out]; rfl, HB.out.trans (below_drewN (HQ.out.mono HB.out.size) _)⟩
                      · have s2 : (F k == x.dm) = false := by simp [hs]
                        have HK2 : Hid (∀ j, j < k + 1 → F j ≠ x.dm) := fun j hj => by
                          rcases Nat.lt_succ_iff_lt_or_eq.1 hj with g1 | g1
                          · exact HK.out j g1
                          · subst g1; exact hs
                        clear hs
                        have hq : ((⟨(F k).toArray⟩ : ByteArray).toList == (⟨x.dm.toArray⟩ : ByteArray).toList) = false := (str_beq _ _).trans s2
                        generalize F k = y at *
                        go_wp2_with fail
                        go_quiet (fail)
                        go_wp2
                        go_roundw
                        case rel => exact ⟨k + 1, by go_num, by omega, HK2, below_drewN HQ.out _⟩
                        case measure => simp [intOf]; omega
                    · have hkz : ¬ (k : Int) < (i : Int) := by omega
                      have hke : k = i := by omega
                      subst hke
                      have HD2 := Lib.hid (HDN.out (fun j hj => by rw [← HF.out]; exact HK.out j hj))
                      go_wp2_with fail
                      go_roundw
                      case rel => exact ⟨k + 1, by go_num, by omega, HV, HD2, HB.out.trans (HQ.out.mono HB.out.size)⟩
                      case measure => simp [intOf]; omega
                · skip
                  have HV : Hid (ml = false) := HBAD.out (HO.out (fun h => by omega))
                  clear HN HO HY HD HMD HBAD HGOOD
                  go_wp2_with fail
                  refine CD.out.mono ?_
                  rintro e w1 ⟨rfl, h1⟩
                  have H1 := Lib.hid h1
                  obtain ⟨a0, a1, a2⟩ := HR3.out w1 h1
                  have HB1 := Lib.hid (HB.out.trans (h1.mono HB.out.size))
                  clear h1
                  go_wp2_with fail
                  go_ret
                  exact ⟨by rw [HV.out]; rfl, HB1.out⟩
              · skip
                have HV : Hid (ml = false) := HBAD.out (HO.out (fun h => by omega))
                clear HN HO HY HD HMD HBAD HGOOD
                go_wp2_with fail
                refine CD.out.mono ?_
                rintro e w1 ⟨rfl, h1⟩
                have H1 := Lib.hid h1
                obtain ⟨a0, a1, a2⟩ := HR3.out w1 h1
                have HB1 := Lib.hid (HB.out.trans (h1.mono HB.out.size))
                clear h1
                go_wp2_with fail
                go_ret
                exact ⟨by rw [HV.out]; rfl, HB1.out⟩
            · skip
              have HV : Hid (ml = false) := HBAD.out (HO.out (fun h => by omega))
              clear HN HO HY HD HMD HBAD HGOOD
              go_wp2_with fail
              refine CD.out.mono ?_
              rintro e w1 ⟨rfl, h1⟩
              have H1 := Lib.hid h1
              obtain ⟨a0, a1, a2⟩ := HR3.out w1 h1
              have HB1 := Lib.hid (HB.out.trans (h1.mono HB.out.size))
              clear h1
              go_wp2_with fail
              go_ret
              exact ⟨by rw [HV.out]; rfl, HB1.out⟩
          · skip
            have HV : Hid (ml = false) := HBAD.out (HO.out (fun h => by omega))
            clear HN HO HY HD HMD HBAD HGOOD
            go_wp2_with fail
            refine CD.out.mono ?_
            rintro e w1 ⟨rfl, h1⟩
            have H1 := Lib.hid h1
            obtain ⟨a0, a1, a2⟩ := HR3.out w1 h1
            have HB1 := Lib.hid (HB.out.trans (h1.mono HB.out.size))
            clear h1
            go_wp2_with fail
            go_ret
            exact ⟨by rw [HV.out]; rfl, HB1.out⟩
        | false =>
          rw [s1] at HD
          have s3 : (x.dm != [42]) = true := by unfold bne; rw [s1]; rfl
          cases s2 : (dt == x.dm) with
          | true =>
            rw [s2] at HD
            have s4 : (dt != x.dm) = false := by unfold bne; rw [s2]; rfl
            have HMD : Hid (md = true) := by show _ = _; rw [HD.out]; rfl
            by_cases c1 : 1 ≤ x.kd
            · by_cases c2 : x.kd ≤ 3
              · by_cases c3 : 0 ≤ x.ho
                · by_cases c4 : x.ho ≤ 7
                  · skip
                    have HV := Lib.hid (HGOOD.out (HY.out HMD.out ⟨c1, c2, c3, c4⟩))
                    clear HN HO HY HD HMD HBAD HGOOD
                    go_wp2_with fail
                    refine CD.out.mono ?_
                    rintro e w1 ⟨rfl, h1⟩
                    have H1 := Lib.hid h1
                    obtain ⟨a0, a1, a2⟩ := HR3.out w1 h1
                    have HB1 := Lib.hid (HB.out.trans (h1.mono HB.out.size))
                    clear h1
                    go_wp2_with fail
                    go_loopw [6] (fun u wq => ∃ k : Nat, u = .int .i64 k ∧ k ≤ i ∧ Hid (∀ j, j < k → F j ≠ x.dm) ∧ Hid (Below wr.heap.size wr wq)) (fun u _ => i - (intOf u).toNat)
                    case atStart => exact ⟨0, rfl, by omega, (fun j hj => absurd hj (Nat.not_lt_zero j)), H1.out⟩
                    case round =>
                      rename_i wq _ _ _ _
                      obtain ⟨k, rfl, hk, HK, HQ⟩ := hrel
                      by_cases hki : k < i
                      · have hkz : (k : Int) < (i : Int) := by omega
                        obtain ⟨b2, o2, e2, u0⟩ := HSQ.out k hki
                        cases e2
                        have u1 := u0 _ HQ.out
                        obtain ⟨v0, _, _⟩ := HR3.out _ HQ.out
                        have hFk := HF.out k
                        rw [← hFk] at u1
                        have HDK := HDB.out k hki
                        rw [← hFk] at HDK
                        have HDK2 := Lib.hid HDK
                        clear u0 hFk HDK
                        by_cases hs : F k = x.dm
                        · have s2 : (F k == x.dm) = true := by simp [hs]
                          have HV2 := Lib.hid (HDK2.out hs)
                          clear hs
                          have hq : ((⟨(F k).toArray⟩ : ByteArray).toList == (⟨x.dm.toArray⟩ : ByteArray).toList) = true := (str_beq _ _).trans s2
                          generalize F k = y at *
                          go_wp2_with fail
                          go_quiet (fail)
                          go_wp2
                          go_ret
                          exact ⟨by rw [HV2.out]; rfl, HB.out.trans (below_drewN (HQ.out.mono HB.out.size) _)⟩
                        · have s2 : (F k == x.dm) = false := by simp [hs]
                          have HK2 : Hid (∀ j, j < k + 1 → F j ≠ x.dm) := fun j hj => by
                            rcases Nat.lt_succ_iff_lt_or_eq.1 hj with g1 | g1
                            · exact HK.out j g1
                            · subst g1; exact hs
                          clear hs
                          have hq : ((⟨(F k).toArray⟩ : ByteArray).toList == (⟨x.dm.toArray⟩ : ByteArray).toList) = false := (str_beq _ _).trans s2
                          generalize F k = y at *
                          go_wp2_with fail
                          go_quiet (fail)
                          go_wp2
                          go_roundw
                          case rel => exact ⟨k + 1, by go_num, by omega, HK2, below_drewN HQ.out _⟩
                          case measure => simp [intOf]; omega
                      · have hkz : ¬ (k : Int) < (i : Int) := by omega
                        have hke : k = i := by omega
                        subst hke
                        have HD2 := Lib.hid (HDN.out (fun j hj => by rw [← HF.out]; exact HK.out j hj))
                        go_wp2_with fail
                        go_roundw
                        case rel => exact ⟨k + 1, by go_num, by omega, HV, HD2, HB.out.trans (HQ.out.mono HB.out.size)⟩
                        case measure => simp [intOf]; omega
                  · skip
                    have HV : Hid (ml = false) := HBAD.out (HO.out (fun h => by omega))
                    clear HN HO HY HD HMD HBAD HGOOD
                    go_wp2_with fail
                    refine CD.out.mono ?_
                    rintro e w1 ⟨rfl, h1⟩
                    have H1 := Lib.hid h1
                    obtain ⟨a0, a1, a2⟩ := HR3.out w1 h1
                    have HB1 := Lib.hid (HB.out.trans (h1.mono HB.out.size))
                    clear h1
                    go_wp2_with fail
                    go_ret
                    exact ⟨by rw [HV.out]; rfl, HB1.out⟩
                · skip
                  have HV : Hid (ml = false) := HBAD.out (HO.out (fun h => by omega))
                  clear HN HO HY HD HMD HBAD HGOOD
                  go_wp2_with fail
                  refine CD.out.mono ?_
                  rintro e w1 ⟨rfl, h1⟩
                  have H1 := Lib.hid h1
                  obtain ⟨a0, a1, a2⟩ := HR3.out w1 h1
                  have HB1 := Lib.hid (HB.out.trans (h1.mono HB.out.size))
                  clear h1
                  go_wp2_with fail
                  go_ret
                  exact ⟨by rw [HV.out]; rfl, HB1.out⟩
              · skip
                have HV : Hid (ml = false) := HBAD.out (HO.out (fun h => by omega))
                clear HN HO HY HD HMD HBAD HGOOD
                go_wp2_with fail
                refine CD.out.mono ?_
                rintro e w1 ⟨rfl, h1⟩
                have H1 := Lib.hid h1
                obtain ⟨a0, a1, a2⟩ := HR3.out w1 h1
                have HB1 := Lib.hid (HB.out.trans (h1.mono HB.out.size))
                clear h1
                go_wp2_with fail
                go_ret
                exact ⟨by rw [HV.out]; rfl, HB1.out⟩
            · skip
              have HV : Hid (ml = false) := HBAD.out (HO.out (fun h => by omega))
              clear HN HO HY HD HMD HBAD HGOOD
              go_wp2_with fail
              refine CD.out.mono ?_
              rintro e w1 ⟨rfl, h1⟩
              have H1 := Lib.hid h1
              obtain ⟨a0, a1, a2⟩ := HR3.out w1 h1
              have HB1 := Lib.hid (HB.out.trans (h1.mono HB.out.size))
              clear h1
              go_wp2_with fail
              go_ret
              exact ⟨by rw [HV.out]; rfl, HB1.out⟩
          | false =>
            rw [s2] at HD
            have s4 : (dt != x.dm) = true := by unfold bne; rw [s2]; rfl
            have HMD : Hid (md = false) := by show _ = _; rw [HD.out]; rfl
            have HV : Hid (ml = false) := HBAD.out (HN.out HMD.out)
            clear HN HO HY HD HMD HBAD HGOOD
            go_wp2_with fail
            refine CD.out.mono ?_
            rintro e w1 ⟨rfl, h1⟩
            have H1 := Lib.hid h1
            obtain ⟨a0, a1, a2⟩ := HR3.out w1 h1
            have HB1 := Lib.hid (HB.out.trans (h1.mono HB.out.size))
            clear h1
            go_wp2_with fail
            go_ret
            exact ⟨by rw [HV.out]; rfl, HB1.out⟩
      | false =>
        have e1 : Adr.domE x.dm = 2 := by unfold Adr.domE; rw [hd]; rfl
        rw [hd] at HD
        rw [e1] at CD
        clear hd e1
        generalize Adr.domT x.dm = dt at *
        cases s1 : (x.dm == [42]) with
        | true =>
          rw [s1] at HD
          have HMD : Hid (md = true) := by show _ = _; rw [HD.out]; rfl
          have s3 : (x.dm != [42]) = false := by unfold bne; rw [s1]; rfl
          by_cases c1 : 1 ≤ x.kd
          · by_cases c2 : x.kd ≤ 3
            · by_cases c3 : 0 ≤ x.ho
              · by_cases c4 : x.ho ≤ 7
                · skip
                  have HV := Lib.hid (HGOOD.out (HY.out HMD.out ⟨c1, c2, c3, c4⟩))
                  clear HN HO HY HD HMD HBAD HGOOD
                  go_wp2_with fail
                  refine CD.out.mono ?_
                  rintro e w1 ⟨rfl, h1⟩
                  have H1 := Lib.hid h1
                  obtain ⟨a0, a1, a2⟩ := HR3.out w1 h1
                  have HB1 := Lib.hid (HB.out.trans (h1.mono HB.out.size))
                  clear h1
                  go_wp2_with fail
                  go_loopw [6] (fun u wq => ∃ k : Nat, u = .int .i64 k ∧ k ≤ i ∧ Hid (∀ j, j < k → F j ≠ x.dm) ∧ Hid (Below wr.heap.size wr wq)) (fun u _ => i - (intOf u).toNat)
                  case atStart => exact ⟨0, rfl, by omega, (fun j hj => absurd hj (Nat.not_lt_zero j)), H1.out⟩
                  case round =>
                    rename_i wq _ _ _ _
                    obtain ⟨k, rfl, hk, HK, HQ⟩ := hrel
                    by_cases hki : k < i
                    · have hkz : (k : Int) < (i : Int) := by omega
                      obtain ⟨b2, o2, e2, u0⟩ := HSQ.out k hki
                      cases e2
                      have u1 := u0 _ HQ.out
                      obtain ⟨v0, _, _⟩ := HR3.out _ HQ.out
                      have hFk := HF.out k
                      rw [← hFk] at u1
                      have HDK := HDB.out k hki
                      rw [← hFk] at HDK
                      have HDK2 := Lib.hid HDK
                      clear u0 hFk HDK
                      by_cases hs : F k = x.dm
                      · have s2 : (F k == x.dm) = true := by simp [hs]
                        have HV2 := Lib.hid (HDK2.out hs)
                        clear hs
                        have hq : ((⟨(F k).toArray⟩ : ByteArray).toList == (⟨x.dm.toArray⟩ : ByteArray).toList) = true := (str_beq _ _).trans s2
                        generalize F k = y at *
                        go_wp2_with fail
                        go_quiet (fail)
                        go_wp2
                        go_ret
                        exact ⟨by rw [HV2.out]; rfl, HB.out.trans (below_drewN (HQ.out.mono HB.out.size) _)⟩
                      · have s2 : (F k == x.dm) = false := by simp [hs]
                        have HK2 : Hid (∀ j, j < k + 1 → F j ≠ x.dm) := fun j hj => by
                          rcases Nat.lt_succ_iff_lt_or_eq.1 hj with g1 | g1
                          · exact HK.out j g1
                          · subst g1; exact hs
                        clear hs
                        have hq : ((⟨(F k).toArray⟩ : ByteArray).toList == (⟨x.dm.toArray⟩ : ByteArray).toList) = false := (str_beq _ _).trans s2
                        generalize F k = y at *
                        go_wp2_with fail
                        go_quiet (fail)
                        go_wp2
                        go_roundw
                        case rel => exact ⟨k + 1, by go_num, by omega, HK2, below_drewN HQ.out _⟩
                        case measure => simp [intOf]; omega
                    · have hkz : ¬ (k : Int) < (i : Int) := by omega
                      have hke : k = i := by omega
                      subst hke
                      have HD2 := Lib.hid (HDN.out (fun j hj => by rw [← HF.out]; exact HK.out j hj))
                      go_wp2_with fail
                      go_roundw
                      case rel => exact ⟨k + 1, by go_num, by omega, HV, HD2, HB.out.trans (HQ.out.mono HB.out.size)⟩
                      case measure => simp [intOf]; omega
                · skip
                  have HV : Hid (ml = false) := HBAD.out (HO.out (fun h => by omega))
                  clear HN HO HY HD HMD HBAD HGOOD
                  go_wp2_with fail
                  refine CD.out.mono ?_
                  rintro e w1 ⟨rfl, h1⟩
                  have H1 := Lib.hid h1
                  obtain ⟨a0, a1, a2⟩ := HR3.out w1 h1
                  have HB1 := Lib.hid (HB.out.trans (h1.mono HB.out.size))
                  clear h1
                  go_wp2_with fail
                  go_ret
                  exact ⟨by rw [HV.out]; rfl, HB1.out⟩
              · skip
                have HV : Hid (ml = false) := HBAD.out (HO.out (fun h => by omega))
                clear HN HO HY HD HMD HBAD HGOOD
                go_wp2_with fail
                refine CD.out.mono ?_
                rintro e w1 ⟨rfl, h1⟩
                have H1 := Lib.hid h1
                obtain ⟨a0, a1, a2⟩ := HR3.out w1 h1
                have HB1 := Lib.hid (HB.out.trans (h1.mono HB.out.size))
                clear h1
                go_wp2_with fail
                go_ret
                exact ⟨by rw [HV.out]; rfl, HB1.out⟩
            · skip
              have HV : Hid (ml = false) := HBAD.out (HO.out (fun h => by omega))
              clear HN HO HY HD HMD HBAD HGOOD
              go_wp2_with fail
              refine CD.out.mono ?_
              rintro e w1 ⟨rfl, h1⟩
              have H1 := Lib.hid h1
              obtain ⟨a0, a1, a2⟩ := HR3.out w1 h1
              have HB1 := Lib.hid (HB.out.trans (h1.mono HB.out.size))
              clear h1
              go_wp2_with fail
              go_ret
              exact ⟨by rw [HV.out]; rfl, HB1.out⟩
          · skip
            have HV : Hid (ml = false) := HBAD.out (HO.out (fun h => by omega))
            clear HN HO HY HD HMD HBAD HGOOD
            go_wp2_with fail
            refine CD.out.mono ?_
            rintro e w1 ⟨rfl, h1⟩
            have H1 := Lib.hid h1
            obtain ⟨a0, a1, a2⟩ := HR3.out w1 h1
            have HB1 := Lib.hid (HB.out.trans (h1.mono HB.out.size))
            clear h1
            go_wp2_with fail
            go_ret
            exact ⟨by rw [HV.out]; rfl, HB1.out⟩
        | false =>
          rw [s1] at HD
          have s3 : (x.dm != [42]) = true := by unfold bne; rw [s1]; rfl
          have HMD : Hid (md = false) := by show _ = _; rw [HD.out]; rfl
          have HV : Hid (ml = false) := HBAD.out (HN.out HMD.out)
          clear HN HO HY HD HMD HBAD HGOOD
          go_wp2_with fail
          refine CD.out.mono ?_
          rintro e w1 ⟨rfl, h1⟩
          have H1 := Lib.hid h1
          obtain ⟨a0, a1, a2⟩ := HR3.out w1 h1
          have HB1 := Lib.hid (HB.out.trans (h1.mono HB.out.size))
          clear h1
          go_wp2_with fail
          go_ret
          exact ⟨by rw [HV.out]; rfl, HB1.out⟩
    · have hltz : ¬ (i : Int) < (n : Int) := by omega
      obtain rfl : i = n := by omega
      by_cases h40 : i ≤ 40
      · have h40z : (i : Int) ≤ 40 := by omega
        have HV : Hid (ml = true) := HYES.out ⟨h40, HA.out, HDS.out⟩
        go_wp2_with fail
        go_ret
        exact ⟨by rw [HV.out]; first | rfl | (simp; done) | (simp; omega), HB.out⟩
      · have h40z : ¬ (i : Int) ≤ 40 := by omega
        have HV : Hid (ml = false) := HNO.out (fun g => h40 g.1)
        go_wp2_with fail
        go_ret
        exact ⟨by rw [HV.out]; first | rfl | (simp; done) | (simp; omega), HB.out⟩
end Go.Proofs.YtocjjfjcepflnaaDoor
