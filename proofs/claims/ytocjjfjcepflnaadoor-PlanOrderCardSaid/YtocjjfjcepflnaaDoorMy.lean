/-
  PROVED HERE: what may of the program computes.
-/
import Derived.Test.YtocjjfjcepflnaaDoorTbl
set_option linter.unusedVariables false
namespace Go.Proofs.YtocjjfjcepflnaaDoor
open Go.RowKit
variable {w W W1 : World} {A B : Nat} {x y : Ru}
/-- A rule at a block of the call's own. -/
structure Rb (t : TypeId) (w : World) (A : Nat) (x : Ru) (W : World) : Prop where
  kp : W.heap[A]? = some (.cells (ruA x) t (0, 0))
  bel : Below w.heap.size w W
  ws : w.heap.size ≤ A
theorem rb_new {t : TypeId} (h : Below w.heap.size w W) (x : Ru) : Rb t w W.heap.size x (W.alloc (.cells (ruA x) t)) :=
  ⟨by show (W.heap.push _)[W.heap.size]? = _; rw [Array.getElem?_push_size], h.alloc h.size _, h.size⟩
theorem rb_next {t : TypeId} (h : Rb t w A x W) (g : Below W.heap.size W W1) : Rb t w A x W1 :=
  ⟨(g.block _ (Array.getElem?_eq_some_iff.1 h.kp).1).trans h.kp, h.bel.trans (g.mono h.bel.size), h.ws⟩
theorem rb_cells {t : TypeId} (h : Rb t w A x W) : W.cell? ⟨A, 0, none⟩ = some (.string ⟨x.dm.toArray⟩) ∧ W.cell? ⟨A, 1, none⟩ = some (.int .i64 x.kd) ∧ W.cell? ⟨A, 2, none⟩ = some (.int .i64 x.ho) :=
  ⟨by rw [Lib.cell_of_heap h.kp]; rfl, by rw [Lib.cell_of_heap h.kp]; rfl, by rw [Lib.cell_of_heap h.kp]; rfl⟩
theorem rb_frozen {t : TypeId} (h : Rb t w A x W) (i : Nat) : W.frozen? ⟨A, i, none⟩ = false := Lib.frozen_of_heap h.kp i
/-- May a rule be? -/
def mayD (x : Ru) : Bool := x.dm == [42] || (Adr.domB x.dm && Adr.domT x.dm == x.dm)
def mayR (x : Ru) : Bool := mayD x && decide (1 ≤ x.kd ∧ x.kd ≤ 3 ∧ 0 ≤ x.ho ∧ x.ho ≤ 7)
theorem mayR_no (h : mayD x = false) : mayR x = false := by unfold mayR; rw [h]; rfl
theorem mayR_out (h : ¬ (1 ≤ x.kd ∧ x.kd ≤ 3 ∧ 0 ≤ x.ho ∧ x.ho ≤ 7)) : mayR x = false := by unfold mayR; rw [decide_eq_false h, Bool.and_false]
theorem mayR_yes (g : mayD x = true) (h : 1 ≤ x.kd ∧ x.kd ≤ 3 ∧ 0 ≤ x.ho ∧ x.ho ≤ 7) : mayR x = true := by unfold mayR; rw [decide_eq_true h, g]; rfl
theorem cell0_alloc {m : Int} (hm : w.cell? ⟨0, 0, none⟩ = some (.int .i64 m)) (o : Obj) : (w.alloc o).cell? ⟨0, 0, none⟩ = some (.int .i64 m) := (at_alloc hm o).cell

set_option maxRecDepth 100000 in
set_option maxHeartbeats 4000000 in
theorem may1_any (x : Ru) (m : Int) (w : World) (hs : x.dm.length < 4294967281) (hm : w.cell? ⟨0, 0, none⟩ = some (.int .i64 m)) : Calls Tryd.prog 35 #[.agg (ruA x)] w fun e w' => e = .returned (.bool (mayR x)) ∧ Below w.heap.size w w' := by
  have CD := Lib.hid (domain_any ⟨x.dm.toArray⟩ m (w.alloc (.cells (ruA x) 26)) (by rw [size_mk]; omega) (cell0_alloc hm _))
  have R1 : Hid (Rb 26 w w.heap.size x (w.alloc (.cells (ruA x) 26))) := rb_new (Below.refl w.heap.size w) x
  have hq : ((⟨x.dm.toArray⟩ : ByteArray).toList == (⟨#[42]⟩ : ByteArray).toList) = (x.dm == [42]) := str_beq x.dm [42]
  have hp : ((⟨(Adr.domT x.dm).toArray⟩ : ByteArray).toList == (⟨x.dm.toArray⟩ : ByteArray).toList) = (Adr.domT x.dm == x.dm) := str_beq _ _
  have HN := Lib.hid (mayR_no (x := x))
  have HO := Lib.hid (mayR_out (x := x))
  have HY := Lib.hid (mayR_yes (x := x))
  have HD : Hid (mayD x = (x.dm == [42] || (Adr.domB x.dm && Adr.domT x.dm == x.dm))) := rfl
  clear hm hs
  generalize mayD x = md at *
  generalize mayR x = mr at *
  unfold ruA at *
  cases hd : Adr.domB x.dm with
  | true =>
    have e1 : Adr.domE x.dm = 0 := by unfold Adr.domE; rw [if_pos hd]
    rw [hd] at HD
    unfold domV sV at CD
    rw [e1] at CD
    clear hd e1
    generalize Adr.domT x.dm = dt at *
    cases s1 : (x.dm == [42]) with
    | true =>
      rw [s1] at HD
      have HMD : Hid (md = true) := by show _ = _; rw [HD.out]; rfl
      clear hp hq
      by_cases c1 : 1 ≤ x.kd
      · by_cases c2 : x.kd ≤ 3
        · by_cases c3 : 0 ≤ x.ho
          · by_cases c4 : x.ho ≤ 7
            · skip
              have HV : Hid (mr = true) := HY.out HMD.out ⟨c1, c2, c3, c4⟩
              clear HN HO HY HD HMD
              go_enter Tryd.func35, Tryd.ntmps35
              go_wp2_with fail
              refine CD.out.mono ?_
              rintro e w1 ⟨rfl, h1⟩
              have R2 := Lib.hid (rb_next R1.out h1)
              obtain ⟨a0, a1, a2⟩ := rb_cells R2.out
              clear h1
              go_wp2_with fail
              go_ret
              exact ⟨by rw [HV.out]; first | rfl | (simp; done) | (simp; omega), R2.out.bel⟩
            · skip
              have HV : Hid (mr = false) := HO.out (fun h => by omega)
              clear HN HO HY HD HMD
              go_enter Tryd.func35, Tryd.ntmps35
              go_wp2_with fail
              refine CD.out.mono ?_
              rintro e w1 ⟨rfl, h1⟩
              have R2 := Lib.hid (rb_next R1.out h1)
              obtain ⟨a0, a1, a2⟩ := rb_cells R2.out
              clear h1
              go_wp2_with fail
              go_ret
              exact ⟨by rw [HV.out]; first | rfl | (simp; done) | (simp; omega), R2.out.bel⟩
          · skip
            have HV : Hid (mr = false) := HO.out (fun h => by omega)
            clear HN HO HY HD HMD
            go_enter Tryd.func35, Tryd.ntmps35
            go_wp2_with fail
            refine CD.out.mono ?_
            rintro e w1 ⟨rfl, h1⟩
            have R2 := Lib.hid (rb_next R1.out h1)
            obtain ⟨a0, a1, a2⟩ := rb_cells R2.out
            clear h1
            go_wp2_with fail
            go_ret
            exact ⟨by rw [HV.out]; first | rfl | (simp; done) | (simp; omega), R2.out.bel⟩
        · skip
          have HV : Hid (mr = false) := HO.out (fun h => by omega)
          clear HN HO HY HD HMD
          go_enter Tryd.func35, Tryd.ntmps35
          go_wp2_with fail
          refine CD.out.mono ?_
          rintro e w1 ⟨rfl, h1⟩
          have R2 := Lib.hid (rb_next R1.out h1)
          obtain ⟨a0, a1, a2⟩ := rb_cells R2.out
          clear h1
          go_wp2_with fail
          go_ret
          exact ⟨by rw [HV.out]; first | rfl | (simp; done) | (simp; omega), R2.out.bel⟩
      · skip
        have HV : Hid (mr = false) := HO.out (fun h => by omega)
        clear HN HO HY HD HMD
        go_enter Tryd.func35, Tryd.ntmps35
        go_wp2_with fail
        refine CD.out.mono ?_
        rintro e w1 ⟨rfl, h1⟩
        have R2 := Lib.hid (rb_next R1.out h1)
        obtain ⟨a0, a1, a2⟩ := rb_cells R2.out
        clear h1
        go_wp2_with fail
        go_ret
        exact ⟨by rw [HV.out]; first | rfl | (simp; done) | (simp; omega), R2.out.bel⟩
    | false =>
      rw [s1] at HD
      cases s2 : (dt == x.dm) with
      | true =>
        rw [s2] at HD
        have HMD : Hid (md = true) := by show _ = _; rw [HD.out]; rfl
        clear hp hq
        by_cases c1 : 1 ≤ x.kd
        · by_cases c2 : x.kd ≤ 3
          · by_cases c3 : 0 ≤ x.ho
            · by_cases c4 : x.ho ≤ 7
              · skip
                have HV : Hid (mr = true) := HY.out HMD.out ⟨c1, c2, c3, c4⟩
                clear HN HO HY HD HMD
                go_enter Tryd.func35, Tryd.ntmps35
                go_wp2_with fail
                refine CD.out.mono ?_
                rintro e w1 ⟨rfl, h1⟩
                have R2 := Lib.hid (rb_next R1.out h1)
                obtain ⟨a0, a1, a2⟩ := rb_cells R2.out
                clear h1
                go_wp2_with fail
                go_ret
                exact ⟨by rw [HV.out]; first | rfl | (simp; done) | (simp; omega), R2.out.bel⟩
              · skip
                have HV : Hid (mr = false) := HO.out (fun h => by omega)
                clear HN HO HY HD HMD
                go_enter Tryd.func35, Tryd.ntmps35
                go_wp2_with fail
                refine CD.out.mono ?_
                rintro e w1 ⟨rfl, h1⟩
                have R2 := Lib.hid (rb_next R1.out h1)
                obtain ⟨a0, a1, a2⟩ := rb_cells R2.out
                clear h1
                go_wp2_with fail
                go_ret
                exact ⟨by rw [HV.out]; first | rfl | (simp; done) | (simp; omega), R2.out.bel⟩
            · skip
              have HV : Hid (mr = false) := HO.out (fun h => by omega)
              clear HN HO HY HD HMD
              go_enter Tryd.func35, Tryd.ntmps35
              go_wp2_with fail
              refine CD.out.mono ?_
              rintro e w1 ⟨rfl, h1⟩
              have R2 := Lib.hid (rb_next R1.out h1)
              obtain ⟨a0, a1, a2⟩ := rb_cells R2.out
              clear h1
              go_wp2_with fail
              go_ret
              exact ⟨by rw [HV.out]; first | rfl | (simp; done) | (simp; omega), R2.out.bel⟩
          · skip
            have HV : Hid (mr = false) := HO.out (fun h => by omega)
            clear HN HO HY HD HMD
            go_enter Tryd.func35, Tryd.ntmps35
            go_wp2_with fail
            refine CD.out.mono ?_
            rintro e w1 ⟨rfl, h1⟩
            have R2 := Lib.hid (rb_next R1.out h1)
            obtain ⟨a0, a1, a2⟩ := rb_cells R2.out
            clear h1
            go_wp2_with fail
            go_ret
            exact ⟨by rw [HV.out]; first | rfl | (simp; done) | (simp; omega), R2.out.bel⟩
        · skip
          have HV : Hid (mr = false) := HO.out (fun h => by omega)
          clear HN HO HY HD HMD
          go_enter Tryd.func35, Tryd.ntmps35
          go_wp2_with fail
          refine CD.out.mono ?_
          rintro e w1 ⟨rfl, h1⟩
          have R2 := Lib.hid (rb_next R1.out h1)
          obtain ⟨a0, a1, a2⟩ := rb_cells R2.out
          clear h1
          go_wp2_with fail
          go_ret
          exact ⟨by rw [HV.out]; first | rfl | (simp; done) | (simp; omega), R2.out.bel⟩
      | false =>
        rw [s2] at HD
        have HMD : Hid (md = false) := by show _ = _; rw [HD.out]; rfl
        clear hp hq
        have HV : Hid (mr = false) := HN.out HMD.out
        clear HN HO HY HD HMD
        go_enter Tryd.func35, Tryd.ntmps35
        go_wp2_with fail
        refine CD.out.mono ?_
        rintro e w1 ⟨rfl, h1⟩
        have R2 := Lib.hid (rb_next R1.out h1)
        obtain ⟨a0, a1, a2⟩ := rb_cells R2.out
        clear h1
        go_wp2_with fail
        go_ret
        exact ⟨by rw [HV.out]; first | rfl | (simp; done) | (simp; omega), R2.out.bel⟩
  | false =>
    have e1 : Adr.domE x.dm = 2 := by unfold Adr.domE; rw [hd]; rfl
    rw [hd] at HD
    unfold domV sV at CD
    rw [e1] at CD
    clear hd e1
    generalize Adr.domT x.dm = dt at *
    cases s1 : (x.dm == [42]) with
    | true =>
      rw [s1] at HD
      have HMD : Hid (md = true) := by show _ = _; rw [HD.out]; rfl
      clear hp hq
      by_cases c1 : 1 ≤ x.kd
      · by_cases c2 : x.kd ≤ 3
        · by_cases c3 : 0 ≤ x.ho
          · by_cases c4 : x.ho ≤ 7
            · skip
              have HV : Hid (mr = true) := HY.out HMD.out ⟨c1, c2, c3, c4⟩
              clear HN HO HY HD HMD
              go_enter Tryd.func35, Tryd.ntmps35
              go_wp2_with fail
              refine CD.out.mono ?_
              rintro e w1 ⟨rfl, h1⟩
              have R2 := Lib.hid (rb_next R1.out h1)
              obtain ⟨a0, a1, a2⟩ := rb_cells R2.out
              clear h1
              go_wp2_with fail
              go_ret
              exact ⟨by rw [HV.out]; first | rfl | (simp; done) | (simp; omega), R2.out.bel⟩
            · skip
              have HV : Hid (mr = false) := HO.out (fun h => by omega)
              clear HN HO HY HD HMD
              go_enter Tryd.func35, Tryd.ntmps35
              go_wp2_with fail
              refine CD.out.mono ?_
              rintro e w1 ⟨rfl, h1⟩
              have R2 := Lib.hid (rb_next R1.out h1)
              obtain ⟨a0, a1, a2⟩ := rb_cells R2.out
              clear h1
              go_wp2_with fail
              go_ret
              exact ⟨by rw [HV.out]; first | rfl | (simp; done) | (simp; omega), R2.out.bel⟩
          · skip
            have HV : Hid (mr = false) := HO.out (fun h => by omega)
            clear HN HO HY HD HMD
            go_enter Tryd.func35, Tryd.ntmps35
            go_wp2_with fail
            refine CD.out.mono ?_
            rintro e w1 ⟨rfl, h1⟩
            have R2 := Lib.hid (rb_next R1.out h1)
            obtain ⟨a0, a1, a2⟩ := rb_cells R2.out
            clear h1
            go_wp2_with fail
            go_ret
            exact ⟨by rw [HV.out]; first | rfl | (simp; done) | (simp; omega), R2.out.bel⟩
        · skip
          have HV : Hid (mr = false) := HO.out (fun h => by omega)
          clear HN HO HY HD HMD
          go_enter Tryd.func35, Tryd.ntmps35
          go_wp2_with fail
          refine CD.out.mono ?_
          rintro e w1 ⟨rfl, h1⟩
          have R2 := Lib.hid (rb_next R1.out h1)
          obtain ⟨a0, a1, a2⟩ := rb_cells R2.out
          clear h1
          go_wp2_with fail
          go_ret
          exact ⟨by rw [HV.out]; first | rfl | (simp; done) | (simp; omega), R2.out.bel⟩
      · skip
        have HV : Hid (mr = false) := HO.out (fun h => by omega)
        clear HN HO HY HD HMD
        go_enter Tryd.func35, Tryd.ntmps35
        go_wp2_with fail
        refine CD.out.mono ?_
        rintro e w1 ⟨rfl, h1⟩
        have R2 := Lib.hid (rb_next R1.out h1)
        obtain ⟨a0, a1, a2⟩ := rb_cells R2.out
        clear h1
        go_wp2_with fail
        go_ret
        exact ⟨by rw [HV.out]; first | rfl | (simp; done) | (simp; omega), R2.out.bel⟩
    | false =>
      rw [s1] at HD
      have HMD : Hid (md = false) := by show _ = _; rw [HD.out]; rfl
      clear hp hq
      have HV : Hid (mr = false) := HN.out HMD.out
      clear HN HO HY HD HMD
      go_enter Tryd.func35, Tryd.ntmps35
      go_wp2_with fail
      refine CD.out.mono ?_
      rintro e w1 ⟨rfl, h1⟩
      have R2 := Lib.hid (rb_next R1.out h1)
      obtain ⟨a0, a1, a2⟩ := rb_cells R2.out
      clear h1
      go_wp2_with fail
      go_ret
      exact ⟨by rw [HV.out]; first | rfl | (simp; done) | (simp; omega), R2.out.bel⟩
end Go.Proofs.YtocjjfjcepflnaaDoor
