/-
  PROVED HERE: what May of the program computes.
-/
import Derived.Test.YtocjjfjcepflnaaDoorMy
set_option linter.unusedVariables false
namespace Go.Proofs.YtocjjfjcepflnaaDoor
open Go.RowKit Go.Maps Go.ChangeMaps
/-- May rules be? -/
def MayOk (f : Nat → Ru) (n : Nat) : Prop := n ≤ 40 ∧ (∀ i, i < n → mayR (f i) = true) ∧ Dst f n
open Classical in
noncomputable def mayL (f : Nat → Ru) (n : Nat) : Bool := decide (MayOk f n)
open Classical in
theorem mayL_yes {f : Nat → Ru} {n : Nat} (h : MayOk f n) : mayL f n = true := by unfold mayL; exact decide_eq_true h
open Classical in
theorem mayL_no {f : Nat → Ru} {n : Nat} (h : ¬ MayOk f n) : mayL f n = false := by unfold mayL; exact decide_eq_false h
open Classical in
theorem mayL_ok {f : Nat → Ru} {n : Nat} (h : mayL f n = true) : MayOk f n := by unfold mayL at h; exact of_decide_eq_true h
/-- What has been looked at. -/
def Pl (f : Nat → Ru) (n : Nat) (left : Lit → Bool) : Prop := (∀ t, left (.string t) = true → ∃ i, i < n ∧ (f i).dm = t) ∧ (∀ i, i < n → left (.string (f i).dm) = false → Dst f n → mayR (f i) = true)
theorem pl_start (f : Nat → Ru) (n : Nat) : Pl f n (Maps.has (tab f n)) :=
  ⟨fun t h => (tab_has f t n).1 h, fun i hi h => absurd ((tab_has f (f i).dm n).2 ⟨i, hi, rfl⟩) (by rw [h]; exact Bool.false_ne_true)⟩
theorem pl_which {f : Nat → Ru} {n : Nat} {left : Lit → Bool} {t : List UInt8} {c : Ru} (h : Pl f n left) (hl : left (.string t) = true) (ha : ∀ z, (tab f n).atKey (.string t) z = ruD c) : ∃ i, i < n ∧ (f i).dm = t ∧ c = f i := by
  obtain ⟨i, h1, h2, h3⟩ := tab_at f t n (h.1 t hl)
  exact ⟨i, h1, h2, ruD_inj ((ha (.map [])).symm.trans (h3 (.map [])))⟩
theorem dst_one {f : Nat → Ru} {n i j : Nat} (h : Dst f n) (hi : i < n) (hj : j < n) (e : (f i).dm = (f j).dm) : i = j := by
  rcases Nat.lt_trichotomy i j with g | g | g
  · exact absurd e (h i j g hj)
  · exact g
  · exact absurd e.symm (h j i g hi)
theorem pl_step {f : Nat → Ru} {n i : Nat} {left : Lit → Bool} {t : List UInt8} (h : Pl f n left) (hi : i < n) (ht : (f i).dm = t) (hm : mayR (f i) = true) : Pl f n (fun z => left z && !z.sameKey (.string t)) := by
  refine ⟨fun u hu => h.1 u ?_, fun j hj hu hd => ?_⟩
  · simp only [Bool.and_eq_true] at hu
    exact hu.1
  · cases hl : left (.string (f j).dm) with
    | false => exact h.2 j hj hl hd
    | true =>
      simp only [hl, Bool.true_and, Bool.not_eq_false'] at hu
      have e := WideAt.sameKey_eq hu
      have e2 : (f j).dm = (f i).dm := by rw [ht]; simpa using e
      rw [dst_one hd hj hi e2]
      exact hm
theorem key9_inv (key : Value) (kl : Lit) (h : keyOf Tryd.prog 9 key = some kl) : ∃ x : List UInt8, key = .string ⟨x.toArray⟩ := by
  cases key <;> simp [keyOf, Tryd.underlying9, mapKey] at h
  rename_i s
  exact ⟨s.data.toList, by simp⟩
theorem key9_is {x : List UInt8} {kl : Lit} (h : keyOf Tryd.prog 9 (.string ⟨x.toArray⟩) = some kl) : kl = .string x := by
  simp [keyOf, Tryd.underlying9, mapKey] at h
  exact h.2.symm

theorem below_grown {w w1 : World} (h : Below w.heap.size w w1) : w.grownBy w1 none := ⟨h.os, h.tape, h.output, h.size, fun i hi _ => h.block i hi⟩

set_option maxRecDepth 100000 in
set_option maxHeartbeats 4000000 in
theorem may_any (A : Option Addr) (n c : Nat) (f : Nat → Ru) (m : Int) (w : World) (hR : Rus w A n f) (hL : ∀ k, k < n → (f k).dm.length < 4294967281) (hn : n ≤ 4611686018427387904) (hm : w.cell? ⟨0, 0, none⟩ = some (.int .i64 m)) :
    Calls Tryd.prog 15 #[.slice A n c] w fun e w' => e = .returned (.bool (mayL f n)) ∧ Below w.heap.size w w' := by
  have CT := Lib.hid (table_any A n c f w hR (fun k hk => by have := hL k hk; omega) hn)
  have HL := Lib.hid hL
  have HNO := Lib.hid (mayL_no (f := f) (n := n))
  have HYES := Lib.hid (mayL_yes (f := f) (n := n))
  have HM := Lib.hid hm
  clear hR hL hm
  generalize mayL f n = ml at *
  by_cases h40 : 40 < n
  · have h40z : (40 : Int) < (n : Int) := by omega
    have HV : Hid (ml = false) := HNO.out (fun h => by have := h.1; omega)
    clear HNO HYES
    go_enter Tryd.func15, Tryd.ntmps15
    go_wp2_with fail
    go_ret
    exact ⟨by rw [HV.out]; rfl, Below.refl _ _⟩
  · have h40z : ¬ (40 : Int) < (n : Int) := by omega
    go_enter Tryd.func15, Tryd.ntmps15
    go_wp2_with fail
    refine CT.out.mono ?_
    rintro e w1 ⟨⟨rfl, ho⟩, h1⟩
    have HO := Lib.hid ho
    have H1 := Lib.hid h1
    clear ho h1
    obtain ⟨D, hD⟩ : ∃ D, D = tab f n := ⟨_, rfl⟩
    rw [← hD] at HO
    have HD := Lib.hid hD
    clear hD
    have hwl : 0 < w.heap.size := World.block_lt_of_cell? _ _ HM.out
    have hs1 : w.heap.size ≤ w1.heap.size := H1.out.size
    go_wp2_with (first | (at_range; refine wpList_range_own _ rfl _ 67 rfl 9 26 law9 Tryd.underlying67 ruR w.heap.size n D rfl HO.out ?_; intro w2 hrg0 hg0 hs0) | fail)
    go_frame
    obtain ⟨r, hr⟩ : ∃ r, r = w1.heap.size := ⟨_, rfl⟩
    rw [← hr] at hrg0 ⊢
    have HR := Lib.hid hr
    have hrw : w.heap.size ≤ r := by rw [hr]; exact hs1
    clear hr
    have hB2 : Below w.heap.size w w2 := H1.out.grown hg0 hs1 (fun j hj => by cases hj)
    go_loopw [13] (fun _ wr => ∃ (left : Lit → Bool) (cnt : Nat), Hid (wr.ranges Tryd.prog 9 ruR w.heap.size r n D left cnt) ∧ Hid (Pl f n left) ∧ Hid (Below w.heap.size w wr)) (fun _ wr => wr.rangeLeft w.heap.size r)
    case atStart => exact ⟨_, _, hrg0, by rw [HD.out]; exact pl_start f n, hB2⟩
    case round =>
      clear hrg0 hg0 hs0 hB2
      obtain ⟨left, cnt, HG, HP, HB⟩ := hrel
      go_wp2_with (first | (at_next; refine wpList_next_ranges (α := List UInt8) (β := Ru) _ rfl _ rfl 9 law9 ruR (fun t => .string ⟨t.toArray⟩) (fun x => .agg (ruA x)) key9_inv (fun v y hv => by obtain ⟨x, h1, _⟩ := ruR_inv v y hv; exact ⟨x, h1⟩) w.heap.size r n D left cnt rfl HG.out ?_ ?_) | fail)
      · intro _ hl0
        have HOW := Lib.hid HG.out.owns
        have HSZ : Hid (Maps.size D = n ↔ Dst f n) := by show _ ↔ _; rw [HD.out]; exact tab_size f n
        have HALL : Hid (Dst f n → ∀ i, i < n → mayR (f i) = true) := fun hd i hi => HP.out.2 i hi (hl0 _) hd
        clear hl0
        go_wp2_with (first | (at_len; refine wpList_len_own _ rfl _ 67 rfl 9 26 Tryd.underlying67 ruR w.heap.size n D rfl HOW.out ?_) | fail)
        by_cases hsz : Maps.size D = n
        · have HV : Hid (ml = true) := HYES.out ⟨by omega, HALL.out (HSZ.out.1 hsz), HSZ.out.1 hsz⟩
          rw [hsz]
          go_wp2_with fail
          go_ret
          exact ⟨by rw [HV.out]; simp, HB.out⟩
        · have HV : Hid (ml = false) := HNO.out (fun h => hsz (HSZ.out.2 h.2.2))
          have hz : ¬ ((Maps.size D : Nat) : Int) = (n : Int) := by omega
          generalize Maps.size D = sz at *
          go_wp2_with fail
          go_ret
          exact ⟨by rw [HV.out]; simp; omega, HB.out⟩
      · intro x c kl y ps w3 cnt1 hkx hlx hcy hat hrg1 hlt hg1 hs1 hen
        obtain rfl := key9_is hkx
        have hy : y = ruD c := by have := ruR_mk c; rw [hcy] at this; simp at this; exact this.1
        subst hy
        rw [HD.out] at hat
        obtain ⟨i, hi, hfi, hci⟩ := pl_which HP.out hlx hat
        have hcl : c.dm.length < 4294967281 := by rw [hci]; exact HL.out i hi
        have hsr : w.heap.size ≤ wr.heap.size := HB.out.size
        have hB3 : Below w.heap.size w w3 := HB.out.grown hg1 hsr (fun j hj => by cases hj; exact hrw)
        have hm3 : w3.cell? ⟨0, 0, none⟩ = some (.int .i64 m) := by rw [hB3.cell hwl]; exact HM.out
        have HC := Lib.hid (may1_any c m (w3.alloc (.cells (ruA c) 26)) hcl (cell0_alloc hm3 _))
        have HG1 := Lib.hid hrg1
        have HSTEP : Hid (mayR c = true → Pl f n (fun z => left z && !z.sameKey (.string x))) := fun h => pl_step HP.out hi hfi (by rw [← hci]; exact h)
        have HBAD : Hid (mayR c = false → ml = false) := fun h => HNO.out (fun g => by have := g.2.1 i hi; rw [← hci, h] at this; cases this)
        have HB3 := Lib.hid hB3
        have HLT : Hid (cnt1 < cnt) := hlt
        clear hkx hlx hcy hat hrg1 hg1 hs1 hci hfi hB3 hm3 hlt
        cases hmc : mayR c with
        | true =>
          rw [hmc] at HC
          have HS2 := Lib.hid (HSTEP.out hmc)
          clear hmc HSTEP HBAD
          go_wp2_with fail
          refine HC.out.mono ?_
          rintro e w4 ⟨rfl, h4⟩
          have HG4 := Lib.hid ((HG1.out.alloc (.cells (ruA c) 26)).kept (row := none) (below_grown h4) (by simp) (by simp))
          have HB4 : Hid (Below w.heap.size w w4) := (HB3.out.alloc HB3.out.size _).trans (h4.mono (by rw [World.size_alloc]; have := HB3.out.size; omega))
          clear h4
          go_wp2_with fail
          go_roundw
          case rel => exact ⟨_, cnt1, HG4.out, HS2.out, HB4.out⟩
          case measure => rw [HG4.out.left_eq, HG.out.left_eq]; exact HLT.out
        | false =>
          rw [hmc] at HC
          have HV := Lib.hid (HBAD.out hmc)
          clear hmc HSTEP HBAD
          go_wp2_with fail
          refine HC.out.mono ?_
          rintro e w4 ⟨rfl, h4⟩
          have HB4 : Hid (Below w.heap.size w w4) := (HB3.out.alloc HB3.out.size _).trans (h4.mono (by rw [World.size_alloc]; have := HB3.out.size; omega))
          clear h4
          go_wp2_with fail
          go_ret
          exact ⟨by rw [HV.out]; rfl, HB4.out⟩
end Go.Proofs.YtocjjfjcepflnaaDoor
