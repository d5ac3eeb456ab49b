/-
  PROVED HERE: what Unstuffed of the program computes.
-/
import Derived.Test.YtakhgoifgpdgiaaDoorUsd
import Derived.Test.YtakhgoifgpdgiaaDoorRStuff
import Derived.WalkMore
set_option linter.unusedVariables false
namespace Go.Proofs.YtakhgoifgpdgiaaDoor
open Go.RowKit

/-- What Unstuffed answers. -/
def UnsPost (t : List UInt8) (e : Ending) (w' : World) : Prop :=
  match Lin.usd (Lin.spl t).1 with
  | none => e = .returned (.tuple #[.slice none 0 0, .string ⟨#[]⟩, .bool false])
  | some (o, m) => ∃ A c, e = .returned (.tuple #[.slice A o.length c, sV (t.drop m), .bool true]) ∧ Txs w' A o

theorem unstuff_same (s : ByteArray) (w : World) : Calls Tryd.prog 15 #[.string s] w fun e w' => e = .returned (.tuple #[.string ⟨(Lin.uns s.data.toList).1.toArray⟩, .bool (Lin.uns s.data.toList).2]) ∧ w = w' :=
  (unstuff_any s w).mono fun _ _ h => ⟨h.1, h.2.symm⟩
def strLen : Value → Nat
  | .string b => b.size
  | _ => 0

theorem drewN_size (w : World) (k : Nat) : (w.drewN k).heap.size = w.heap.size := rfl
theorem ownsRow_drewN {w : World} {B : Nat} {e : TypeId} {size : Nat} {v : Value} {n : Nat} {xs : List Value} (h : w.ownsRow B e size v n xs) (k : Nat) : (w.drewN k).ownsRow B e size v n xs := h

set_option maxRecDepth 100000 in
set_option maxHeartbeats 4000000 in
theorem unstuffed_any (t : List UInt8) (mx : Int) (w : World) (hs : t.length < 4294967281) (hm : w.cell? ⟨0, 0, none⟩ = some (.int .i64 mx)) (h0 : 0 < w.heap.size) :
    Calls Tryd.prog 13 #[.string ⟨t.toArray⟩] w fun e w' => UnsPost t e w' ∧ Below w.heap.size w w' := by
  obtain ⟨i0, hi, hz0, hz1, hz2⟩ := info_parts info9
  go_enter Tryd.func13, Tryd.ntmps13
  go_wp2
  go_step3
  go_wp2
  go_step3
  go_wp2
  go_loopw [5, 6] (fun v u wr => ∃ (pre : List (List UInt8)) (r : List UInt8) (m : Nat), u = .string ⟨r.toArray⟩ ∧ Hid (r = t.drop m) ∧ r.length ≤ t.length ∧ 2 * pre.length + r.length ≤ t.length ∧ Hid (Lin.put pre m (Lin.usd (Lin.spl r).1) = Lin.usd (Lin.spl t).1) ∧ wr.ownsRow w.heap.size 9 1 v pre.length (pre.map sV) ∧ Below w.heap.size w wr) (fun _ u _ => strLen u)
  case atStart => exact ⟨[], t, 0, rfl, rfl, Nat.le_refl _, by simp, Lin.put_nil _, World.ownsRow_nil _ _ _ _, Below.refl _ _⟩
  case round =>
    obtain ⟨pre, r, m, rfl, HR, hrl, hpl, HP, hown, hbel⟩ := hrel
    have hws := hbel.size
    have hm2 : wr.cell? ⟨0, 0, none⟩ = some (.int .i64 mx) := by rw [hbel.cell (p := ⟨0, 0, none⟩) h0]; exact hm
    have hcut := Tryd.strings_Cut ⟨r.toArray⟩ ⟨#[13, 10]⟩ mx wr (by rw [size_mk]; omega) hm2
    have HO := Lib.hid hown
    have HB := Lib.hid hbel
    clear hown hbel hm2
    rcases Lin.idx r with ⟨x1, x2⟩ | ⟨k, x1, x2, x3, x4⟩
    · have e1 : Lib.cut (⟨r.toArray⟩ : ByteArray).data.toList (⟨#[13, 10]⟩ : ByteArray).data.toList = (r, [], false) := Lin.cut_none r x1
      rw [e1] at hcut
      have HC := Lib.hid hcut
      have e2 := Lin.spl_none r x2
      rw [e2] at HP
      have HN : Hid (Lin.usd (Lin.spl t).1 = none) := HP.out.symm
      clear e1 e2 hcut x1 x2
      go_wp2_with (go_at_call 29; refine Calls.mono HC.out ?_; rintro e w' ⟨rfl, q, rfl⟩)
      rw [Exit.noGoto_ret]
      go_ret3
      refine ⟨?_, below_drewN HB.out _⟩
      unfold UnsPost
      rw [HN.out]
      rfl
    · have e1 : Lib.cut (⟨r.toArray⟩ : ByteArray).data.toList (⟨#[13, 10]⟩ : ByteArray).data.toList = (r.take k, r.drop (k + 2), true) := Lin.cut_hit r k x1
      rw [e1] at hcut
      have HC := Lib.hid hcut
      have e2 := Lin.spl_hit r k x3 x4
      rw [e2] at HP
      have hd : (r.drop (k + 2)).length = r.length - (k + 2) := List.length_drop
      have ht : (r.take k).length = k := by rw [List.length_take]; omega
      have HR2 : Hid (r.drop (k + 2) = t.drop (m + (k + 2))) := by
        show _ = _
        rw [HR.out, List.drop_drop]
      generalize r.drop (k + 2) = r2 at *
      generalize r.take k = x at *
      have HU := Lib.hid (fun W : World => unstuff_same ⟨x.toArray⟩ W)
      clear e1 e2 hcut x1 x3 x4 HR
      cases hu : Lin.uns x with
      | mk y la =>
        rw [show (⟨x.toArray⟩ : ByteArray).data.toList = x from rfl, hu] at HU
        cases la with
        | true =>
          have HN : Hid (Lin.usd (Lin.spl t).1 = some (pre, m + (x.length + 2))) := by
            show _ = _
            rw [← HP.out]
            exact Lin.usd_end pre m x _ (by rw [hu])
          clear HP hu
          go_wp2_with (first
            | (go_at_call 29; refine Calls.mono HC.out ?_; rintro e w' ⟨rfl, q, rfl⟩)
            | (go_at_call 15; refine Calls.mono (HU.out _) ?_; rintro e w' ⟨rfl, rfl⟩))
          rw [Exit.noGoto_ret]
          go_ret3
          refine ⟨?_, below_drewN HB.out _⟩
          unfold UnsPost
          rw [HN.out]
          have hown := HO.out
          rcases hown.2 with ⟨h1, h0'⟩ | ⟨g, c, cur, h1, _⟩
          · have : pre = [] := List.length_eq_zero_iff.1 h0'
            subst this
            exact ⟨none, 0, by rw [h1, ht, ← HR2.out]; rfl, txs_nil _ _⟩
          · subst h1
            refine ⟨_, c, by rw [ht, ← HR2.out]; rfl, fun k' hk => ⟨g, 0, rfl, ?_⟩⟩
            have hf := hown.cellAt k' (by omega)
            rw [Nat.zero_add]
            show wr.cell? _ = _
            rw [hf, List.getElem?_map, List.getElem?_eq_getElem hk]
            unfold at' sV
            rw [List.getD_eq_getElem?_getD, List.getElem?_eq_getElem hk]
            rfl
        | false =>
          have HN : Hid (Lin.put (pre ++ [y]) (m + (k + 2)) (Lin.usd (Lin.spl r2).1) = Lin.usd (Lin.spl t).1) := by
            show _ = _
            rw [← HP.out]
            have := Lin.usd_more pre m x (Lin.spl r2).1 (by rw [hu])
            rw [hu, ht] at this
            exact this.symm
          clear HP hu
          go_wp2_with (first
            | (go_at_call 29; refine Calls.mono HC.out ?_; rintro e w' ⟨rfl, q, rfl⟩)
            | (go_at_call 15; refine Calls.mono (HU.out _) ?_; rintro e w' ⟨rfl, rfl⟩)
            | (at_builtin; go_must (refine wpList_append_own _ rfl (.tmp 29) (.tmp 31) 22 rfl w.heap.size 9 i0 (.string ⟨#[]⟩) 1 16 Tryd.underlying22 hi hz0 hz1 hz2 rfl (by decide) _ _ _ rfl ((ownsRow_drewN HO.out q).alloc _) ⟨wr.heap.size, 0, none⟩ 1 1 [.string ⟨y.toArray⟩] rfl rfl ?c1 ?c2 ?c3 ?c4 ?c5 ?_)))
          case c1 => exact cell_one_new _ _ _
          case c2 => intro u hu; simp only [List.mem_singleton] at hu; subst hu; rfl
          case c3 => unfold maxLen; omega
          case c4 => omega
          case c5 => simp only [World.size_alloc, drewN_size]; omega
          intro v' w1 hown1 hgrow _
          have hb1 : Below w.heap.size w w1 := ((below_drewN HB.out q).alloc (by simp only [drewN_size]; omega) _).grown hgrow (by simp only [World.size_alloc, drewN_size]; omega) (fun p hp => (HO.out.lt p hp).1)
          have HO1 := Lib.hid hown1
          have HB1 := Lib.hid hb1
          clear hown1 hgrow hb1
          go_wp2
          go_roundw
          case rel =>
            refine ⟨pre ++ [y], r2, m + (k + 2), rfl, HR2, by omega, by rw [List.length_append]; simp; omega, HN, ?_, HB1.out⟩
            rw [List.length_append, List.map_append, List.map_singleton]
            exact HO1.out
          case measure => simp [strLen, size_mk]; omega
end Go.Proofs.YtakhgoifgpdgiaaDoor
