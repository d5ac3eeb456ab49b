/-
  PROVED HERE: what Unstuffed of the answer computes.
-/
import Derived.Test.YtakhgoifgpdgiaaDoorUnst
set_option linter.unusedVariables false
namespace Go.Proofs.YtakhgoifgpdgiaaDoor
open Go.RowKit

theorem runstuff_same (s : ByteArray) (w : World) (hs : s.size < 4611686018427387904) : Calls Tryd.prog 16 #[.string s] w fun e w' => e = .returned (.tuple #[.string ⟨(Lin.uns s.data.toList).1.toArray⟩, .bool (Lin.uns s.data.toList).2]) ∧ w = w' :=
  (runstuff_any s w hs).mono fun _ _ h => ⟨h.1, h.2.symm⟩
theorem drop_at (l : List (List UInt8)) (k : Nat) (hk : k < l.length) : l.drop k = at' l k :: l.drop (k + 1) := by
  rw [List.drop_eq_getElem_cons hk]
  unfold at'
  rw [List.getD_eq_getElem?_getD, List.getElem?_eq_getElem hk]
  rfl
theorem joi_spl_le (t : List UInt8) : (Lin.joi (Lin.spl t).1).length ≤ t.length := by
  have h := congrArg List.length (Lin.joi_spl t)
  rw [List.length_append] at h
  omega
theorem joi_len_succ (l : List (List UInt8)) (k : Nat) (hk : k < l.length) : (Lin.joi (l.take (k + 1))).length = (Lin.joi (l.take k)).length + ((at' l k).length + 2) := by
  rw [joi_succ l k hk]
  simp only [List.length_append, List.length_cons, List.length_nil]
theorem own_fits {w : World} {base : Nat} {v : Value} {l : List (List UInt8)} {n : Nat} (h : w.ownsRow base 9 1 v n (l.map sV)) (hn : l.length = n) : ∃ A c, v = .slice A l.length c ∧ Txs w A l := by
  subst hn
  obtain ⟨A, c, h1, h2, _⟩ := own_txs h
  exact ⟨A, c, h1, h2⟩

set_option maxRecDepth 100000 in
set_option maxHeartbeats 4000000 in
theorem runstuffed_any (t : List UInt8) (w : World) (hs : t.length < 4294967281) :
    Calls Tryd.prog 14 #[.string ⟨t.toArray⟩] w fun e w' => UnsPost t e w' ∧ Below w.heap.size w w' := by
  obtain ⟨i0, hi, hz0, hz1, hz2⟩ := info_parts info9
  have HS := Lib.hid (rsplit_any ⟨t.toArray⟩ w (by rw [size_mk]; exact hs))
  have HZ : Hid (((⟨t.toArray⟩ : ByteArray).size : Int) = (t.length : Int)) := by show _ = _; rw [size_mk]
  have hj := joi_spl_le t
  have hll := Lin.joi_len (Lin.spl t).1
  rw [show (⟨t.toArray⟩ : ByteArray).data.toList = t from rfl] at HS
  obtain ⟨L, hL⟩ : ∃ L, (Lin.spl t).1 = L := ⟨_, rfl⟩
  obtain ⟨r, hR⟩ : ∃ r, (Lin.spl t).2 = r := ⟨_, rfl⟩
  rw [hL] at HS hj hll
  rw [hR] at HS
  have HL := Lib.hid hL
  have hLs : L.length < 2147483648 := by omega
  clear hL hR
  go_enter Tryd.func14, Tryd.ntmps14
  go_wp2_with (go_at_call 12; refine Calls.mono HS.out ?_; rintro e w1 ⟨⟨A, c, rfl, HT⟩, HB1⟩)
  go_loopw [7, 8, 9] (fun v u x wr => ∃ (pre : List (List UInt8)) (k : Nat), u = .int .i64 ((Lin.joi (L.take k)).length : Nat) ∧ x = .int .i64 k ∧ k ≤ L.length ∧ pre.length = k ∧ Hid (Lin.put pre (Lin.joi (L.take k)).length (Lin.usd (L.drop k)) = Lin.usd L) ∧ wr.ownsRow w1.heap.size 9 1 v pre.length (pre.map sV) ∧ Below w1.heap.size w1 wr) (fun _ _ x _ => L.length - (intOf x).toNat)
  case atStart => exact ⟨[], 0, by simp [Lin.joi], rfl, by omega, rfl, by rw [List.take_zero, List.drop_zero]; exact Lin.put_nil _, World.ownsRow_lit w1 #[] 0 (Nat.le_refl _) (by unfold maxLen; omega) rfl, (Below.refl _ _).alloc (Nat.le_refl _) _⟩
  case round =>
    obtain ⟨pre, k, rfl, rfl, hk, hpk, HP, hown, hbel⟩ := hrel
    have hws := hbel.size
    have hws1 := HB1.size
    have HO := Lib.hid hown
    have HB := Lib.hid hbel
    by_cases hlt : k < L.length
    · have hltz : (k : Int) < (L.length : Int) := by omega
      obtain ⟨b1, o1, rfl, f1⟩ := HT k hlt
      have f2 : wr.cell? ⟨b1, o1 + k, none⟩ = some (.string ⟨(at' L k).toArray⟩) := by rw [hbel.cell (p := ⟨b1, o1 + k, none⟩) (World.block_lt_of_cell? _ _ f1)]; exact f1
      have hjk := hj
      have hm1 := joi_len_succ L k hlt
      have hm2 := joi_take_le L (k + 1)
      have hd := drop_at L k hlt
      rw [hd] at HP
      have HU := Lib.hid (fun (h : (at' L k).length < 4611686018427387904) (W : World) => runstuff_same ⟨(at' L k).toArray⟩ W (by rw [size_mk]; exact h))
      rw [show (⟨(at' L k).toArray⟩ : ByteArray).data.toList = at' L k from rfl] at HU
      obtain ⟨X, hX⟩ : ∃ X, at' L k = X := ⟨_, rfl⟩
      obtain ⟨m, hM⟩ : ∃ m, (Lin.joi (L.take k)).length = m := ⟨_, rfl⟩
      rw [hX] at f2 hm1 HP HU
      rw [hM] at hm1 HP
      rw [hM]
      have hbd : m + (X.length + 2) ≤ t.length := by rw [hm1] at hm2; exact Nat.le_trans hm2 hj
      have hmz : ((m + (X.length + 2) : Nat) : Int) ≤ ((⟨t.toArray⟩ : ByteArray).size : Int) := by rw [HZ.out]; omega
      have HW1 : Hid (wrap64 ((X.length : Int) + 2) = ((X.length + 2 : Nat) : Int)) := by show _ = _; unfold wrap64; omega
      have HW2 : Hid (wrap64 ((m : Int) + ((X.length + 2 : Nat) : Int)) = ((m + (X.length + 2) : Nat) : Int)) := by show _ = _; unfold wrap64; omega
      have HT2 := Lib.hid HT
      have HBB := Lib.hid HB1
      have HM1 := Lib.hid hm1
      have HM := Lib.hid hM
      clear hown hbel HT HB1 f1 hd HS hm1 hm2 hX hM hj hjk hll
      cases hu : Lin.uns X with
      | mk y la =>
        rw [hu] at HU
        cases la with
        | true =>
          have HN : Hid (Lin.usd L = some (pre, m + (X.length + 2))) := by
            show _ = _
            rw [← HP.out]
            exact Lin.usd_end pre m X _ (by rw [hu])
          have HX : Hid (sV (t.drop (m + (X.length + 2))) = .string ((⟨t.toArray⟩ : ByteArray).extract (m + (X.length + 2)) (⟨t.toArray⟩ : ByteArray).size)) := by
            show _ = _
            have := Lib.extract_to_end (⟨t.toArray⟩ : ByteArray) (m + (X.length + 2))
            rw [show (⟨t.toArray⟩ : ByteArray).data.toList = t from rfl] at this
            rw [← this, sV_of]
          clear HP hu
          have hb : X.length < 4611686018427387904 := by omega
          go_wp2_with (go_at_call 16; refine Calls.mono (HU.out hb _) ?_; rintro e w' ⟨rfl, rfl⟩)
          go_quiet (fail)
          go_wp2
          go_ret3
          refine ⟨?_, below_drewN (HBB.out.trans (HB.out.mono hws1)) _⟩
          unfold UnsPost
          rw [HL.out, HN.out]
          obtain ⟨A', c', rfl, hT'⟩ := own_fits HO.out rfl
          refine ⟨A', c', ?_, hT'⟩
          rw [HX.out, size_mk]
          rfl
        | false =>
          have HN : Hid (Lin.put (pre ++ [y]) (m + (X.length + 2)) (Lin.usd (L.drop (k + 1))) = Lin.usd L) := by
            show _ = _
            rw [← HP.out]
            have := Lin.usd_more pre m X (L.drop (k + 1)) (by rw [hu])
            rw [hu] at this
            exact this.symm
          clear HP hu
          have hb : X.length < 4611686018427387904 := by omega
          go_wp2_with (first
            | (go_at_call 16; refine Calls.mono (HU.out hb _) ?_; rintro e w' ⟨rfl, rfl⟩)
            | (at_builtin; go_must (refine wpList_append_own _ rfl (.tmp 45) (.tmp 47) 22 rfl w1.heap.size 9 i0 (.string ⟨#[]⟩) 1 16 Tryd.underlying22 hi hz0 hz1 hz2 rfl (by decide) _ _ _ rfl (HO.out.alloc _) ⟨wr.heap.size, 0, none⟩ 1 1 [.string ⟨y.toArray⟩] rfl rfl ?c1 ?c2 ?c3 ?c4 ?c5 ?_)))
          case c1 => exact cell_one_new _ _ _
          case c2 => intro u hu; simp only [List.mem_singleton] at hu; subst hu; rfl
          case c3 => unfold maxLen; omega
          case c4 => omega
          case c5 => simp only [World.size_alloc]; omega
          intro v' w2 hown1 hgrow _
          have hb1 : Below w1.heap.size w1 w2 := (HB.out.alloc hws _).grown hgrow (by simp only [World.size_alloc]; omega) (fun p hp => (HO.out.lt p hp).1)
          have HO1 := Lib.hid hown1
          have HB1 := Lib.hid hb1
          clear hown1 hgrow hb1
          go_wp2
          go_roundw
          case rel =>
            refine ⟨pre ++ [y], k + 1, by rw [HM1.out]; go_num, by go_num, by omega, by rw [List.length_append]; simp; omega, by rw [HM1.out]; exact HN, ?_, HB1.out⟩
            rw [List.length_append, List.map_append, List.map_singleton, hpk]
            exact HO1.out
          case measure => simp [intOf]; omega
    · have hltz : ¬ (k : Int) < (L.length : Int) := by omega
      have HN : Hid (Lin.usd L = none) := by
        show _ = _
        rw [← HP.out, List.drop_eq_nil_iff.2 (by omega)]
        rfl
      have HT2 := Lib.hid HT
      have HBB := Lib.hid HB1
      clear hown hbel HT HB1 HP
      go_wp2
      go_ret3
      refine ⟨?_, HBB.out.trans (HB.out.mono hws1)⟩
      unfold UnsPost
      rw [HL.out, HN.out]
      rfl
end Go.Proofs.YtakhgoifgpdgiaaDoor
