/-
  PROVED HERE: AddrQuotes answers true.
-/
import Derived.Test.YtifheakepegjcaaDoorGr
import Derived.Laws.RangeString
import Derived.Lib.OthersKept
set_option linter.unusedVariables false
namespace Adr
/-- A local part in quotes, with signs ahead of some bytes. -/
def sgF : List UInt8 → (Nat → Bool) → List UInt8
  | [], _ => []
  | c :: t, f => (if c == 34 || c == 92 || f 0 then [92, c] else [c]) ++ sgF t (fun i => f (i + 1))
theorem qlp_sgF : ∀ (t : List UInt8) (f : Nat → Bool) (r acc : List UInt8), qlp (sgF t f ++ 34 :: r) acc = some (acc ++ t, r)
  | [], f, r, acc => by rw [sgF, List.nil_append, qlp_end, List.append_nil]
  | c :: t, f, r, acc => by
    rw [sgF, List.append_assoc, qlp_one c (f 0), qlp_sgF t _ r]
    simp
theorem sgF_succ : ∀ (l : List UInt8) (f : Nat → Bool) (k : Nat) (h : k < l.length), sgF (l.take (k + 1)) f = sgF (l.take k) f ++ (if l[k] == 34 || l[k] == 92 || f k then [92, l[k]] else [l[k]])
  | c :: t, f, 0, h => by simp [sgF]
  | c :: t, f, k + 1, h => by
    rw [List.take_succ_cons, List.take_succ_cons, sgF, sgF, sgF_succ t (fun i => f (i + 1)) k (by simpa using h), List.append_assoc]
    rfl
theorem sgF_len : ∀ (l : List UInt8) (f : Nat → Bool), (sgF l f).length ≤ 2 * l.length
  | [], f => by simp [sgF]
  | c :: t, f => by
    have := sgF_len t (fun i => f (i + 1))
    rw [sgF, List.length_append, List.length_cons]
    split <;> simp only [List.length_cons, List.length_nil] <;> omega
/-- A mailbox whose local part stands in quotes, as it is read. -/
theorem quo_path {l d : List UInt8} (h : mayB l d = true) (f : Nat → Bool) : rdP (60 :: 34 :: (sgF l f ++ 34 :: 64 :: (d ++ [62]))) = some (l, d, []) := by
  obtain ⟨hd, hs, hl⟩ := may_parts h
  have hX : ∀ u, rdL ((34 :: (sgF l f ++ [34])) ++ 64 :: u) = some (l, 64 :: u) := fun u => by
    rw [show (34 :: (sgF l f ++ [34])) ++ 64 :: u = 34 :: (sgF l f ++ 34 :: 64 :: u) by simp]
    unfold rdL
    rw [if_pos (by rfl), List.tail_cons]
    exact rdQ_yes (by rw [qlp_sgF, List.nil_append]) hl
  unfold rdP
  rw [tk_yes (by rfl), Option.bind_some, List.tail_cons]
  unfold rdP1
  rw [show atB 62 (34 :: (sgF l f ++ 34 :: 64 :: (d ++ [62]))) = false from rfl, if_neg (by decide)]
  unfold rdR
  rw [show atB 64 (34 :: (sgF l f ++ 34 :: 64 :: (d ++ [62]))) = false from rfl, if_neg (by decide), Option.bind_some,
    show 34 :: (sgF l f ++ 34 :: 64 :: (d ++ [62])) = (34 :: (sgF l f ++ [34])) ++ 64 :: (d ++ [62]) by simp, rdP2_box hX hd, hs]
theorem local_mem {l : List UInt8} (h : localB l = true) : l.length ≤ 64 ∧ ∀ c ∈ l, c.toNat < 128 := by
  unfold localB at h
  rw [Bool.and_eq_true] at h
  refine ⟨of_decide_eq_true h.1, fun c hc => ?_⟩
  have := allB_mem h.2 c hc
  unfold shownB at this
  rw [Bool.and_eq_true, decide_eq_true_iff, decide_eq_true_iff] at this
  omega
end Adr
namespace Go.Proofs.YtifheakepegjcaaDoor
open Go.RowKit
variable {m : Int} {w W W1 : World}
theorem conv_one (c : UInt8) (W : World) : (convert 46 9 (.slice (some ⟨W.heap.size, 0, none⟩) 1 1)).run Tryd.prog (W.alloc (.cells #[.int .u8 (c.toNat : Int)] 5)) = .ok (.string ⟨[c].toArray⟩) (W.alloc (.cells #[.int .u8 (c.toNat : Int)] 5)) :=
  run_convert_bytes_back (P := Tryd.prog) _ 46 9 5 ⟨W.heap.size, 0, none⟩ 1 [c] Tryd.underlying46 Tryd.underlying5 Tryd.underlying9 fun j hj => by
    obtain rfl : j = 0 := by simpa using hj
    exact cell_one_new W _ 5 0 _ rfl
/-- The mailbox handed in, and a text's iterator at a block of the call's own. -/
structure It (m : Int) (w : World) (l d : List UInt8) (K k : Nat) (W : World) : Prop where
  bx : Bx m w w.heap.size l d W
  it : W.heap[K]? = some (.stringIter ⟨l.toArray⟩ k)
  gt : w.heap.size < K
theorem it_next {l d : List UInt8} {K k : Nat} (h : It m w l d K k W) (g : Below W.heap.size W W1) : It m w l d K k W1 :=
  ⟨bx_next h.bx g, (g.block _ (Array.getElem?_eq_some_iff.1 h.it).1).trans h.it, h.gt⟩
theorem it_new {l d : List UInt8} (h : Bx m w w.heap.size l d W) : It m w l d W.heap.size 0 (W.iter ⟨l.toArray⟩ 0) :=
  ⟨bx_next h ((Below.refl _ _).alloc (Nat.le_refl _) _), World.iter_heap W _ 0, (Array.getElem?_eq_some_iff.1 h.kp).1⟩
theorem it_step {l d : List UInt8} {K k : Nat} (h : It m w l d K k W) (hk : k < l.length) (ha : ∀ c ∈ l, c.toNat < 128) : ∃ w5 : World, (∃ v, ∀ ty, (Instr.next (.pointer (some ⟨K, 0, none⟩)) true ty).run Tryd.prog W = .ok (.tuple #[.bool true, .int .i64 k, v]) w5) ∧ It m w l d K (k + 1) w5 := by
  have hsz : k < (⟨l.toArray⟩ : ByteArray).size := by rw [size_mk]; exact hk
  refine ⟨W.iterAt K ⟨l.toArray⟩ (k + 1), ⟨_, fun ty => Lib.run_next_ascii_at W K _ k ty h.it hsz (ha _ (List.getElem_mem hk))⟩, ?_⟩
  have hb : Below K W (W.iterAt K ⟨l.toArray⟩ (k + 1)) := Lib.below_iterAt (Below.refl _ _) (Nat.le_refl _) _ _
  have h0 : 0 < K := Nat.lt_of_le_of_lt (Nat.zero_le _) h.gt
  exact ⟨⟨⟨h.bx.at'.below.trans (hb.mono (Nat.le_of_lt h.gt)), by rw [hb.cell (p := ⟨0, 0, none⟩) h0]; exact h.bx.at'.cell⟩, (hb.block _ h.gt).trans h.bx.kp, h.bx.ws, h.bx.pos⟩, Lib.iterAt_heap W K _ k (k + 1) h.it, h.gt⟩
theorem it_end {l d : List UInt8} {K : Nat} (h : It m w l d K l.length W) (ty : TypeId) : (Instr.next (.pointer (some ⟨K, 0, none⟩)) true ty).run Tryd.prog W = .ok (.tuple #[.bool false]) W :=
  Lib.run_next_end_at W K _ l.length ty h.it (by rw [size_mk]; exact Nat.lt_irrefl _)
/-- Where a text's iterator stands. -/
def itPos (K : Nat) (W : World) : Nat := match W.heap[K]? with | some (.stringIter _ p) => p | _ => 0
theorem it_pos {l d : List UInt8} {K k : Nat} (h : It m w l d K k W) : itPos K W = k := by unfold itPos; rw [h.it]

set_option maxRecDepth 100000 in
set_option maxHeartbeats 4000000 in
theorem quotesw_any (l d : List UInt8) (A : Option Addr) (len cap : Nat) (f : Nat → Bool) (m : Int) (w : World) (hl : l.length ≤ 9223372036854775807) (hd : d.length ≤ 9223372036854775807) (hB : Bos w A len f) (hlen : len ≤ 9223372036854775807) (hm : w.cell? ⟨0, 0, none⟩ = some (.int .i64 m)) :
    Calls Tryd.prog 9 #[bxV l d, .slice A len cap] w fun e w' => e = .returned (.bool true) ∧ Below w.heap.size w w' := by
  have H0 := Lib.hid (bx_first hm l d)
  have HW := Lib.hid (awake_bx H0.out)
  have HBO := Lib.hid hB
  have HLG := Lib.hid (fun (W : World) (b : Nat) (h : W.cell? ⟨b, 0, none⟩ = some (.string ⟨l.toArray⟩) ∧ W.cell? ⟨b, 1, none⟩ = some (.string ⟨d.toArray⟩)) => large_two l d b W hl hd h.1 h.2)
  clear hm hB
  unfold bxV at *
  cases hg : Adr.lgB [l, d] with
  | true =>
    rw [hg] at HLG
    clear hg
    go_enter Tryd.func9, Tryd.ntmps9
    go_wp2_with fail
    refine HW.out.mono ?_
    rintro e w1 ⟨rfl, h1⟩
    have H1 := Lib.hid h1
    obtain ⟨⟨c1, f1⟩, c2, f2⟩ := bx_cells h1
    have H2 := Lib.hid (bx_alloc h1 (.cells #[.string ⟨l.toArray⟩, .string ⟨d.toArray⟩] 9))
    have c3 := pair_new w1 l d 9
    clear h1
    go_wp2_with fail
    refine (HLG.out _ _ c3).mono ?_
    rintro e w2 ⟨rfl, rfl⟩
    clear c1 f1 c2 f2 c3
    obtain ⟨⟨c1, f1⟩, c2, f2⟩ := bx_cells H2.out
    go_wp2_with fail
    go_ret
    exact ⟨rfl, H2.out.at'.below⟩
  | false =>
    rw [hg] at HLG
    have hle := Adr.lg_no hg (T := l) (by simp)
    have hle2 := Adr.lg_no hg (T := d) (by simp)
    clear hg
    have hl' : l.length < 4294967281 := by omega
    have hd' : d.length < 4294967281 := by omega
    have CM := Lib.hid (fun (W : World) (h : Bx m w w.heap.size l d W) => bx_call h (may_any l d m W hl' hd' h.at'.cell))
    unfold bxV at CM
    cases hmb : Adr.mayB l d with
    | false =>
      rw [hmb] at CM
      clear hmb
      go_enter Tryd.func9, Tryd.ntmps9
      go_wp2_with fail
      refine HW.out.mono ?_
      rintro e w1 ⟨rfl, h1⟩
      have H1 := Lib.hid h1
      obtain ⟨⟨c1, f1⟩, c2, f2⟩ := bx_cells h1
      have H2 := Lib.hid (bx_alloc h1 (.cells #[.string ⟨l.toArray⟩, .string ⟨d.toArray⟩] 9))
      have c3 := pair_new w1 l d 9
      clear h1
      go_wp2_with fail
      refine (HLG.out _ _ c3).mono ?_
      rintro e w2 ⟨rfl, rfl⟩
      clear c1 f1 c2 f2 c3
      obtain ⟨⟨c1, f1⟩, c2, f2⟩ := bx_cells H2.out
      go_wp2_with fail
      refine (CM.out _ H2.out).mono ?_
      rintro e w3 ⟨rfl, h3⟩
      have H3 := Lib.hid h3
      clear h3 c1 f1 c2 f2
      obtain ⟨⟨c1, f1⟩, c2, f2⟩ := bx_cells H3.out
      go_wp2_with fail
      go_ret
      exact ⟨rfl, H3.out.at'.below⟩
    | true =>
      rw [hmb] at CM
      obtain ⟨_, _, hloc⟩ := Adr.may_parts hmb
      obtain ⟨hl64, hasc⟩ := Adr.local_mem hloc
      have HASC := Lib.hid hasc
      have HQP := Lib.hid (Adr.quo_path hmb f)
      have HSL := Lib.hid (Adr.sgF_len l f)
      have CP := Lib.hid (fun (T : List UInt8) (ht : T.length < 4294967281) (W : World) (h : Bx m w w.heap.size l d W) => bx_call h (parse_any T m W ht h.at'.cell))
      have q1 := eq_same
      have q2 := gua25
      clear hloc hasc hmb hl hd hle hl' hd'
      go_enter Tryd.func9, Tryd.ntmps9
      go_wp2_with fail
      refine HW.out.mono ?_
      rintro e w1 ⟨rfl, h1⟩
      have H1 := Lib.hid h1
      obtain ⟨⟨c1, f1⟩, c2, f2⟩ := bx_cells h1
      have H2 := Lib.hid (bx_alloc h1 (.cells #[.string ⟨l.toArray⟩, .string ⟨d.toArray⟩] 9))
      have c3 := pair_new w1 l d 9
      clear h1
      go_wp2_with fail
      refine (HLG.out _ _ c3).mono ?_
      rintro e w2 ⟨rfl, rfl⟩
      clear c1 f1 c2 f2 c3
      obtain ⟨⟨c1, f1⟩, c2, f2⟩ := bx_cells H2.out
      go_wp2_with fail
      refine (CM.out _ H2.out).mono ?_
      rintro e w3 ⟨rfl, h3⟩
      have H3 := Lib.hid h3
      clear h3 c1 f1 c2 f2
      obtain ⟨⟨c1, f1⟩, c2, f2⟩ := bx_cells H3.out
      go_wp2_with fail
      have HI0 := Lib.hid (it_new H3.out)
      clear c1 f1 c2 f2
      generalize World.iter w3 _ 0 = w4 at *
      go_loopw [5] (fun v wr => ∃ k : Nat, v = .string ⟨(60 :: 34 :: Adr.sgF (l.take k) f).toArray⟩ ∧ k ≤ l.length ∧ Hid (It m w l d w3.heap.size k wr)) (fun _ wr => l.length - itPos w3.heap.size wr)
      case atStart => exact ⟨0, rfl, by omega, HI0⟩
      case round =>
        obtain ⟨k, rfl, hk, HI⟩ := hrel
        have hrl : (60 :: 34 :: Adr.sgF (l.take k) f).length ≤ 130 := by
          have := Adr.sgF_len (l.take k) f
          rw [List.length_take] at this
          simp only [List.length_cons]
          omega
        by_cases hlt : k < l.length
        · have hltz : (k : Int) < (l.length : Int) := by omega
          obtain ⟨w5, ⟨v5, hnx⟩, hi5⟩ := it_step HI.out hlt HASC.out
          have HI5 := Lib.hid hi5
          obtain ⟨⟨c1, f1⟩, c2, f2⟩ := bx_cells hi5.bx
          have HBO2 := Lib.hid (bos_below HBO.out hi5.bx.at'.below)
          have HSS := Lib.hid (Adr.sgF_succ l f k hlt)
          have hsz : k < (⟨l.toArray⟩ : ByteArray).size := by rw [size_mk]; exact hlt
          have hat : (⟨l.toArray⟩ : ByteArray)[k]'hsz = l[k]'hlt := rfl
          have hcv := fun W => conv_one (l[k]'hlt) W
          have e1 := Adr.u8_beq (l[k]'hlt) 34
          have e2 := Adr.u8_beq (l[k]'hlt) 92
          rw [show ((34 : UInt8).toNat : Int) = 34 from rfl] at e1
          rw [show ((92 : UInt8).toNat : Int) = 92 from rfl] at e2
          clear hi5
          obtain ⟨c, hc⟩ : ∃ c, c = l[k]'hlt := ⟨_, rfl⟩
          rw [← hc] at hat hcv e1 e2 HSS
          obtain ⟨r, hr⟩ : ∃ r, r = 60 :: 34 :: Adr.sgF (l.take k) f := ⟨_, rfl⟩
          rw [← hr] at hrl
          rw [← hr]
          clear hc
          generalize hb1 : (c == 34) = b1 at *
          generalize hb2 : (c == 92) = b2 at *
          cases b1 with
          | true =>
            have hcond : (true || b2 || f k) = true := rfl
            have HR1 : Hid (60 :: 34 :: Adr.sgF (l.take (k + 1)) f = r ++ [92, c]) := by
              show _ = _
              rw [hr, HSS.out, hcond]
              rfl
            have y0 : (⟨r.toArray⟩ : ByteArray) ++ (⟨#[92]⟩ : ByteArray) = ⟨(r ++ [92]).toArray⟩ := mk_append r [92]
            obtain ⟨r1, hr1⟩ : ∃ r1, r1 = r ++ [92] := ⟨_, rfl⟩
            have y1 := mk_append r1 [c]
            have x1 : ¬ 9223372036854775807 < r.length + 1 := by omega
            have x2 : ¬ 9223372036854775807 < r1.length + 1 := by rw [hr1, List.length_append, List.length_singleton]; omega
            obtain ⟨r2, hr2⟩ : ∃ r2, r2 = r1 ++ [c] := ⟨_, rfl⟩
            have HR2 : Hid (60 :: 34 :: Adr.sgF (l.take (k + 1)) f = r2) := by show _ = _; rw [HR1.out, hr2, hr1]; simp
            rw [← hr1] at y0
            rw [← hr2] at y1
            clear HSS HR1 hcond hr hr1 hr2
            go_wp2_with fail
            go_roundw
            case rel => exact ⟨k + 1, by rw [HR2.out], by omega, Lib.hid (it_next HI5.out ((Below.refl _ _).alloc (Nat.le_refl _) _))⟩
            case measure => rw [it_pos HI.out, it_pos (it_next HI5.out ((Below.refl _ _).alloc (Nat.le_refl _) _))]; omega
          | false =>
            cases b2 with
            | true =>
              have hcond : (false || true || f k) = true := rfl
              have HR1 : Hid (60 :: 34 :: Adr.sgF (l.take (k + 1)) f = r ++ [92, c]) := by
                show _ = _
                rw [hr, HSS.out, hcond]
                rfl
              have y0 : (⟨r.toArray⟩ : ByteArray) ++ (⟨#[92]⟩ : ByteArray) = ⟨(r ++ [92]).toArray⟩ := mk_append r [92]
              obtain ⟨r1, hr1⟩ : ∃ r1, r1 = r ++ [92] := ⟨_, rfl⟩
              have y1 := mk_append r1 [c]
              have x1 : ¬ 9223372036854775807 < r.length + 1 := by omega
              have x2 : ¬ 9223372036854775807 < r1.length + 1 := by rw [hr1, List.length_append, List.length_singleton]; omega
              obtain ⟨r2, hr2⟩ : ∃ r2, r2 = r1 ++ [c] := ⟨_, rfl⟩
              have HR2 : Hid (60 :: 34 :: Adr.sgF (l.take (k + 1)) f = r2) := by show _ = _; rw [HR1.out, hr2, hr1]; simp
              rw [← hr1] at y0
              rw [← hr2] at y1
              clear HSS HR1 hcond hr hr1 hr2
              go_wp2_with fail
              go_roundw
              case rel => exact ⟨k + 1, by rw [HR2.out], by omega, Lib.hid (it_next HI5.out ((Below.refl _ _).alloc (Nat.le_refl _) _))⟩
              case measure => rw [it_pos HI.out, it_pos (it_next HI5.out ((Below.refl _ _).alloc (Nat.le_refl _) _))]; omega
            | false =>
              by_cases hlk : k < len
              · have hlkz : (k : Int) < (len : Int) := by omega
                obtain ⟨b3, o3, rfl, t1⟩ := HBO2.out.1 k hlk
                cases hfk : f k with
                | true =>
                  rw [hfk] at t1 HSS
                  have hcond : (false || false || true) = true := rfl
                  clear hfk
                  have HR1 : Hid (60 :: 34 :: Adr.sgF (l.take (k + 1)) f = r ++ [92, c]) := by
                    show _ = _
                    rw [hr, HSS.out, hcond]
                    rfl
                  have y0 : (⟨r.toArray⟩ : ByteArray) ++ (⟨#[92]⟩ : ByteArray) = ⟨(r ++ [92]).toArray⟩ := mk_append r [92]
                  obtain ⟨r1, hr1⟩ : ∃ r1, r1 = r ++ [92] := ⟨_, rfl⟩
                  have y1 := mk_append r1 [c]
                  have x1 : ¬ 9223372036854775807 < r.length + 1 := by omega
                  have x2 : ¬ 9223372036854775807 < r1.length + 1 := by rw [hr1, List.length_append, List.length_singleton]; omega
                  obtain ⟨r2, hr2⟩ : ∃ r2, r2 = r1 ++ [c] := ⟨_, rfl⟩
                  have HR2 : Hid (60 :: 34 :: Adr.sgF (l.take (k + 1)) f = r2) := by show _ = _; rw [HR1.out, hr2, hr1]; simp
                  rw [← hr1] at y0
                  rw [← hr2] at y1
                  clear HSS HR1 hcond hr hr1 hr2
                  go_wp2_with fail
                  go_roundw
                  case rel => exact ⟨k + 1, by rw [HR2.out], by omega, Lib.hid (it_next HI5.out ((Below.refl _ _).alloc (Nat.le_refl _) _))⟩
                  case measure => rw [it_pos HI.out, it_pos (it_next HI5.out ((Below.refl _ _).alloc (Nat.le_refl _) _))]; omega
                | false =>
                  rw [hfk] at t1 HSS
                  have hcond : (false || false || false) = false := rfl
                  clear hfk
                  have HR1 : Hid (60 :: 34 :: Adr.sgF (l.take (k + 1)) f = r ++ [c]) := by
                    show _ = _
                    rw [hr, HSS.out, hcond]
                    rfl
                  have y1 := mk_append r [c]
                  have x1 : ¬ 9223372036854775807 < r.length + 1 := by omega
                  obtain ⟨r2, hr2⟩ : ∃ r2, r2 = r ++ [c] := ⟨_, rfl⟩
                  have HR2 : Hid (60 :: 34 :: Adr.sgF (l.take (k + 1)) f = r2) := by show _ = _; rw [HR1.out, hr2]
                  rw [← hr2] at y1
                  clear HSS HR1 hcond hr hr2
                  go_wp2_with fail
                  go_roundw
                  case rel => exact ⟨k + 1, by rw [HR2.out], by omega, Lib.hid (it_next HI5.out ((Below.refl _ _).alloc (Nat.le_refl _) _))⟩
                  case measure => rw [it_pos HI.out, it_pos (it_next HI5.out ((Below.refl _ _).alloc (Nat.le_refl _) _))]; omega
              · have hlkz : ¬ (k : Int) < (len : Int) := by omega
                have hfk : f k = false := HBO2.out.2 k (by omega)
                rw [hfk] at HSS
                have hcond : (false || false || false) = false := rfl
                clear hfk
                have HR1 : Hid (60 :: 34 :: Adr.sgF (l.take (k + 1)) f = r ++ [c]) := by
                  show _ = _
                  rw [hr, HSS.out, hcond]
                  rfl
                have y1 := mk_append r [c]
                have x1 : ¬ 9223372036854775807 < r.length + 1 := by omega
                obtain ⟨r2, hr2⟩ : ∃ r2, r2 = r ++ [c] := ⟨_, rfl⟩
                have HR2 : Hid (60 :: 34 :: Adr.sgF (l.take (k + 1)) f = r2) := by show _ = _; rw [HR1.out, hr2]
                rw [← hr2] at y1
                clear HSS HR1 hcond hr hr2
                go_wp2_with fail
                go_roundw
                case rel => exact ⟨k + 1, by rw [HR2.out], by omega, Lib.hid (it_next HI5.out ((Below.refl _ _).alloc (Nat.le_refl _) _))⟩
                case measure => rw [it_pos HI.out, it_pos (it_next HI5.out ((Below.refl _ _).alloc (Nat.le_refl _) _))]; omega
        · have hkn : k = l.length := by omega
          subst hkn
          have hend := fun ty => it_end HI.out ty
          obtain ⟨⟨c1, f1⟩, c2, f2⟩ := bx_cells HI.out.bx
          rw [List.take_length] at hrl
          rw [List.take_length]
          obtain ⟨r, hr⟩ : ∃ r, r = 60 :: 34 :: Adr.sgF l f := ⟨_, rfl⟩
          rw [← hr] at hrl
          rw [← hr]
          obtain ⟨P1, hP1⟩ : ∃ P1, P1 = r ++ [34, 64] := ⟨_, rfl⟩
          obtain ⟨P2, hP2⟩ : ∃ P2, P2 = P1 ++ d := ⟨_, rfl⟩
          obtain ⟨P3, hP3⟩ : ∃ P3, P3 = P2 ++ [62] := ⟨_, rfl⟩
          have z1 : (⟨r.toArray⟩ : ByteArray) ++ (⟨#[34, 64]⟩ : ByteArray) = ⟨P1.toArray⟩ := by rw [hP1]; exact mk_append r [34, 64]
          have z2 : (⟨P1.toArray⟩ : ByteArray) ++ (⟨d.toArray⟩ : ByteArray) = ⟨P2.toArray⟩ := by rw [hP2]; exact mk_append P1 d
          have z3 : (⟨P2.toArray⟩ : ByteArray) ++ (⟨#[62]⟩ : ByteArray) = ⟨P3.toArray⟩ := by rw [hP3]; exact mk_append P2 [62]
          have n1 : P1.length ≤ 132 := by rw [hP1, List.length_append]; simp only [List.length_cons, List.length_nil]; omega
          have n2 : P2.length ≤ 2200 := by rw [hP2, List.length_append]; omega
          have v1 : ¬ 9223372036854775807 < r.length + 2 := by omega
          have v2 : ¬ 9223372036854775807 < P1.length + d.length := by omega
          have v3 : ¬ 9223372036854775807 < P2.length + 1 := by omega
          have hP : 60 :: 34 :: (Adr.sgF l f ++ 34 :: 64 :: (d ++ [62])) = P3 := by rw [hP3, hP2, hP1, hr]; simp
          have HQ := HQP.out
          rw [hP] at HQ
          have CQ := Lib.hid (CP.out P3 (by rw [hP3, List.length_append, List.length_singleton]; omega))
          rw [parse_some HQ] at CQ
          unfold bxV at CQ
          clear HQ HQP CP hP hP1 hP2 hP3 hr
          go_wp2_with fail
          refine (CQ.out _ HI.out.bx).mono ?_
          rintro e w5 ⟨rfl, h5⟩
          have H5 := Lib.hid (bx_alloc h5 (.cells #[.string ⟨l.toArray⟩, .string ⟨d.toArray⟩] 25))
          have B5 := Lib.hid (bx_new h5.at' l d)
          clear h5 c1 f1 c2 f2
          obtain ⟨⟨c1, f1⟩, c2, f2⟩ := bx_cells H5.out
          obtain ⟨⟨c3, f3⟩, c4, f4⟩ := bx_cells B5.out
          go_wp2_with fail
          go_ret
          exact ⟨rfl, H5.out.at'.below⟩
theorem addrQuotes_any (m : Int) (l d : List UInt8) (A : Option Addr) (len cap : Nat) (f : Nat → Bool) (w : World) (hm : w.cell? ⟨0, 0, none⟩ = some (.int .i64 m)) (hl : l.length ≤ maxLen) (hd : d.length ≤ maxLen) (hB : Bos w A len f) (hlen : len ≤ maxLen) :
    Calls Tryd.prog 9 #[.agg #[.string ⟨l.toArray⟩, .string ⟨d.toArray⟩], .slice A len cap] w fun e w' => e = .returned (.bool true) ∧ Below w.heap.size w w' := quotesw_any l d A len cap f m w hl hd hB hlen hm
end Go.Proofs.YtifheakepegjcaaDoor
