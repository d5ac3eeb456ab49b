/-
  PROVED HERE: what Read of the answer computes.
-/
import Derived.Test.YtifheakepegjcaaDoorRLc
import Derived.Test.YtifheakepegjcaaDoorPlnB
set_option linter.unusedVariables false
namespace Adr
theorem suf_drop {L V : List UInt8} (h : V <:+ L) : L.drop (L.length - V.length) = V := (List.suffix_iff_eq_drop.1 h).symm
theorem rdP_not {T : List UInt8} (h : atB 60 T = false) : rdP T = none := by unfold rdP; rw [tk_no h]; rfl
theorem rdP_go {T : List UInt8} (h : atB 60 T = true) (g : atB 62 T.tail = false) : rdP T = (rdR T.tail).bind rdP2 := by
  unfold rdP rdP1
  rw [tk_yes h, Option.bind_some, g]
  rfl
theorem rdP_box {T : List UInt8} (h : atB 60 T = true) (g : atB 62 T.tail = true) : rdP T = some ([], [], T.tail.tail) := by
  unfold rdP rdP1
  rw [tk_yes h, Option.bind_some, if_pos g]
theorem rdP2_at {V l W : List UInt8} (h : rdL V = some (l, W)) (g : atB 64 W = false) : rdP2 V = none := by unfold rdP2; rw [h, Option.bind_some, tk_no g]; rfl
theorem rdP2_dom {V l W : List UInt8} (h : rdL V = some (l, W)) (g : atB 64 W = true) (d : domB (W.tail.takeWhile inD) = false) : rdP2 V = none := by
  unfold rdP2 rdP3 rdD
  rw [h, Option.bind_some, tk_yes g, Option.bind_some, d]
  rfl
theorem rdP2_end {V l W : List UInt8} (h : rdL V = some (l, W)) (g : atB 64 W = true) (q : atB 62 (W.tail.dropWhile inD) = false) : rdP2 V = none := by
  unfold rdP2 rdP3
  rw [h, Option.bind_some, tk_yes g, Option.bind_some]
  unfold rdD
  split
  · rw [Option.bind_some, tk_no q]; rfl
  · rfl
theorem rdP2_yes {V l W : List UInt8} (h : rdL V = some (l, W)) (g : atB 64 W = true) (d : domB (W.tail.takeWhile inD) = true) (q : atB 62 (W.tail.dropWhile inD) = true) : rdP2 V = some (l, sml (W.tail.takeWhile inD), (W.tail.dropWhile inD).tail) := by
  unfold rdP2 rdP3
  rw [h, Option.bind_some, tk_yes g, Option.bind_some, rdD_yes d, Option.bind_some, tk_yes q]
  rfl
theorem two_beq (T : List UInt8) (h : 2 ≤ T.length) : (T.take 2 == [60, 62]) = (atB 60 T && atB 62 T.tail) := by
  match T, h with
  | a :: b :: r, _ =>
    show ((a == 60) && ((b == 62) && true)) = ((a == 60) && (b == 62))
    rw [Bool.and_true]
end Adr
namespace Go.Proofs.YtifheakepegjcaaDoor
open Go.RowKit
variable {m : Int} {w W W1 : World} {A : Nat} {x y : List UInt8}
/-- Two strings of the answer's mailbox at a block of the call's own. -/
structure Bz (m : Int) (w : World) (A : Nat) (x y : List UInt8) (W : World) : Prop where
  at' : At m w W
  kp : W.heap[A]? = some (.cells #[.string ⟨x.toArray⟩, .string ⟨y.toArray⟩] 29 (0, 0))
  ws : w.heap.size ≤ A
  pos : 0 < A
theorem bz_new (h : At m w W) (x y : List UInt8) : Bz m w W.heap.size x y (W.alloc (.cells #[.string ⟨x.toArray⟩, .string ⟨y.toArray⟩] 29)) := by
  refine ⟨h.next ((Below.refl _ _).alloc (Nat.le_refl _) _), ?_, h.below.size, Nat.lt_of_le_of_lt (Nat.zero_le _) (World.block_lt_of_cell? _ _ h.cell)⟩
  show (W.heap.push _)[W.heap.size]? = _
  rw [Array.getElem?_push_size]
theorem bz_next (h : Bz m w A x y W) (g : Below W.heap.size W W1) : Bz m w A x y W1 :=
  ⟨h.at'.next g, (g.block _ (Array.getElem?_eq_some_iff.1 h.kp).1).trans h.kp, h.ws, h.pos⟩
theorem bz_alloc (h : Bz m w A x y W) (o : Obj) : Bz m w A x y (W.alloc o) := bz_next h ((Below.refl _ _).alloc (Nat.le_refl _) o)
theorem bz_put (h : Bz m w A x y W) (x' y' : List UInt8) : Bz m w A x' y' ((W.setCell ⟨A, 0, none⟩ (.string ⟨x'.toArray⟩)).setCell ⟨A, 1, none⟩ (.string ⟨y'.toArray⟩)) := by
  have hb : Below A W ((W.setCell ⟨A, 0, none⟩ (.string ⟨x'.toArray⟩)).setCell ⟨A, 1, none⟩ (.string ⟨y'.toArray⟩)) := ((Below.refl _ _).setCell (p := ⟨A, 0, none⟩) (Nat.le_refl _) _).setCell (p := ⟨A, 1, none⟩) (Nat.le_refl _) _
  exact ⟨⟨h.at'.below.trans (hb.mono h.ws), by rw [hb.cell (p := ⟨0, 0, none⟩) h.pos]; exact h.at'.cell⟩, Joins.block_setCell (i := 1) (Joins.block_setCell (i := 0) h.kp _) _, h.ws, h.pos⟩
theorem bz_cells (h : Bz m w A x y W) : (W.cell? ⟨A, 0, none⟩ = some (.string ⟨x.toArray⟩) ∧ W.frozen? ⟨A, 0, none⟩ = false) ∧ W.cell? ⟨A, 1, none⟩ = some (.string ⟨y.toArray⟩) ∧ W.frozen? ⟨A, 1, none⟩ = false :=
  ⟨⟨by rw [Lib.cell_of_heap h.kp]; rfl, Lib.frozen_of_heap h.kp 0⟩, by rw [Lib.cell_of_heap h.kp]; rfl, Lib.frozen_of_heap h.kp 1⟩
theorem bz_call {f : FuncId} {args : Array Value} {v : Value} (h : Bz m w A x y W) (c : Calls Tryd.prog f args W fun e w' => e = .returned v ∧ Below W.heap.size W w') :
    Calls Tryd.prog f args W fun e w' => e = .returned v ∧ Bz m w A x y w' := c.mono fun _ _ k => ⟨k.1, bz_next h k.2⟩
theorem ext_end (S : ByteArray) (k : Nat) : S.extract k S.size = ⟨(S.data.toList.drop k).toArray⟩ := by
  have := Lib.extract_to_end S k
  rw [← Lib.mk_data (ByteArray.extract _ _ _), this]
theorem ext_two (S : ByteArray) : (S.extract 0 2).toList = S.data.toList.take 2 := by
  have := Lib.extract_data S 0 2
  rw [ByteArray.toList_eq, this]
  rfl
theorem rread_no {T : List UInt8} (h : Adr.rdP T = none) : readV T = .tuple #[.agg #[.string ⟨#[]⟩, .string ⟨#[]⟩], .string ⟨#[]⟩, .int .i64 2] := by unfold readV; rw [h]; rfl

theorem rread_yes {T l d r : List UInt8} (h : Adr.rdP T = some (l, d, r)) : readV T = .tuple #[.agg #[.string ⟨l.toArray⟩, .string ⟨d.toArray⟩], .string ⟨r.toArray⟩, .int .i64 0] := by unfold readV; rw [h]; rfl

set_option maxRecDepth 100000 in
set_option maxHeartbeats 8000000 in
theorem rread_any (S : ByteArray) (m : Int) (w : World) (hs : S.size < 4294967281) (hm : w.cell? ⟨0, 0, none⟩ = some (.int .i64 m)) :
    Calls Tryd.prog 13 #[.string S] w fun e w' => e = .returned (readV S.data.toList) ∧ Below w.heap.size w w' := by
  have HZ := Lib.hid (Lib.size_eq S)
  have H0 := Lib.hid (bz_new (at_refl hm) [] [])
  have hz2 := ext_two S
  have HNO := Lib.hid (fun h => rread_no (T := S.data.toList) h)
  have HYES := Lib.hid (fun l d r h => rread_yes (T := S.data.toList) (l := l) (d := d) (r := r) h)
  have I60 := Lib.hid (fun (W : World) => is_any S 0 60 60 rfl W (by omega))
  have HEX := Lib.hid (fun k => ext_end S k)
  have CR := Lib.hid (fun (W : World) (h1 : 1 ≤ S.size) (h : Bz m w w.heap.size [] [] W) => bz_call h (routed_any S 1 m W h1 hs h.at'.cell))
  generalize hR : readV S.data.toList = R at *
  clear hm
  by_cases q2 : 2 ≤ S.size
  case neg =>
    have q2z : ¬ (2 : Int) ≤ (S.size : Int) := by omega
    have HP : Adr.rdP S.data.toList = none := by
      match hT : S.data.toList with
      | [] => rfl
      | [a] =>
        cases h : Adr.atB 60 [a] with
        | false => exact Adr.rdP_not h
        | true => rw [Adr.rdP_go h rfl]; rfl
      | a :: b :: r =>
        exfalso
        have := HZ.out
        rw [hT] at this
        simp only [List.length_cons] at this
        omega
    have HV := Lib.hid (HNO.out HP)
    have e1 : ¬ 2 ≤ S.size := q2
    cases a60 : Adr.atB 60 S.data.toList with
    | false =>
      rw [List.drop_zero, a60] at I60
      clear HYES HEX CR hz2 HNO hR HP a60
      go_enter Tryd.func13, Tryd.ntmps13
      obtain ⟨⟨c1, f1⟩, c2, f2⟩ := bz_cells H0.out
      go_wp2_with fail
      refine (I60.out _).mono ?_
      rintro e w' ⟨rfl, rfl⟩
      go_wp2_with fail
      rw [HV.out]
      refine bodyPost_ret (v := .tuple #[.agg #[.string ⟨#[]⟩, .string ⟨#[]⟩], .string ⟨#[]⟩, .int .i64 2]) ?_ rfl ⟨rfl, H0.out.at'.below⟩
      simp [results, Tryd.results13, go_sem]
    | true =>
      have h1s : 1 ≤ S.size := by
        have h := Adr.at_lt (L := S.data.toList) (k := 0) (c := 60) (by rw [List.drop_zero]; exact a60)
        rw [HZ.out]
        exact h
      have h1e : Adr.rtI S.size (some []) = 1 := by
        unfold Adr.rtI
        rw [show S.size = 1 by omega]
        rfl
      have hd1 : S.data.toList.drop 1 = [] := drop_end S 1 (by omega)
      have CL := Lib.hid (fun (W : World) (h : Bz m w w.heap.size [] [] W) => bz_call h (localAt_any S 1 W h1s hs))
      rw [hd1, show Adr.rdL [] = none by kernel_rfl] at CL
      rw [hd1, show Adr.rdR [] = some [] from rfl, h1e] at CR
      rw [List.drop_zero, a60] at I60
      clear HYES HEX hz2 HNO hR HP a60 h1e hd1
      unfold lcV at CL
      go_enter Tryd.func13, Tryd.ntmps13
      obtain ⟨⟨c1, f1⟩, c2, f2⟩ := bz_cells H0.out
      go_wp2_with fail
      refine (I60.out _).mono ?_
      rintro e w' ⟨rfl, rfl⟩
      go_wp2_with fail
      refine (CR.out _ h1s H0.out).mono ?_
      rintro e w1 ⟨rfl, h1⟩
      have H1 := Lib.hid h1
      clear h1 c1 f1 c2 f2
      go_wp2_with fail
      refine (CL.out _ H1.out).mono ?_
      rintro e w2 ⟨rfl, h2⟩
      have H2 := Lib.hid h2
      clear h2
      have H9 := Lib.hid (bz_put H2.out [] [])
      obtain ⟨⟨c1, f1⟩, c2, f2⟩ := bz_cells H2.out
      obtain ⟨⟨c5, f5⟩, c6, f6⟩ := bz_cells H9.out
      go_wp2_with fail
      rw [HV.out]
      refine bodyPost_ret (v := .tuple #[.agg #[.string ⟨#[]⟩, .string ⟨#[]⟩], .string ⟨#[]⟩, .int .i64 2]) ?_ rfl ⟨rfl, H9.out.at'.below⟩
      simp [results, Tryd.results13, go_sem, c5, c6]
  case pos =>
    have q2z : (2 : Int) ≤ (S.size : Int) := by omega
    have e1 := Adr.two_beq S.data.toList (by rw [← HZ.out]; exact q2)
    rw [← hz2] at e1
    have h1s : 1 ≤ S.size := by omega
    have htl : S.data.toList.tail = S.data.toList.drop 1 := by rw [List.drop_one]
    cases a60 : Adr.atB 60 S.data.toList with
    | false =>
      have HV := Lib.hid (HNO.out (Adr.rdP_not a60))
      rw [List.drop_zero, a60] at I60
      rw [a60, Bool.false_and] at e1
      clear HYES HEX CR htl a60 hz2 HNO hR
      go_enter Tryd.func13, Tryd.ntmps13
      obtain ⟨⟨c1, f1⟩, c2, f2⟩ := bz_cells H0.out
      go_wp2_with fail
      refine (I60.out _).mono ?_
      rintro e w' ⟨rfl, rfl⟩
      go_wp2_with fail
      rw [HV.out]
      refine bodyPost_ret (v := .tuple #[.agg #[.string ⟨#[]⟩, .string ⟨#[]⟩], .string ⟨#[]⟩, .int .i64 2]) ?_ rfl ⟨rfl, H0.out.at'.below⟩
      simp [results, Tryd.results13, go_sem]
    | true =>
      cases a62 : Adr.atB 62 S.data.toList.tail with
      | true =>
        have HV := Lib.hid (HYES.out _ _ _ (Adr.rdP_box a60 a62))
        rw [htl, List.tail_drop] at HV
        rw [a60, a62, Bool.true_and] at e1
        have hx2 := HEX.out 2
        clear HYES HEX CR htl a60 a62 hz2 HNO hR I60
        obtain ⟨⟨c1, f1⟩, c2, f2⟩ := bz_cells H0.out
        go_enter Tryd.func13, Tryd.ntmps13
        go_wp2_with fail
        go_big_region
        go_wp2_with fail
        rw [HV.out]
        refine bodyPost_ret (v := .tuple #[.agg #[.string ⟨#[]⟩, .string ⟨#[]⟩], .string ⟨(S.data.toList.drop 2).toArray⟩, .int .i64 0]) ?_ rfl ⟨rfl, H0.out.at'.below.drew⟩
        simp [results, Tryd.results13, go_sem]
      | false =>
        have HPG : Hid (Adr.rdP S.data.toList = (Adr.rdR (S.data.toList.drop 1)).bind Adr.rdP2) := by
          show _ = _
          rw [← htl]
          exact Adr.rdP_go a60 a62
        rw [List.drop_zero, a60] at I60
        rw [a62, Bool.and_false] at e1
        clear a60 a62 htl hz2
        cases hr : Adr.rdR (S.data.toList.drop 1) with
        | none =>
          rw [hr] at CR
          have HV := Lib.hid (HNO.out (by rw [HPG.out, hr]; rfl))
          clear HYES HNO HPG HEX hR hr
          unfold Adr.rtI at CR
          go_enter Tryd.func13, Tryd.ntmps13
          obtain ⟨⟨c1, f1⟩, c2, f2⟩ := bz_cells H0.out
          go_wp2_with fail
          refine (I60.out _).mono ?_
          rintro e w' ⟨rfl, rfl⟩
          go_wp2_with fail
          refine (CR.out _ h1s H0.out).mono ?_
          rintro e w1 ⟨rfl, h1⟩
          have H1 := Lib.hid h1
          clear h1 c1 f1 c2 f2
          have H9 := Lib.hid (bz_put H1.out [] [])
          obtain ⟨⟨c1, f1⟩, c2, f2⟩ := bz_cells H1.out
          obtain ⟨⟨c5, f5⟩, c6, f6⟩ := bz_cells H9.out
          go_wp2_with fail
          rw [HV.out]
          refine bodyPost_ret (v := .tuple #[.agg #[.string ⟨#[]⟩, .string ⟨#[]⟩], .string ⟨#[]⟩, .int .i64 2]) ?_ rfl ⟨rfl, H9.out.at'.below⟩
          simp [results, Tryd.results13, go_sem, c5, c6]
        | some V =>
          rw [hr] at CR HPG
          have hsuf : V <:+ S.data.toList := (Adr.rdR_suf hr).trans (List.drop_suffix _ _)
          obtain ⟨i, hi⟩ : ∃ i, i = S.size - V.length := ⟨_, rfl⟩
          have hV : S.data.toList.drop i = V := by rw [hi, HZ.out]; exact Adr.suf_drop hsuf
          have his : i ≤ S.size := by omega
          replace CR : Hid (∀ (W : World) (h1 : 1 ≤ S.size) (h : Bz m w w.heap.size [] [] W), Calls Tryd.prog 32 #[.string S, .int .i64 1] W fun e w' => e = .returned (.int .i64 i) ∧ Bz m w w.heap.size [] [] w') := by
            rw [hi]; exact CR
          have CL := Lib.hid (fun (W : World) (h : Bz m w w.heap.size [] [] W) => bz_call h (localAt_any S i W his hs))
          rw [hV] at CL
          clear hi hr hsuf
          cases hl : Adr.rdL V with
          | none =>
            rw [hl] at CL
            have HV := Lib.hid (HNO.out (by rw [HPG.out, Option.bind_some]; unfold Adr.rdP2; rw [hl]; rfl))
            clear HYES HNO HPG HEX hR hl hV
            unfold lcV at CL
            go_enter Tryd.func13, Tryd.ntmps13
            obtain ⟨⟨c1, f1⟩, c2, f2⟩ := bz_cells H0.out
            go_wp2_with fail
            refine (I60.out _).mono ?_
            rintro e w' ⟨rfl, rfl⟩
            go_wp2_with fail
            refine (CR.out _ h1s H0.out).mono ?_
            rintro e w1 ⟨rfl, h1⟩
            have H1 := Lib.hid h1
            clear h1 c1 f1 c2 f2
            go_wp2_with fail
            refine (CL.out _ H1.out).mono ?_
            rintro e w2 ⟨rfl, h2⟩
            have H2 := Lib.hid h2
            clear h2
            have H9 := Lib.hid (bz_put H2.out [] [])
            obtain ⟨⟨c1, f1⟩, c2, f2⟩ := bz_cells H2.out
            obtain ⟨⟨c5, f5⟩, c6, f6⟩ := bz_cells H9.out
            go_wp2_with fail
            rw [HV.out]
            refine bodyPost_ret (v := .tuple #[.agg #[.string ⟨#[]⟩, .string ⟨#[]⟩], .string ⟨#[]⟩, .int .i64 2]) ?_ rfl ⟨rfl, H9.out.at'.below⟩
            simp [results, Tryd.results13, go_sem, c5, c6]
          | some p =>
            obtain ⟨l, Wd⟩ := p
            rw [hl] at CL
            have hsuf : Wd <:+ S.data.toList := (Adr.rdL_suf hl).trans (by rw [← hV]; exact List.drop_suffix _ _)
            obtain ⟨k, hk⟩ : ∃ k, k = S.size - Wd.length := ⟨_, rfl⟩
            have hW : S.data.toList.drop k = Wd := by rw [hk, HZ.out]; exact Adr.suf_drop hsuf
            have hks : k ≤ S.size := by omega
            replace CL : Hid (∀ (W : World) (h : Bz m w w.heap.size [] [] W), Calls Tryd.prog 33 #[.string S, .int .i64 i] W fun e w' => e = .returned (.tuple #[.string ⟨l.toArray⟩, .int .i64 k]) ∧ Bz m w w.heap.size [] [] w') := by
              rw [hk]; exact CL
            have I64 := Lib.hid (fun (W : World) => is_any S k 64 64 rfl W (by omega))
            rw [hW] at I64
            clear hk hsuf hV
            cases h64 : Adr.atB 64 Wd with
            | false =>
              rw [h64] at I64
              have HV := Lib.hid (HNO.out (by rw [HPG.out, Option.bind_some]; exact Adr.rdP2_at hl h64))
              clear HYES HNO HPG HEX hR hl h64 hW
              go_enter Tryd.func13, Tryd.ntmps13
              obtain ⟨⟨c1, f1⟩, c2, f2⟩ := bz_cells H0.out
              go_wp2_with fail
              refine (I60.out _).mono ?_
              rintro e w' ⟨rfl, rfl⟩
              go_wp2_with fail
              refine (CR.out _ h1s H0.out).mono ?_
              rintro e w1 ⟨rfl, h1⟩
              have H1 := Lib.hid h1
              clear h1 c1 f1 c2 f2
              go_wp2_with fail
              refine (CL.out _ H1.out).mono ?_
              rintro e w2 ⟨rfl, h2⟩
              have H2 := Lib.hid h2
              clear h2
              go_wp2_with fail
              refine (I64.out _).mono ?_
              rintro e w' ⟨rfl, rfl⟩
              have H9 := Lib.hid (bz_put H2.out [] [])
              obtain ⟨⟨c1, f1⟩, c2, f2⟩ := bz_cells H2.out
              obtain ⟨⟨c5, f5⟩, c6, f6⟩ := bz_cells H9.out
              go_wp2_with fail
              rw [HV.out]
              refine bodyPost_ret (v := .tuple #[.agg #[.string ⟨#[]⟩, .string ⟨#[]⟩], .string ⟨#[]⟩, .int .i64 2]) ?_ rfl ⟨rfl, H9.out.at'.below⟩
              simp [results, Tryd.results13, go_sem, c5, c6]
            | true =>
              rw [h64] at I64
              obtain ⟨k1, hk1⟩ : ∃ k1, k1 = k + 1 := ⟨_, rfl⟩
              obtain ⟨t, ht⟩ : ∃ t, t = (S.data.toList.drop k1).takeWhile Adr.inD := ⟨_, rfl⟩
              obtain ⟨n, hn⟩ : ∃ n, n = t.length := ⟨_, rfl⟩
              obtain ⟨k2, hk2⟩ : ∃ k2, k2 = k1 + n := ⟨_, rfl⟩
              obtain ⟨k3, hk3⟩ : ∃ k3, k3 = k2 + 1 := ⟨_, rfl⟩
              obtain ⟨k4, hk4⟩ : ∃ k4, k4 = k + 2 := ⟨_, rfl⟩
              have hlt : k < S.size := by rw [HZ.out]; exact Adr.at_lt (by rw [hW]; exact h64)
              have hnt : n = ((S.data.toList.drop k1).takeWhile Adr.inD).length := by rw [hn, ht]
              have hle : k2 ≤ S.size := by rw [hk2]; exact while_le S k1 n (by omega) hnt
              have htl : Wd.tail = S.data.toList.drop k1 := by rw [← hW, List.tail_drop, hk1]
              have hdu : (S.data.toList.drop k1).dropWhile Adr.inD = S.data.toList.drop k2 := by rw [hk2, hnt]; exact (Adr.while_at _ _).symm
              have hdt : (S.data.toList.drop k2).tail = S.data.toList.drop k3 := by rw [List.tail_drop, hk3]
              have CD := Lib.hid (fun W => domAt_any S k1 W (by omega) hs)
              rw [← hnt] at CD
              have HX := ext_while S k1 n hnt
              rw [← hk2, ← ht] at HX
              have CM := Lib.hid (fun (W : World) (h : Bz m w w.heap.size [] [] W) => bz_call h (rdomain_any ⟨t.toArray⟩ m W (by rw [size_mk, ← hn]; omega) h.at'.cell))
              rw [show (⟨t.toArray⟩ : ByteArray).data.toList = t from rfl] at CM
              have I62 := Lib.hid (fun (W : World) => is_any S k2 62 62 rfl W (by omega))
              have hx3 := HEX.out k3
              have zd := Adr.rdP2_dom hl h64
              have ze := Adr.rdP2_end hl h64
              have zy := Adr.rdP2_yes hl h64
              rw [htl, ← ht] at zd
              rw [htl, hdu] at ze
              rw [htl, hdu, ← ht, hdt] at zy
              have hgt : Adr.atB 62 (S.data.toList.drop k2) = true → k2 < S.size := fun h => by rw [HZ.out]; exact Adr.at_lt h
              have w1 : IntKind.i64.wrap ((k : Int) + 1) = (k1 : Int) := by rw [IntKind.wrap_i64]; omega
              have w2 : IntKind.i64.wrap ((k1 : Int) + (n : Int)) = (k2 : Int) := by rw [IntKind.wrap_i64]; omega
              have w3 : IntKind.i64.wrap ((k : Int) + 2) = (k4 : Int) := by rw [IntKind.wrap_i64]; omega
              have w4 : IntKind.i64.wrap ((k4 : Int) + (n : Int)) = (k3 : Int) := by rw [IntKind.wrap_i64]; omega
              have v1 : (k1 : Int) ≤ (k2 : Int) := by omega
              have v2 : (k2 : Int) ≤ (S.size : Int) := by omega
              have v3 : (0 : Int) ≤ (k1 : Int) := by omega
              have v5 : k2 < S.size → (k3 : Int) ≤ (S.size : Int) := fun h => by omega
              generalize hg62 : Adr.atB 62 (S.data.toList.drop k2) = g62 at *
              clear hg62 htl hdu hdt ht hn hnt hk1 hk2 hk3 hk4 hl h64 hW
              cases hd : Adr.domB t with
              | false =>
                rw [dom_no hd] at CM
                have HV := Lib.hid (HNO.out (by rw [HPG.out, Option.bind_some]; exact zd hd))
                clear HYES HNO HPG HEX hR hd zd ze zy hgt v5 hx3
                go_enter Tryd.func13, Tryd.ntmps13
                obtain ⟨⟨c1, f1⟩, c2, f2⟩ := bz_cells H0.out
                go_wp2_with fail
                refine (I60.out _).mono ?_
                rintro e w' ⟨rfl, rfl⟩
                go_wp2_with fail
                refine (CR.out _ h1s H0.out).mono ?_
                rintro e w1 ⟨rfl, h1⟩
                have H1 := Lib.hid h1
                clear h1 c1 f1 c2 f2
                go_wp2_with fail
                refine (CL.out _ H1.out).mono ?_
                rintro e w2 ⟨rfl, h2⟩
                have H2 := Lib.hid h2
                clear h2
                go_wp2_with fail
                refine (I64.out _).mono ?_
                rintro e w' ⟨rfl, rfl⟩
                go_wp2_with fail
                refine (CD.out _).mono ?_
                rintro e w' ⟨rfl, rfl⟩
                go_wp2_with fail
                refine (CM.out _ H2.out).mono ?_
                rintro e w3 ⟨rfl, h3⟩
                have H3 := Lib.hid h3
                clear h3
                have H9 := Lib.hid (bz_put H3.out [] [])
                obtain ⟨⟨c1, f1⟩, c2, f2⟩ := bz_cells H3.out
                obtain ⟨⟨c5, f5⟩, c6, f6⟩ := bz_cells H9.out
                go_wp2_with fail
                rw [HV.out]
                refine bodyPost_ret (v := .tuple #[.agg #[.string ⟨#[]⟩, .string ⟨#[]⟩], .string ⟨#[]⟩, .int .i64 2]) ?_ rfl ⟨rfl, H9.out.at'.below⟩
                simp [results, Tryd.results13, go_sem, c5, c6]
              | true =>
                rw [dom_yes hd] at CM
                unfold sV at CM
                cases g62 with
                | false =>
                  have HV := Lib.hid (HNO.out (by rw [HPG.out, Option.bind_some]; exact ze rfl))
                  clear HYES HNO HPG HEX hR hd zd ze zy hgt v5 hx3
                  go_enter Tryd.func13, Tryd.ntmps13
                  obtain ⟨⟨c1, f1⟩, c2, f2⟩ := bz_cells H0.out
                  go_wp2_with fail
                  refine (I60.out _).mono ?_
                  rintro e w' ⟨rfl, rfl⟩
                  go_wp2_with fail
                  refine (CR.out _ h1s H0.out).mono ?_
                  rintro e w1 ⟨rfl, h1⟩
                  have H1 := Lib.hid h1
                  clear h1 c1 f1 c2 f2
                  go_wp2_with fail
                  refine (CL.out _ H1.out).mono ?_
                  rintro e w2 ⟨rfl, h2⟩
                  have H2 := Lib.hid h2
                  clear h2
                  go_wp2_with fail
                  refine (I64.out _).mono ?_
                  rintro e w' ⟨rfl, rfl⟩
                  go_wp2_with fail
                  refine (CD.out _).mono ?_
                  rintro e w' ⟨rfl, rfl⟩
                  go_wp2_with fail
                  refine (CM.out _ H2.out).mono ?_
                  rintro e w3 ⟨rfl, h3⟩
                  have H3 := Lib.hid h3
                  clear h3
                  go_wp2_with fail
                  refine (I62.out _).mono ?_
                  rintro e w' ⟨rfl, rfl⟩
                  have H9 := Lib.hid (bz_put H3.out [] [])
                  obtain ⟨⟨c1, f1⟩, c2, f2⟩ := bz_cells H3.out
                  obtain ⟨⟨c5, f5⟩, c6, f6⟩ := bz_cells H9.out
                  go_wp2_with fail
                  rw [HV.out]
                  refine bodyPost_ret (v := .tuple #[.agg #[.string ⟨#[]⟩, .string ⟨#[]⟩], .string ⟨#[]⟩, .int .i64 2]) ?_ rfl ⟨rfl, H9.out.at'.below⟩
                  simp [results, Tryd.results13, go_sem, c5, c6]
                | true =>
                  have HV := Lib.hid (HYES.out _ _ _ (by rw [HPG.out, Option.bind_some]; exact zy hd rfl))
                  have v6 := v5 (hgt rfl)
                  have v7 : (0 : Int) ≤ (k3 : Int) := by omega
                  generalize Adr.sml t = sd at *
                  clear HYES HNO HPG HEX hR hd zd ze zy hgt v5
                  go_enter Tryd.func13, Tryd.ntmps13
                  obtain ⟨⟨c1, f1⟩, c2, f2⟩ := bz_cells H0.out
                  go_wp2_with fail
                  refine (I60.out _).mono ?_
                  rintro e w' ⟨rfl, rfl⟩
                  go_wp2_with fail
                  refine (CR.out _ h1s H0.out).mono ?_
                  rintro e w1 ⟨rfl, h1⟩
                  have H1 := Lib.hid h1
                  clear h1 c1 f1 c2 f2
                  go_wp2_with fail
                  refine (CL.out _ H1.out).mono ?_
                  rintro e w2 ⟨rfl, h2⟩
                  have H2 := Lib.hid h2
                  clear h2
                  go_wp2_with fail
                  refine (I64.out _).mono ?_
                  rintro e w' ⟨rfl, rfl⟩
                  go_wp2_with fail
                  refine (CD.out _).mono ?_
                  rintro e w' ⟨rfl, rfl⟩
                  go_wp2_with fail
                  refine (CM.out _ H2.out).mono ?_
                  rintro e w3 ⟨rfl, h3⟩
                  have H3 := Lib.hid h3
                  clear h3
                  go_wp2_with fail
                  refine (I62.out _).mono ?_
                  rintro e w' ⟨rfl, rfl⟩
                  have H9 := Lib.hid (bz_put H3.out l sd)
                  obtain ⟨⟨c1, f1⟩, c2, f2⟩ := bz_cells H3.out
                  obtain ⟨⟨c5, f5⟩, c6, f6⟩ := bz_cells H9.out
                  go_wp2_with fail
                  go_big_region
                  go_wp2_with fail
                  rw [HV.out]
                  refine bodyPost_ret (v := .tuple #[.agg #[.string ⟨l.toArray⟩, .string ⟨sd.toArray⟩], .string ⟨(S.data.toList.drop k3).toArray⟩, .int .i64 0]) ?_ rfl ⟨rfl, H9.out.at'.below.drew⟩
                  simp [results, Tryd.results13, go_sem, c5, c6]
end Go.Proofs.YtifheakepegjcaaDoor
