/-
  PROVED HERE: what path of the program's reader of paths computes.
-/
import Derived.Test.YtkchebbolldmbaaGreatDoorRdL
set_option linter.unusedVariables false
namespace Adr
/-- Behind the mailbox's @: its domain and the sign at the end. -/
def rdP3 (l T : List UInt8) : Option (List UInt8 × List UInt8 × List UInt8) := (rdD T).bind fun p => (tk 62 p.2).bind fun r => some (l, p.1, r)
/-- Behind a route. -/
def rdP2 (T : List UInt8) : Option (List UInt8 × List UInt8 × List UInt8) := (rdL T).bind fun p => (tk 64 p.2).bind fun r => rdP3 p.1 r
/-- Behind the sign at a path's start. -/
def rdP1 (T : List UInt8) : Option (List UInt8 × List UInt8 × List UInt8) := if atB 62 T = true then some ([], [], T.tail) else (rdR T).bind rdP2
/-- A path that stands next. -/
def rdP (T : List UInt8) : Option (List UInt8 × List UInt8 × List UInt8) := (tk 60 T).bind rdP1
theorem rdR_len {T r : List UInt8} (h : rdR T = some r) : r.length ≤ T.length := by
  have : ∀ (f : Nat) (T r : List UInt8), rl f T = some r → r.length ≤ T.length := by
    intro f
    induction f with
    | zero => intro T r h; cases h
    | succ f ih =>
      intro T r h
      rw [rl] at h
      cases h1 : tk 64 T with
      | none => rw [h1] at h; cases h
      | some u =>
        rw [h1, Option.bind_some] at h
        have hu : u.length ≤ T.length := by
          unfold tk at h1
          split at h1
          · cases h1; simp
          · cases h1
        cases h2 : rdD u with
        | none => rw [h2] at h; cases h
        | some p =>
          obtain ⟨x, v⟩ := p
          rw [h2, Option.bind_some] at h
          have hv := rdD_len h2
          simp only at h
          split at h
          · have := ih _ _ h
            simp only [List.length_tail] at this
            omega
          · unfold tk at h
            split at h
            · cases h; simp only [List.length_tail]; omega
            · cases h
  unfold rdR at h
  split at h
  · exact this _ _ _ h
  · cases h; exact Nat.le_refl _
theorem qlp_len : ∀ (T acc : List UInt8) (p : List UInt8 × List UInt8), qlp T acc = some p → p.2.length ≤ T.length
  | [], acc, p, h => by simp [qlp] at h
  | x :: r, acc, p, h => by
    rw [qlp.eq_def] at h
    simp only at h
    split at h
    · cases h; simp
    · split at h
      · cases r with
        | nil => cases h
        | cons c r' => have := qlp_len r' _ p h; simp only [List.length_cons]; omega
      · have := qlp_len r _ p h; simp only [List.length_cons]; omega
theorem rdL_len {T d r : List UInt8} (h : rdL T = some (d, r)) : r.length ≤ T.length := by
  unfold rdL at h
  split at h
  · unfold rdQ at h
    split at h
    · cases h
    · rename_i hq
      split at h
      · cases h
        have := qlp_len _ _ _ hq
        simp only [List.length_tail] at this
        show r.length ≤ _
        omega
      · cases h
  · split at h
    · cases h; exact dropWhile_len _ _
    · cases h
end Adr
namespace Go.Proofs.YtkchebbolldmbaaGreatDoor
open Go.RowKit
variable {m : Int} {w wr : World} {b : Nat} {T U : List UInt8}
theorem Av.trans {w1 w2 : World} (h : Av b m w w1) (g : Av b m w1 w2) : Av b m w w2 :=
  ⟨g.os.trans h.os, g.tape.trans h.tape, g.output.trans h.output, Nat.le_trans h.size g.size, fun k hk hb => (g.block k (Nat.lt_of_lt_of_le hk h.size) hb).trans (h.block k hk hb), g.cell⟩
theorem rr_base (h : Rr m w b wr T) : Rr m wr b wr T := ⟨Av.refl h.at'.cell, h.blk, h.hb⟩
theorem rr_alloc (h : Rr m w b wr T) (o : Obj) : Rr m w b (wr.alloc o) T := rr_grown h ((Below.refl _ _).alloc (Nat.le_refl _) o)
theorem rr_put (h : Rr m w b wr T) {p : Addr} (hp : w.heap.size ≤ p.block) (hz : 3 < p.block) (hn : p.block ≠ b) (u : Value) : Rr m w b (wr.setCell p u) T := by
  have hc : (wr.setCell p u).cell? ⟨3, 0, none⟩ = wr.cell? ⟨3, 0, none⟩ :=
    World.cell?_of_block (w := wr) (Below.heap_setCell _ _ _ 3 (Nat.ne_of_lt hz))
  exact ⟨⟨h.at'.os, h.at'.tape, h.at'.output, by have := h.at'.size; simpa [World.setCell] using this, fun k hk hb => (Below.heap_setCell _ _ _ _ (by omega)).trans (h.at'.block k hk hb), by rw [hc]; exact h.at'.cell⟩, (Below.heap_setCell _ _ _ _ (Ne.symm hn)).trans h.blk, h.hb⟩
/-- What the world keeps in a walk through path: the reader, and two strings at a block of the call's own. -/
structure Pk (m : Int) (w : World) (b A : Nat) (x y : List UInt8) (W : World) (T : List UInt8) : Prop where
  rr : Rr m w b W T
  kp : W.heap[A]? = some (.cells #[.string ⟨x.toArray⟩, .string ⟨y.toArray⟩] 54 (0, 0))
  ws : w.heap.size ≤ A
  ne : A ≠ b
  pos : 3 < W.heap.size
variable {A : Nat} {x y : List UInt8} {W W1 : World}
theorem pk_lt (h : Pk m w b A x y W T) : A < W.heap.size := (Array.getElem?_eq_some_iff.1 h.kp).1
theorem pk_next (h : Pk m w b A x y W T) (g : Rr m W b W1 U) : Pk m w b A x y W1 U :=
  ⟨⟨h.rr.at'.trans g.at', g.blk, g.hb⟩, (g.at'.block A (pk_lt h) h.ne).trans h.kp, h.ws, h.ne, Nat.lt_of_lt_of_le h.pos g.at'.size⟩
theorem pk_end (h : Pk m w b A x y W T) (g : Av b m W W1) : Av b m w W1 := h.rr.at'.trans g
theorem pk_start (h : Rr m w b wr T) : Pk m w b wr.heap.size [] [] (wr.alloc (.cells #[.string ⟨#[]⟩, .string ⟨#[]⟩] 54)) T := by
  refine ⟨rr_alloc h _, ?_, h.at'.size, fun e => Nat.lt_irrefl _ (e ▸ rr_lt h), by have := rr_lt h; have := h.hb; simp only [World.size_alloc]; omega⟩
  show (wr.heap.push _)[wr.heap.size]? = _
  rw [Array.getElem?_push_size]
theorem pk_cells (h : Pk m w b A x y W T) : (W.cell? ⟨A, 0, none⟩ = some (.string ⟨x.toArray⟩) ∧ W.frozen? ⟨A, 0, none⟩ = false) ∧ W.cell? ⟨A, 1, none⟩ = some (.string ⟨y.toArray⟩) ∧ W.frozen? ⟨A, 1, none⟩ = false :=
  ⟨⟨by rw [Lib.cell_of_heap h.kp]; rfl, Lib.frozen_of_heap h.kp 0⟩, by rw [Lib.cell_of_heap h.kp]; rfl, Lib.frozen_of_heap h.kp 1⟩
theorem pk_new (h : Rr m w b wr T) (x y : List UInt8) : Pk m w b wr.heap.size x y (wr.alloc (.cells #[.string ⟨x.toArray⟩, .string ⟨y.toArray⟩] 54)) T := by
  refine ⟨rr_alloc h _, ?_, h.at'.size, fun e => Nat.lt_irrefl _ (e ▸ rr_lt h), by have := rr_lt h; have := h.hb; simp only [World.size_alloc]; omega⟩
  show (wr.heap.push _)[wr.heap.size]? = _
  rw [Array.getElem?_push_size]
theorem pk_put (h : Pk m w b A x y W T) (h0 : 3 < w.heap.size) (x' y' : List UInt8) : Pk m w b A x' y' ((W.setCell ⟨A, 0, none⟩ (.string ⟨x'.toArray⟩)).setCell ⟨A, 1, none⟩ (.string ⟨y'.toArray⟩)) T :=
  have hA : 3 < A := Nat.lt_of_lt_of_le h0 h.ws
  ⟨rr_put (rr_put h.rr h.ws hA h.ne _) h.ws hA h.ne _, Joins.block_setCell (i := 1) (Joins.block_setCell (i := 0) h.kp _) _, h.ws, h.ne, by have := h.pos; simpa [World.setCell] using this⟩
theorem pk_put1 (h : Pk m w b A x y W T) (h0 : 3 < w.heap.size) (y' : List UInt8) : Pk m w b A x y' (W.setCell ⟨A, 1, none⟩ (.string ⟨y'.toArray⟩)) T :=
  have hA : 3 < A := Nat.lt_of_lt_of_le h0 h.ws
  ⟨rr_put h.rr h.ws hA h.ne _, Joins.block_setCell (i := 1) h.kp _, h.ws, h.ne, by have := h.pos; simpa [World.setCell] using this⟩
theorem pk_alloc (h : Pk m w b A x y W T) (o : Obj) : Pk m w b A x y (W.alloc o) T := pk_next h (rr_alloc (rr_base h.rr) o)
theorem pk_other (h : Pk m w b A x y W T) {C k : Nat} (hA : A < C) (hz : 3 < C) (hb : C ≠ b) {u : Value} : Pk m w b A x y (W.setCell ⟨C, k, none⟩ u) T :=
  ⟨rr_put h.rr (Nat.le_of_lt (Nat.lt_of_le_of_lt h.ws hA)) hz hb u, (Below.heap_setCell _ _ _ _ (Nat.ne_of_lt hA)).trans h.kp, h.ws, h.ne, by have := h.pos; simpa [World.setCell] using this⟩
theorem info25 : (Tryz.prog.info? 54).map (·.size) = some 2 := by kernel_rfl
/-- How path ends. -/
def Rp (m : Int) (w : World) (b : Nat) (o : Option (List UInt8 × List UInt8 × List UInt8)) (e : Ending) (w' : World) : Prop :=
  match o with
  | none => e = .panicked pnc ∧ Av b m w w'
  | some (l, d, r) => e = .returned (bxV l d) ∧ Rr m w b w' r
theorem rp_no {o : Option (List UInt8 × List UInt8 × List UInt8)} {w1 : World} (h : o = none) (g : Av b m w w1) : Rp m w b o (.panicked pnc) w1 := by subst h; exact ⟨rfl, g⟩
theorem rp_yes {o : Option (List UInt8 × List UInt8 × List UInt8)} {l d r : List UInt8} {w1 : World} {v : Value} (h : o = some (l, d, r)) (hv : v = bxV l d) (g : Rr m w b w1 r) : Rp m w b o (.returned v) w1 := by subst h hv; exact ⟨rfl, g⟩

set_option maxRecDepth 100000 in
set_option maxHeartbeats 8000000 in
theorem rdP_any (h0 : 3 < w.heap.size) (h : Rr m w b wr T) (hs : T.length < 4294967281) : Calls Tryz.prog 85 #[.pointer (some ⟨b, 0, none⟩)] wr fun e w' => Rp m w b (Adr.rdP T) e w' := by
  have HP := Lib.hid (pk_start h)
  have HN0 : Hid (b ≠ wr.heap.size) := fun e => Nat.lt_irrefl _ (e ▸ rr_lt h)
  unfold Adr.rdP
  clear h
  cases h60 : Adr.atB 60 T with
  | false =>
    have HN : Hid ((Adr.tk 60 T).bind Adr.rdP1 = none) := by show _ = _; rw [Adr.tk_no h60]; rfl
    have HTK := Lib.hid (fun (W : World) (h : Rr m W b W T) => take_any (Nat.lt_trans h.hb (rr_lt h)) h 60 60 rfl false h60)
    clear h60
    go_enter Tryz.func85, Tryz.ntmps85
    go_wp2_with fail
    refine (HTK.out _ (rr_base HP.out.rr)).mono ?_
    rintro e w1 ⟨rfl, h1⟩
    exact ⟨rfl, rp_no HN.out (pk_end HP.out h1)⟩
  | true =>
    rw [Adr.tk_yes h60, Option.bind_some]
    have hl1 : T.tail.length ≤ T.length := by simp
    have HTK := Lib.hid (fun (W : World) (h : Rr m W b W T) => take_any (Nat.lt_trans h.hb (rr_lt h)) h 60 60 rfl true h60)
    clear h60
    generalize T.tail = T1 at *
    unfold Adr.rdP1
    cases h62 : Adr.atB 62 T1 with
    | true =>
      rw [if_pos rfl]
      have HA := Lib.hid (fun (W : World) (h : Rr m W b W T1) => at_c h 62 62 true rfl h62)
      have HT2 := Lib.hid (fun (W : World) (h : Rr m W b W T1) => take_any (Nat.lt_trans h.hb (rr_lt h)) h 62 62 rfl true h62)
      clear h62
      go_enter Tryz.func85, Tryz.ntmps85
      go_wp2_with fail
      refine (HTK.out _ (rr_base HP.out.rr)).mono ?_
      rintro e w1 ⟨rfl, h1⟩
      have H1 := Lib.hid (pk_next HP.out h1)
      clear h1
      go_wp2_with fail
      refine (HA.out _ (rr_base H1.out.rr)).mono ?_
      rintro e w' ⟨rfl, rfl⟩
      go_wp2_with fail
      refine (HT2.out _ (rr_base H1.out.rr)).mono ?_
      rintro e w2 ⟨rfl, h2⟩
      have H2 := Lib.hid (pk_next H1.out h2)
      clear h2
      obtain ⟨⟨c1, f1⟩, c2, f2⟩ := pk_cells H2.out
      go_wp2_with fail
      exact bodyPost_ret (results_cell_row rfl _ _ wr.heap.size 54 _ (0, 0) _ rfl (pk_put H2.out h0 [] []).kp Tryz.underlying54 rfl info25) rfl (rp_yes rfl rfl (pk_put H2.out h0 [] []).rr)
    | false =>
      rw [if_neg (by decide)]
      have HA := Lib.hid (fun (W : World) (h : Rr m W b W T1) => at_c h 62 62 false rfl h62)
      clear h62
      have HR := Lib.hid (fun (W : World) (h : Rr m W b W T1) => rdR_any (Nat.lt_trans h.hb (rr_lt h)) h (by omega))
      cases hr : Adr.rdR T1 with
      | none =>
        rw [hr] at HR
        clear hr
        have HN : Hid (Option.bind none Adr.rdP2 = none) := rfl
        go_enter Tryz.func85, Tryz.ntmps85
        go_wp2_with fail
        refine (HTK.out _ (rr_base HP.out.rr)).mono ?_
        rintro e w1 ⟨rfl, h1⟩
        have H1 := Lib.hid (pk_next HP.out h1)
        clear h1
        go_wp2_with fail
        refine (HA.out _ (rr_base H1.out.rr)).mono ?_
        rintro e w' ⟨rfl, rfl⟩
        go_wp2_with fail
        refine (HR.out _ (rr_base H1.out.rr)).mono ?_
        rintro e w2 ⟨rfl, h2⟩
        exact ⟨rfl, rp_no HN.out (pk_end H1.out h2)⟩
      | some T2 =>
        rw [hr] at HR
        have hl2 := Adr.rdR_len hr
        clear hr
        rw [Option.bind_some]
        unfold Adr.rdP2
        have HL := Lib.hid (fun (W : World) (h : Rr m W b W T2) => rdL_any (Nat.lt_trans h.hb (rr_lt h)) h (by omega))
        cases hq : Adr.rdL T2 with
        | none =>
          rw [hq] at HL
          clear hq
          have HN : Hid (Option.bind (none : Option (List UInt8 × List UInt8)) (fun p => (Adr.tk 64 p.2).bind fun r => Adr.rdP3 p.1 r) = none) := rfl
          go_enter Tryz.func85, Tryz.ntmps85
          go_wp2_with fail
          refine (HTK.out _ (rr_base HP.out.rr)).mono ?_
          rintro e w1 ⟨rfl, h1⟩
          have H1 := Lib.hid (pk_next HP.out h1)
          clear h1
          go_wp2_with fail
          refine (HA.out _ (rr_base H1.out.rr)).mono ?_
          rintro e w' ⟨rfl, rfl⟩
          go_wp2_with fail
          refine (HR.out _ (rr_base H1.out.rr)).mono ?_
          rintro e w2 ⟨rfl, h2⟩
          have H2 := Lib.hid (pk_next H1.out h2)
          clear h2
          go_wp2_with fail
          refine (HL.out _ (rr_base H2.out.rr)).mono ?_
          rintro e w3 ⟨rfl, h3⟩
          exact ⟨rfl, rp_no HN.out (pk_end H2.out h3)⟩
        | some p =>
          obtain ⟨l, T3⟩ := p
          rw [hq] at HL
          replace HL : Hid (∀ W : World, Rr m W b W T2 → Calls Tryz.prog 103 #[.pointer (some ⟨b, 0, none⟩)] W fun e w' => e = .returned (.string ⟨l.toArray⟩) ∧ Rr m W b w' T3) := HL
          have hl3 := Adr.rdL_len hq
          clear hq
          simp only [Option.bind_some]
          cases h64 : Adr.atB 64 T3 with
          | false =>
            have HN : Hid ((Adr.tk 64 T3).bind (fun r => Adr.rdP3 l r) = none) := by show _ = _; rw [Adr.tk_no h64]; rfl
            have HT4 := Lib.hid (fun (W : World) (h : Rr m W b W T3) => take_any (Nat.lt_trans h.hb (rr_lt h)) h 64 64 rfl false h64)
            clear h64
            go_enter Tryz.func85, Tryz.ntmps85
            go_wp2_with fail
            refine (HTK.out _ (rr_base HP.out.rr)).mono ?_
            rintro e w1 ⟨rfl, h1⟩
            have H1 := Lib.hid (pk_next HP.out h1)
            clear h1
            go_wp2_with fail
            refine (HA.out _ (rr_base H1.out.rr)).mono ?_
            rintro e w' ⟨rfl, rfl⟩
            go_wp2_with fail
            refine (HR.out _ (rr_base H1.out.rr)).mono ?_
            rintro e w2 ⟨rfl, h2⟩
            have H2 := Lib.hid (pk_next H1.out h2)
            clear h2
            go_wp2_with fail
            refine (HL.out _ (rr_base H2.out.rr)).mono ?_
            rintro e w3 ⟨rfl, h3⟩
            have H3 := Lib.hid (pk_next H2.out h3)
            clear h3
            have K3 : Hid (Pk m w3 b w3.heap.size l [] (w3.alloc (.cells #[.string ⟨l.toArray⟩, .string ⟨#[]⟩] 54)) T3) := pk_new (rr_base H3.out.rr) l []
            have H4 : Hid (Pk m w b wr.heap.size [] [] (w3.alloc (.cells #[.string ⟨l.toArray⟩, .string ⟨#[]⟩] 54)) T3) := pk_alloc H3.out _
            go_wp2_with fail
            refine (HT4.out _ (rr_base H4.out.rr)).mono ?_
            rintro e w5 ⟨rfl, h5⟩
            exact ⟨rfl, rp_no HN.out (pk_end H4.out h5)⟩
          | true =>
            rw [Adr.tk_yes h64, Option.bind_some]
            have hl4 : T3.tail.length ≤ T3.length := by simp
            have HT4 := Lib.hid (fun (W : World) (h : Rr m W b W T3) => take_any (Nat.lt_trans h.hb (rr_lt h)) h 64 64 rfl true h64)
            clear h64
            generalize T3.tail = T4 at *
            unfold Adr.rdP3
            have HD := Lib.hid (fun (W : World) (h : Rr m W b W T4) => rdD_any (Nat.lt_trans h.hb (rr_lt h)) h (by omega))
            cases hd : Adr.rdD T4 with
            | none =>
              rw [hd] at HD
              clear hd
              have HN : Hid (Option.bind (none : Option (List UInt8 × List UInt8)) (fun p => (Adr.tk 62 p.2).bind fun r => some (l, p.1, r)) = none) := rfl
              go_enter Tryz.func85, Tryz.ntmps85
              go_wp2_with fail
              refine (HTK.out _ (rr_base HP.out.rr)).mono ?_
              rintro e w1 ⟨rfl, h1⟩
              have H1 := Lib.hid (pk_next HP.out h1)
              clear h1
              go_wp2_with fail
              refine (HA.out _ (rr_base H1.out.rr)).mono ?_
              rintro e w' ⟨rfl, rfl⟩
              go_wp2_with fail
              refine (HR.out _ (rr_base H1.out.rr)).mono ?_
              rintro e w2 ⟨rfl, h2⟩
              have H2 := Lib.hid (pk_next H1.out h2)
              clear h2
              go_wp2_with fail
              refine (HL.out _ (rr_base H2.out.rr)).mono ?_
              rintro e w3 ⟨rfl, h3⟩
              have H3 := Lib.hid (pk_next H2.out h3)
              clear h3
              have K3 : Hid (Pk m w3 b w3.heap.size l [] (w3.alloc (.cells #[.string ⟨l.toArray⟩, .string ⟨#[]⟩] 54)) T3) := pk_new (rr_base H3.out.rr) l []
              have H4 : Hid (Pk m w b wr.heap.size [] [] (w3.alloc (.cells #[.string ⟨l.toArray⟩, .string ⟨#[]⟩] 54)) T3) := pk_alloc H3.out _
              go_wp2_with fail
              refine (HT4.out _ (rr_base H4.out.rr)).mono ?_
              rintro e w5 ⟨rfl, h5⟩
              have H5 := Lib.hid (pk_next H4.out h5)
              have K5 := Lib.hid (pk_next K3.out h5)
              clear h5
              go_wp2_with fail
              refine (HD.out _ (rr_base H5.out.rr)).mono ?_
              rintro e w6 ⟨rfl, h6⟩
              exact ⟨rfl, rp_no HN.out (pk_end H5.out h6)⟩
            | some p =>
              obtain ⟨d, T5⟩ := p
              rw [hd] at HD
              replace HD : Hid (∀ W : World, Rr m W b W T4 → Calls Tryz.prog 104 #[.pointer (some ⟨b, 0, none⟩)] W fun e w' => e = .returned (.string ⟨d.toArray⟩) ∧ Rr m W b w' T5) := HD
              clear hd
              simp only [Option.bind_some]
              cases h62 : Adr.atB 62 T5 with
              | false =>
                have HN : Hid ((Adr.tk 62 T5).bind (fun r => some (l, d, r)) = none) := by show _ = _; rw [Adr.tk_no h62]; rfl
                have HT6 := Lib.hid (fun (W : World) (h : Rr m W b W T5) => take_any (Nat.lt_trans h.hb (rr_lt h)) h 62 62 rfl false h62)
                clear h62
                go_enter Tryz.func85, Tryz.ntmps85
                go_wp2_with fail
                refine (HTK.out _ (rr_base HP.out.rr)).mono ?_
                rintro e w1 ⟨rfl, h1⟩
                have H1 := Lib.hid (pk_next HP.out h1)
                clear h1
                go_wp2_with fail
                refine (HA.out _ (rr_base H1.out.rr)).mono ?_
                rintro e w' ⟨rfl, rfl⟩
                go_wp2_with fail
                refine (HR.out _ (rr_base H1.out.rr)).mono ?_
                rintro e w2 ⟨rfl, h2⟩
                have H2 := Lib.hid (pk_next H1.out h2)
                clear h2
                go_wp2_with fail
                refine (HL.out _ (rr_base H2.out.rr)).mono ?_
                rintro e w3 ⟨rfl, h3⟩
                have H3 := Lib.hid (pk_next H2.out h3)
                clear h3
                have K3 : Hid (Pk m w3 b w3.heap.size l [] (w3.alloc (.cells #[.string ⟨l.toArray⟩, .string ⟨#[]⟩] 54)) T3) := pk_new (rr_base H3.out.rr) l []
                have H4 : Hid (Pk m w b wr.heap.size [] [] (w3.alloc (.cells #[.string ⟨l.toArray⟩, .string ⟨#[]⟩] 54)) T3) := pk_alloc H3.out _
                go_wp2_with fail
                refine (HT4.out _ (rr_base H4.out.rr)).mono ?_
                rintro e w5 ⟨rfl, h5⟩
                have H5 := Lib.hid (pk_next H4.out h5)
                have K5 := Lib.hid (pk_next K3.out h5)
                clear h5
                go_wp2_with fail
                refine (HD.out _ (rr_base H5.out.rr)).mono ?_
                rintro e w6 ⟨rfl, h6⟩
                have H6 := Lib.hid (pk_next H5.out h6)
                have K6 := Lib.hid (pk_next K5.out h6)
                clear h6
                obtain ⟨_, c2, f2⟩ := pk_cells K6.out
                have K7 := Lib.hid (pk_put1 K6.out H3.out.pos d)
                have H7 : Hid (Pk m w b wr.heap.size [] [] (w6.setCell ⟨w3.heap.size, 1, none⟩ (.string ⟨d.toArray⟩)) T5) := pk_other H6.out (pk_lt H3.out) (Nat.lt_of_lt_of_le h0 (Nat.le_trans H6.out.ws (Nat.le_of_lt (pk_lt H3.out)))) K6.out.ne
                go_wp2_with fail
                refine (HT6.out _ (rr_base H7.out.rr)).mono ?_
                rintro e w8 ⟨rfl, h8⟩
                exact ⟨rfl, rp_no HN.out (pk_end H7.out h8)⟩
              | true =>
                have HN : Hid ((Adr.tk 62 T5).bind (fun r => some (l, d, r)) = some (l, d, T5.tail)) := by show _ = _; rw [Adr.tk_yes h62]; rfl
                have HT6 := Lib.hid (fun (W : World) (h : Rr m W b W T5) => take_any (Nat.lt_trans h.hb (rr_lt h)) h 62 62 rfl true h62)
                clear h62
                go_enter Tryz.func85, Tryz.ntmps85
                go_wp2_with fail
                refine (HTK.out _ (rr_base HP.out.rr)).mono ?_
                rintro e w1 ⟨rfl, h1⟩
                have H1 := Lib.hid (pk_next HP.out h1)
                clear h1
                go_wp2_with fail
                refine (HA.out _ (rr_base H1.out.rr)).mono ?_
                rintro e w' ⟨rfl, rfl⟩
                go_wp2_with fail
                refine (HR.out _ (rr_base H1.out.rr)).mono ?_
                rintro e w2 ⟨rfl, h2⟩
                have H2 := Lib.hid (pk_next H1.out h2)
                clear h2
                go_wp2_with fail
                refine (HL.out _ (rr_base H2.out.rr)).mono ?_
                rintro e w3 ⟨rfl, h3⟩
                have H3 := Lib.hid (pk_next H2.out h3)
                clear h3
                have K3 : Hid (Pk m w3 b w3.heap.size l [] (w3.alloc (.cells #[.string ⟨l.toArray⟩, .string ⟨#[]⟩] 54)) T3) := pk_new (rr_base H3.out.rr) l []
                have H4 : Hid (Pk m w b wr.heap.size [] [] (w3.alloc (.cells #[.string ⟨l.toArray⟩, .string ⟨#[]⟩] 54)) T3) := pk_alloc H3.out _
                go_wp2_with fail
                refine (HT4.out _ (rr_base H4.out.rr)).mono ?_
                rintro e w5 ⟨rfl, h5⟩
                have H5 := Lib.hid (pk_next H4.out h5)
                have K5 := Lib.hid (pk_next K3.out h5)
                clear h5
                go_wp2_with fail
                refine (HD.out _ (rr_base H5.out.rr)).mono ?_
                rintro e w6 ⟨rfl, h6⟩
                have H6 := Lib.hid (pk_next H5.out h6)
                have K6 := Lib.hid (pk_next K5.out h6)
                clear h6
                obtain ⟨_, c2, f2⟩ := pk_cells K6.out
                have K7 := Lib.hid (pk_put1 K6.out H3.out.pos d)
                have H7 : Hid (Pk m w b wr.heap.size [] [] (w6.setCell ⟨w3.heap.size, 1, none⟩ (.string ⟨d.toArray⟩)) T5) := pk_other H6.out (pk_lt H3.out) (Nat.lt_of_lt_of_le h0 (Nat.le_trans H6.out.ws (Nat.le_of_lt (pk_lt H3.out)))) K6.out.ne
                go_wp2_with fail
                refine (HT6.out _ (rr_base H7.out.rr)).mono ?_
                rintro e w8 ⟨rfl, h8⟩
                have H8 := Lib.hid (pk_next H7.out h8)
                have K8 := Lib.hid (pk_next K7.out h8)
                clear h8
                obtain ⟨⟨c3, f3⟩, c4, f4⟩ := pk_cells K8.out
                obtain ⟨⟨c5, f5⟩, c6, f6⟩ := pk_cells H8.out
                go_wp2_with fail
                exact bodyPost_ret (results_cell_row rfl _ _ wr.heap.size 54 _ (0, 0) _ rfl (pk_put H8.out h0 l d).kp Tryz.underlying54 rfl info25) rfl (rp_yes HN.out rfl (pk_put H8.out h0 l d).rr)
end Go.Proofs.YtkchebbolldmbaaGreatDoor
