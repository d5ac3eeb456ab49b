/-
  PROVED HERE: what the small methods of the program's reader of paths compute: must, at, take, run.
-/
import Derived.Test.YtkchebbolldmbaaGreatDoorRPath
import Derived.Lib.SmallJoins
set_option linter.unusedVariables false
namespace Adr
/-- Does a byte stand next? -/
def atB (c : UInt8) : List UInt8 → Bool
  | [] => false
  | x :: _ => x == c
/-- A byte of a domain's kind; of a local part's. -/
def inD (c : UInt8) : Bool := labB c || (c == 46)
def inL (c : UInt8) : Bool := atomB c || (c == 46)
theorem while_more (p : UInt8 → Bool) (t : List UInt8) (k : Nat) (hk : k < t.length) (h : (t.take k).all p = true) (h2 : p t[k] = true) : (t.take (k + 1)).all p = true := all_more p t k hk h h2
theorem while_stop (p : UInt8 → Bool) : ∀ (t : List UInt8) (k : Nat), k ≤ t.length → (t.take k).all p = true → (∀ h : k < t.length, p t[k] = false) → t.takeWhile p = t.take k ∧ t.dropWhile p = t.drop k
  | [], k, hk, _, _ => by simp
  | c :: t, 0, _, _, h => by
    have := h (by simp)
    simp only [List.getElem_cons_zero] at this
    simp [List.takeWhile, List.dropWhile, this]
  | c :: t, k + 1, hk, ha, h => by
    rw [List.take_succ_cons, List.all_cons, Bool.and_eq_true] at ha
    have ih := while_stop p t k (by simpa using hk) ha.2 (fun h' => h (Nat.succ_lt_succ h'))
    simp [List.takeWhile, List.dropWhile, ha.1, ih.1, ih.2]
end Adr
namespace Go.Proofs.YtkchebbolldmbaaGreatDoor
open Go.RowKit

/-- What is panicked with where there is no path. -/
def pnc : List PanicEntry := [{ v := .iface 103 (.agg #[]), recovered := false }]
set_option maxRecDepth 100000 in
theorem must_yes (w : World) : Calls Tryz.prog 115 #[.bool true] w fun e w' => e = .returned (.tuple #[]) ∧ w = w' := by
  go_enter Tryz.func115, Tryz.ntmps115
  go_wp2
  go_end0
  exact ⟨rfl, rfl⟩
set_option maxRecDepth 100000 in
theorem must_no (w : World) : Calls Tryz.prog 115 #[.bool false] w fun e w' => e = .panicked pnc ∧ w = w' := by
  go_enter Tryz.func115, Tryz.ntmps115
  go_wp2
  exact ⟨rfl, rfl, rfl⟩

/-- All but block b is as it was. -/
structure Av (b : Nat) (m : Int) (w w' : World) : Prop where
  os : w'.os = w.os
  tape : w'.tape = w.tape
  output : w'.output = w.output
  size : w.heap.size ≤ w'.heap.size
  block : ∀ k, k < w.heap.size → k ≠ b → w'.heap[k]? = w.heap[k]?
  cell : w'.cell? ⟨3, 0, none⟩ = some (.int .i64 m)
theorem Av.refl {b : Nat} {m : Int} {w : World} (hm : w.cell? ⟨3, 0, none⟩ = some (.int .i64 m)) : Av b m w w := ⟨rfl, rfl, rfl, Nat.le_refl _, fun _ _ _ => rfl, hm⟩
theorem Av.next {b : Nat} {m : Int} {w w1 w2 : World} (h : Av b m w w1) (g : Below w1.heap.size w1 w2) : Av b m w w2 :=
  ⟨g.os.trans h.os, g.tape.trans h.tape, g.output.trans h.output, Nat.le_trans h.size g.size, fun k hk hb => (g.block k (Nat.lt_of_lt_of_le hk h.size)).trans (h.block k hk hb), by rw [g.cell (World.block_lt_of_cell? _ _ h.cell)]; exact h.cell⟩
theorem Av.below {b : Nat} {m : Int} {w w' : World} (h : Av b m w w') {B : Nat} (hB : B ≤ b) (hw : B ≤ w.heap.size) : Below B w w' :=
  ⟨h.os, h.tape, h.output, h.size, fun k hk => h.block k (by omega) (by omega)⟩
/-- A reader at b that has the text T still ahead, behind the world w. -/
structure Rr (m : Int) (w : World) (b : Nat) (wr : World) (T : List UInt8) : Prop where
  at' : Av b m w wr
  blk : wr.heap[b]? = some (.cells #[.string ⟨T.toArray⟩] 107 (0, 0))
  hb : 3 < b
variable {m : Int} {w wr : World} {b : Nat} {T : List UInt8}
theorem rr_cell (h : Rr m w b wr T) : wr.cell? ⟨b, 0, none⟩ = some (.string ⟨T.toArray⟩) ∧ wr.frozen? ⟨b, 0, none⟩ = false :=
  ⟨by rw [Lib.cell_of_heap h.blk]; rfl, Lib.frozen_of_heap h.blk 0⟩
theorem rr_lt (h : Rr m w b wr T) : b < wr.heap.size := (Array.getElem?_eq_some_iff.1 h.blk).1
theorem rr_grown (h : Rr m w b wr T) {w' : World} (g : Below wr.heap.size wr w') : Rr m w b w' T := ⟨h.at'.next g, (g.block b (rr_lt h)).trans h.blk, h.hb⟩
theorem rr_set (h0 : 3 < w.heap.size) (h : Rr m w b wr T) (U : List UInt8) : Rr m w b (wr.setCell ⟨b, 0, none⟩ (.string ⟨U.toArray⟩)) U := by
  have hc : (wr.setCell ⟨b, 0, none⟩ (.string ⟨U.toArray⟩)).cell? ⟨3, 0, none⟩ = wr.cell? ⟨3, 0, none⟩ :=
    World.cell?_of_block (w := wr) (Below.heap_setCell _ _ _ 3 (Nat.ne_of_lt h.hb))
  exact ⟨⟨h.at'.os, h.at'.tape, h.at'.output, by have := h.at'.size; simpa [World.setCell] using this, fun k hk hb => (Below.heap_setCell _ _ _ _ hb).trans (h.at'.block k hk hb), by rw [hc]; exact h.at'.cell⟩, Joins.block_setCell (i := 0) h.blk _, h.hb⟩

set_option maxRecDepth 100000 in
theorem at_any (h : Rr m w b wr T) (c : UInt8) (v : Int) (hv : v = (c.toNat : Int)) : Calls Tryz.prog 101 #[.pointer (some ⟨b, 0, none⟩), .int .u8 v] wr fun e w' => e = .returned (.bool (Adr.atB c T)) ∧ wr = w' := by
  obtain ⟨c0, _⟩ := rr_cell h
  clear h
  cases T with
  | nil =>
    show Calls _ _ _ _ fun e w' => e = .returned (.bool false) ∧ wr = w'
    go_enter Tryz.func101, Tryz.ntmps101
    go_wp2
    go_ret
    exact ⟨rfl, rfl⟩
  | cons x r =>
    have e1 := Adr.u8_beq x c
    rw [← hv] at e1
    have hpos : 0 < (⟨(x :: r).toArray⟩ : ByteArray).size := by rw [size_mk]; exact Nat.succ_pos _
    have e2 : ((((⟨(x :: r).toArray⟩ : ByteArray)[0]'hpos).toNat : Int) == v) = (x == c) := e1
    have e3 := emp_bne ⟨(x :: r).toArray⟩
    rw [show (!(⟨(x :: r).toArray⟩ : ByteArray).data.toList.isEmpty) = true from rfl] at e3
    have hpz : (0 : Int) < ((⟨(x :: r).toArray⟩ : ByteArray).size : Int) := by omega
    have e4 := emp_beq ⟨(x :: r).toArray⟩
    rw [show (⟨(x :: r).toArray⟩ : ByteArray).data.toList.isEmpty = false from rfl] at e4
    have e5 : ¬ (⟨(x :: r).toArray⟩ : ByteArray).toList = [] := fun e => by rw [e] at e4; cases e4
    show Calls _ _ _ _ fun e w' => e = .returned (.bool (x == c)) ∧ wr = w'
    generalize (x == c) = q at *
    clear e1 hv
    generalize (⟨(x :: r).toArray⟩ : ByteArray) = S at *
    go_enter Tryz.func101, Tryz.ntmps101
    go_wp2
    go_ret
    exact ⟨rfl, rfl⟩
theorem drop_one (x : UInt8) (r : List UInt8) : (⟨(x :: r).toArray⟩ : ByteArray).extract 1 (r.length + 1) = ⟨r.toArray⟩ := by
  have := Lib.extract_to_end (⟨(x :: r).toArray⟩ : ByteArray) 1
  rw [size_mk] at this
  rw [← Lib.mk_data (ByteArray.extract _ _ _)]
  exact congrArg (fun l : List UInt8 => (⟨l.toArray⟩ : ByteArray)) this
set_option maxRecDepth 100000 in
theorem take_eq (h0 : 3 < w.heap.size) (c : UInt8) (r : List UInt8) (h : Rr m w b wr (c :: r)) (v : Int) (hv : v = (c.toNat : Int)) : Calls Tryz.prog 100 #[.pointer (some ⟨b, 0, none⟩), .int .u8 v] wr fun e w' => e = .returned (.tuple #[]) ∧ Rr m w b w' r ∧ wr.setCell ⟨b, 0, none⟩ (.string ⟨r.toArray⟩) = w' := by
  have HA := Lib.hid (at_any h c v hv)
  rw [show Adr.atB c (c :: r) = true from beq_self_eq_true c] at HA
  obtain ⟨c0, f0⟩ := rr_cell h
  have HR := Lib.hid (rr_set h0 h r)
  have e1 := drop_one c r
  clear h hv
  go_enter Tryz.func100, Tryz.ntmps100
  go_wp2_with (first
    | (go_at_call 101; refine HA.out.mono ?_; rintro e w' ⟨rfl, rfl⟩)
    | (go_at_call 115; refine (must_yes _).mono ?_; rintro e w' ⟨rfl, rfl⟩))
  go_end0
  exact ⟨rfl, HR.out, rfl⟩
theorem take_yes (h0 : 3 < w.heap.size) (c : UInt8) (r : List UInt8) (h : Rr m w b wr (c :: r)) (v : Int) (hv : v = (c.toNat : Int)) : Calls Tryz.prog 100 #[.pointer (some ⟨b, 0, none⟩), .int .u8 v] wr fun e w' => e = .returned (.tuple #[]) ∧ Rr m w b w' r := (take_eq h0 c r h v hv).mono fun _ _ k => ⟨k.1, k.2.1⟩
theorem at_c (h : Rr m w b wr T) (c : UInt8) (v : Int) (q : Bool) (hv : v = (c.toNat : Int)) (hq : Adr.atB c T = q) : Calls Tryz.prog 101 #[.pointer (some ⟨b, 0, none⟩), .int .u8 v] wr fun e w' => e = .returned (.bool q) ∧ wr = w' := hq ▸ at_any h c v hv
set_option maxRecDepth 100000 in
theorem take_no (c : UInt8) (h : Rr m w b wr T) (hc : Adr.atB c T = false) (v : Int) (hv : v = (c.toNat : Int)) : Calls Tryz.prog 100 #[.pointer (some ⟨b, 0, none⟩), .int .u8 v] wr fun e w' => e = .panicked pnc ∧ Av b m w w' := by
  have HA := Lib.hid (at_any h c v hv)
  rw [hc] at HA
  have HR := Lib.hid h.at'
  clear h hv
  go_enter Tryz.func100, Tryz.ntmps100
  go_wp2_with (first
    | (go_at_call 101; refine HA.out.mono ?_; rintro e w' ⟨rfl, rfl⟩)
    | (go_at_call 115; refine (must_no _).mono ?_; rintro e w' ⟨rfl, rfl⟩))
  exact ⟨rfl, rfl, HR.out⟩

set_option maxRecDepth 100000 in
theorem clo_61 (c : UInt8) (w : World) : Calls Tryz.prog 118 #[.int .u8 (c.toNat : Int)] w fun e w' => e = .returned (.bool (Adr.inL c)) ∧ w = w' := by
  have HL := Lib.hid (inAtom_b c)
  have e1 := Adr.u8_beq c 46
  rw [show ((46 : UInt8).toNat : Int) = 46 from rfl] at e1
  unfold Adr.inL
  rw [← e1]
  clear e1
  generalize Adr.atomB c = a at *
  generalize (c.toNat : Int) = x at *
  cases a with
  | true =>
    go_enter Tryz.func118, Tryz.ntmps118
    go_wp2_with (go_at_call 87; refine (HL.out _).mono ?_; rintro e w' ⟨rfl, rfl⟩)
    go_ret
    exact ⟨rfl, rfl⟩
  | false =>
    go_enter Tryz.func118, Tryz.ntmps118
    go_wp2_with (go_at_call 87; refine (HL.out _).mono ?_; rintro e w' ⟨rfl, rfl⟩)
    go_ret
    exact ⟨rfl, rfl⟩

set_option maxRecDepth 100000 in
theorem clo_62 (c : UInt8) (w : World) : Calls Tryz.prog 119 #[.int .u8 (c.toNat : Int)] w fun e w' => e = .returned (.bool (Adr.inD c)) ∧ w = w' := by
  have HL := Lib.hid (inLabel_b c)
  have e1 := Adr.u8_beq c 46
  rw [show ((46 : UInt8).toNat : Int) = 46 from rfl] at e1
  unfold Adr.inD
  rw [← e1]
  clear e1
  generalize Adr.labB c = a at *
  generalize (c.toNat : Int) = x at *
  cases a with
  | true =>
    go_enter Tryz.func119, Tryz.ntmps119
    go_wp2_with (go_at_call 97; refine (HL.out _).mono ?_; rintro e w' ⟨rfl, rfl⟩)
    go_ret
    exact ⟨rfl, rfl⟩
  | false =>
    go_enter Tryz.func119, Tryz.ntmps119
    go_wp2_with (go_at_call 97; refine (HL.out _).mono ?_; rintro e w' ⟨rfl, rfl⟩)
    go_ret
    exact ⟨rfl, rfl⟩
end Go.Proofs.YtkchebbolldmbaaGreatDoor
