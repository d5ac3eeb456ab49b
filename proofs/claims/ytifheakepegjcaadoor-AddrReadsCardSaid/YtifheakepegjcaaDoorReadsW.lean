/-
  PROVED HERE: AddrReads answers true.
-/
import Derived.Test.YtifheakepegjcaaDoorRParse
import Derived.Test.YtifheakepegjcaaDoorWritesW
set_option linter.unusedVariables false
namespace Go.Proofs.YtifheakepegjcaaDoor
open Go.RowKit
variable {m : Int} {w W W1 : World}
theorem eq_same29 (a b : ByteArray) (w : World) : (binOp .eql 29 (.agg #[.string a, .string b]) (.agg #[.string a, .string b])).run Tryd.prog w = .ok (.bool true) w := by rw [eql29]; simp
theorem readV_parts (T : List UInt8) : ∃ (l d r : List UInt8) (e : Int), readV T = .tuple #[.agg #[.string ⟨l.toArray⟩, .string ⟨d.toArray⟩], .string ⟨r.toArray⟩, .int .i64 e] := by
  cases h : Adr.rdP T with
  | none => exact ⟨[], [], [], 2, by unfold readV; rw [h]; rfl⟩
  | some p => exact ⟨p.1, p.2.1, p.2.2, 0, by unfold readV; rw [h]; rfl⟩
theorem parseV_parts (T : List UInt8) : ∃ (l d : List UInt8) (e : Int), parseV T = .tuple #[.agg #[.string ⟨l.toArray⟩, .string ⟨d.toArray⟩], .int .i64 e] := by
  cases h : Adr.rdP T with
  | none => exact ⟨[], [], 2, by rw [parse_none h]; rfl⟩
  | some p =>
    obtain ⟨l, d, r⟩ := p
    cases r with
    | nil => exact ⟨l, d, 0, by rw [parse_some h]; rfl⟩
    | cons x r => exact ⟨[], [], 2, by rw [parse_more h]; rfl⟩
/-- Two strings at a block, as they are read. -/
def Two (A : Nat) (x y : List UInt8) (W : World) : Prop := W.cell? ⟨A, 0, none⟩ = some (.string ⟨x.toArray⟩) ∧ W.cell? ⟨A, 1, none⟩ = some (.string ⟨y.toArray⟩)
theorem two_new (W : World) (x y : List UInt8) (t : TypeId) : Two W.heap.size x y (W.alloc (.cells #[.string ⟨x.toArray⟩, .string ⟨y.toArray⟩] t)) := cell_two W _ _ t
theorem two_next {A : Nat} {x y : List UInt8} (h : Two A x y W) (g : Below W.heap.size W W1) : Two A x y W1 := two_keep h g
theorem two_alloc {A : Nat} {x y : List UInt8} (h : Two A x y W) (o : Obj) : Two A x y (W.alloc o) := two_next h ((Below.refl _ _).alloc (Nat.le_refl _) o)
def P4 (m : Int) (w : World) (A B C D : Nat) (a b c d e f g h : List UInt8) (W : World) : Prop :=
  (((W.cell? ⟨A, 0, none⟩ = some (.string ⟨a.toArray⟩) ∧ W.cell? ⟨A, 1, none⟩ = some (.string ⟨b.toArray⟩)) ∧ (W.cell? ⟨B, 0, none⟩ = some (.string ⟨c.toArray⟩) ∧ W.cell? ⟨B, 1, none⟩ = some (.string ⟨d.toArray⟩))) ∧
    ((W.cell? ⟨C, 0, none⟩ = some (.string ⟨e.toArray⟩) ∧ W.cell? ⟨C, 1, none⟩ = some (.string ⟨f.toArray⟩)) ∧ (W.cell? ⟨D, 0, none⟩ = some (.string ⟨g.toArray⟩) ∧ W.cell? ⟨D, 1, none⟩ = some (.string ⟨h.toArray⟩)))) ∧ At m w W
theorem p4_next {A B C D : Nat} {a b c d e f g h : List UInt8} (k : P4 m w A B C D a b c d e f g h W) (q : Below W.heap.size W W1) : P4 m w A B C D a b c d e f g h W1 :=
  ⟨⟨⟨two_keep k.1.1.1 q, two_keep k.1.1.2 q⟩, two_keep k.1.2.1 q, two_keep k.1.2.2 q⟩, k.2.next q⟩
theorem p4_call {A B C D : Nat} {a b c d e f g h : List UInt8} {fn : FuncId} {args : Array Value} {v : Value} (k : P4 m w A B C D a b c d e f g h W) (q : Calls Tryd.prog fn args W fun e w' => e = .returned v ∧ Below W.heap.size W w') :
    Calls Tryd.prog fn args W fun z w' => z = .returned v ∧ P4 m w A B C D a b c d e f g h w' := q.mono fun _ _ z => ⟨z.1, p4_next k z.2⟩

set_option maxRecDepth 100000 in
set_option maxHeartbeats 4000000 in
theorem reads_any (T : List UInt8) (m : Int) (w : World) (hs : T.length ≤ 9223372036854775807) (hm : w.cell? ⟨0, 0, none⟩ = some (.int .i64 m)) :
    Calls Tryd.prog 3 #[.string ⟨T.toArray⟩] w fun e w' => e = .returned (.bool true) ∧ Below w.heap.size w w' := by
  have HW := Lib.hid (awake_at hm)
  have HB := Lib.hid (fun (W : World) (b : Nat) (h : W.cell? ⟨b, 0, none⟩ = some (.string ⟨T.toArray⟩)) => large_one T b W hs h)
  clear hm
  cases hl : Adr.lgB [T] with
  | true =>
    rw [hl] at HB
    clear hl
    go_enter Tryd.func3, Tryd.ntmps3
    go_wp2_with fail
    refine HW.out.mono ?_
    rintro e w1 ⟨rfl, h1⟩
    have H1 := Lib.hid (at_new h1 (.cells #[.string ⟨T.toArray⟩] 9))
    have c1 : (w1.alloc (.cells #[.string ⟨T.toArray⟩] 9)).cell? ⟨w1.heap.size, 0, none⟩ = some (.string ⟨T.toArray⟩) := by rw [World.cell?_alloc_new]; rfl
    clear h1
    go_wp2_with fail
    refine (HB.out _ _ c1).mono ?_
    rintro e w2 ⟨rfl, rfl⟩
    go_wp2_with fail
    go_ret
    exact ⟨rfl, H1.out.below⟩
  | false =>
    rw [hl] at HB
    have hle := Adr.lg_no hl (List.mem_singleton.2 rfl)
    clear hl
    have C1 := Lib.hid (fun (W : World) (h : At m w W) => read_any T m W (by omega) h.cell)
    have C2 := Lib.hid (fun (W : World) (h : At m w W) => rread_any ⟨T.toArray⟩ m W (by rw [size_mk]; omega) h.cell)
    have C3 := Lib.hid (fun (W : World) (h : At m w W) => parse_any T m W (by omega) h.cell)
    have C4 := Lib.hid (fun (W : World) (h : At m w W) => rparse_any ⟨T.toArray⟩ m W (by rw [size_mk]; omega) h.cell)
    rw [show (⟨T.toArray⟩ : ByteArray).data.toList = T from rfl] at C2 C4
    obtain ⟨a, b, r, e1, hr⟩ := readV_parts T
    obtain ⟨c, d, e2, hp⟩ := parseV_parts T
    rw [hr] at C1 C2
    rw [hp] at C3 C4
    have q1 := eq_same29
    have q2 := gua29
    clear hr hp
    go_enter Tryd.func3, Tryd.ntmps3
    go_wp2_with fail
    refine HW.out.mono ?_
    rintro e w1 ⟨rfl, h1⟩
    have H1 := Lib.hid (at_new h1 (.cells #[.string ⟨T.toArray⟩] 9))
    have k1 : (w1.alloc (.cells #[.string ⟨T.toArray⟩] 9)).cell? ⟨w1.heap.size, 0, none⟩ = some (.string ⟨T.toArray⟩) := by rw [World.cell?_alloc_new]; rfl
    clear h1
    go_wp2_with fail
    refine (HB.out _ _ k1).mono ?_
    rintro e w2 ⟨rfl, rfl⟩
    clear k1
    go_wp2_with fail
    refine (C1.out _ H1.out).mono ?_
    rintro e w3 ⟨rfl, h3⟩
    have H3 := Lib.hid (at_new (H1.out.next h3) (.cells #[.string ⟨a.toArray⟩, .string ⟨b.toArray⟩] 25))
    have A3 := Lib.hid (two_new w3 a b 25)
    clear h3
    obtain ⟨x1, x2⟩ := A3.out
    go_wp2_with fail
    refine (C2.out _ H3.out).mono ?_
    rintro e w4 ⟨rfl, h4⟩
    have H4 := Lib.hid (at_new (H3.out.next h4) (.cells #[.string ⟨a.toArray⟩, .string ⟨b.toArray⟩] 29))
    have A4 := Lib.hid (two_alloc (two_next A3.out h4) (.cells #[.string ⟨a.toArray⟩, .string ⟨b.toArray⟩] 29))
    have B4 := Lib.hid (two_new w4 a b 29)
    clear h4 x1 x2
    obtain ⟨x1, x2⟩ := B4.out
    go_wp2_with fail
    refine (C3.out _ H4.out).mono ?_
    rintro e w5 ⟨rfl, h5⟩
    have H5 := Lib.hid (at_new (H4.out.next h5) (.cells #[.string ⟨c.toArray⟩, .string ⟨d.toArray⟩] 25))
    have A5 := Lib.hid (two_alloc (two_next A4.out h5) (.cells #[.string ⟨c.toArray⟩, .string ⟨d.toArray⟩] 25))
    have B5 := Lib.hid (two_alloc (two_next B4.out h5) (.cells #[.string ⟨c.toArray⟩, .string ⟨d.toArray⟩] 25))
    have E5 := Lib.hid (two_new w5 c d 25)
    clear h5 x1 x2
    obtain ⟨x1, x2⟩ := E5.out
    go_wp2_with fail
    refine (C4.out _ H5.out).mono ?_
    rintro e w6 ⟨rfl, h6⟩
    have H6 := Lib.hid (at_new (H5.out.next h6) (.cells #[.string ⟨c.toArray⟩, .string ⟨d.toArray⟩] 29))
    have A6 := Lib.hid (two_alloc (two_next A5.out h6) (.cells #[.string ⟨c.toArray⟩, .string ⟨d.toArray⟩] 29))
    have B6 := Lib.hid (two_alloc (two_next B5.out h6) (.cells #[.string ⟨c.toArray⟩, .string ⟨d.toArray⟩] 29))
    have E6 := Lib.hid (two_alloc (two_next E5.out h6) (.cells #[.string ⟨c.toArray⟩, .string ⟨d.toArray⟩] 29))
    have F6 := Lib.hid (two_new w6 c d 29)
    clear h6 x1 x2
    have hp4 : P4 m w w3.heap.size w4.heap.size w5.heap.size w6.heap.size a b a b c d c d (w6.alloc (.cells #[.string ⟨c.toArray⟩, .string ⟨d.toArray⟩] 29)) := ⟨⟨⟨A6.out, B6.out⟩, E6.out, F6.out⟩, H6.out⟩
    have D1 := Lib.hid (fun (W : World) (h : P4 m w w3.heap.size w4.heap.size w5.heap.size w6.heap.size a b a b c d c d W) => p4_call h (own_any a b W))
    have D2 := Lib.hid (fun (W : World) (h : P4 m w w3.heap.size w4.heap.size w5.heap.size w6.heap.size a b a b c d c d W) => p4_call h (own_any c d W))
    clear A3 A4 A5 A6 B4 B5 B6 E5 E6 F6 H1 H3 H4 H5 C1 C2 C3 C4 HW HB
    unfold bxV P4 at *
    have HP5 := Lib.hid hp4
    obtain ⟨⟨⟨⟨y1, y2⟩, y3, y4⟩, ⟨y5, y6⟩, y7, y8⟩, _⟩ := hp4
    go_wp2_with fail
    go_region_held3 (fun W => (((W.cell? ⟨w3.heap.size, 0, none⟩ = some (.string ⟨a.toArray⟩) ∧ W.cell? ⟨w3.heap.size, 1, none⟩ = some (.string ⟨b.toArray⟩)) ∧ (W.cell? ⟨w4.heap.size, 0, none⟩ = some (.string ⟨a.toArray⟩) ∧ W.cell? ⟨w4.heap.size, 1, none⟩ = some (.string ⟨b.toArray⟩))) ∧
    ((W.cell? ⟨w5.heap.size, 0, none⟩ = some (.string ⟨c.toArray⟩) ∧ W.cell? ⟨w5.heap.size, 1, none⟩ = some (.string ⟨d.toArray⟩)) ∧ (W.cell? ⟨w6.heap.size, 0, none⟩ = some (.string ⟨c.toArray⟩) ∧ W.cell? ⟨w6.heap.size, 1, none⟩ = some (.string ⟨d.toArray⟩)))) ∧ At m w W) (first | assumption | exact p4_next HP5.out (Below.refl _ _).drew) (first
      | (go_at_call 16; refine (D1.out _ (by assumption)).mono ?_; rintro e w9 ⟨rfl, h9⟩)
      | (go_at_call 16; refine (D2.out _ (by assumption)).mono ?_; rintro e w9 ⟨rfl, h9⟩))
    all_goals go_wp2
    all_goals go_ret
    all_goals exact ⟨rfl, h9.2.below⟩
theorem addrReads_any (m : Int) (T : List UInt8) (w : World) (hm : w.cell? ⟨0, 0, none⟩ = some (.int .i64 m)) (hs : T.length ≤ maxLen) :
    Calls Tryd.prog 3 #[.string ⟨T.toArray⟩] w fun e w' => e = .returned (.bool true) ∧ Below w.heap.size w w' := reads_any T m w hs hm
end Go.Proofs.YtifheakepegjcaaDoor
