/-
  PROVED HERE: AddrWrites answers true.
-/
import Derived.Test.YtifheakepegjcaaDoorOwn
set_option linter.unusedVariables false
namespace Go.Proofs.YtifheakepegjcaaDoor
open Go.RowKit
variable {m : Int} {w W W1 : World} {A : Nat} {x y : List UInt8}
/-- A mailbox's cells and what the world keeps. -/
def Pw (m : Int) (w : World) (A : Nat) (x y : List UInt8) (W : World) : Prop :=
  (W.cell? ⟨A, 0, none⟩ = some (.string ⟨x.toArray⟩) ∧ W.cell? ⟨A, 1, none⟩ = some (.string ⟨y.toArray⟩)) ∧ At m w W
theorem pw_of (h : Bx m w A x y W) : Pw m w A x y W := ⟨⟨(bx_cells h).1.1, (bx_cells h).2.1⟩, h.at'⟩
theorem pw_next (h : Pw m w A x y W) (g : Below W.heap.size W W1) : Pw m w A x y W1 := ⟨two_keep h.1 g, h.2.next g⟩
theorem wrtV_parts (l d : List UInt8) : ∃ (s : List UInt8) (e : Int), wrtV l d = .tuple #[.string ⟨s.toArray⟩, .int .i64 e] := by
  unfold wrtV
  split
  · exact ⟨_, _, rfl⟩
  · exact ⟨[], _, rfl⟩
theorem pathV_parts (l d : List UInt8) : ∃ (s : List UInt8) (e : Int), pathV l d = .tuple #[.string ⟨s.toArray⟩, .int .i64 e] := by
  unfold pathV
  split
  · exact ⟨[60, 62], _, rfl⟩
  · split
    · exact ⟨_, _, rfl⟩
    · exact ⟨[], _, rfl⟩
theorem bx_call {f : FuncId} {args : Array Value} {v : Value} (h : Bx m w A x y W) (c : Calls Tryd.prog f args W fun e w' => e = .returned v ∧ Below W.heap.size W w') :
    Calls Tryd.prog f args W fun e w' => e = .returned v ∧ Bx m w A x y w' := c.mono fun _ _ k => ⟨k.1, bx_next h k.2⟩
theorem pw_call {f : FuncId} {args : Array Value} {v : Value} (h : Pw m w A x y W) (c : Calls Tryd.prog f args W fun e w' => e = .returned v ∧ Below W.heap.size W w') :
    Calls Tryd.prog f args W fun e w' => e = .returned v ∧ Pw m w A x y w' := c.mono fun _ _ k => ⟨k.1, pw_next h k.2⟩
theorem pair_new (w : World) (x y : List UInt8) (t : TypeId) : (w.alloc (.cells #[.string ⟨x.toArray⟩, .string ⟨y.toArray⟩] t)).cell? ⟨w.heap.size, 0, none⟩ = some (.string ⟨x.toArray⟩) ∧ (w.alloc (.cells #[.string ⟨x.toArray⟩, .string ⟨y.toArray⟩] t)).cell? ⟨w.heap.size, 1, none⟩ = some (.string ⟨y.toArray⟩) := cell_two w _ _ t
theorem awake_bx (h : Bx m w A x y W) : Calls Tryd.prog 10 #[] W fun e w' => e = .returned (.bool true) ∧ Bx m w A x y w' := bx_call h (awake_any m W h.at'.cell)

set_option maxRecDepth 100000 in
set_option maxHeartbeats 4000000 in
theorem writes_any (l d : List UInt8) (m : Int) (w : World) (hl : l.length ≤ 9223372036854775807) (hd : d.length ≤ 9223372036854775807) (hm : w.cell? ⟨0, 0, none⟩ = some (.int .i64 m)) :
    Calls Tryd.prog 5 #[bxV l d] w fun e w' => e = .returned (.bool true) ∧ Below w.heap.size w w' := by
  have H0 := Lib.hid (bx_first hm l d)
  have HW := Lib.hid (awake_bx H0.out)
  have HB := Lib.hid (fun (W : World) (b : Nat) (h : W.cell? ⟨b, 0, none⟩ = some (.string ⟨l.toArray⟩) ∧ W.cell? ⟨b, 1, none⟩ = some (.string ⟨d.toArray⟩)) => large_two l d b W hl hd h.1 h.2)
  clear hm
  unfold bxV at *
  cases hg : Adr.lgB [l, d] with
  | true =>
    rw [hg] at HB
    clear hg
    go_enter Tryd.func5, Tryd.ntmps5
    go_wp2_with fail
    refine HW.out.mono ?_
    rintro e w1 ⟨rfl, h1⟩
    have H1 := Lib.hid h1
    obtain ⟨⟨c1, f1⟩, c2, f2⟩ := bx_cells h1
    have H2 := Lib.hid (bx_alloc h1 (.cells #[.string ⟨l.toArray⟩, .string ⟨d.toArray⟩] 9))
    have c3 := pair_new w1 l d 9
    clear h1
    go_wp2_with fail
    refine (HB.out _ _ c3).mono ?_
    rintro e w2 ⟨rfl, rfl⟩
    clear c1 f1 c2 f2 c3
    obtain ⟨⟨c1, f1⟩, c2, f2⟩ := bx_cells H2.out
    go_wp2_with fail
    go_ret
    exact ⟨rfl, H2.out.at'.below⟩
  | false =>
    rw [hg] at HB
    have hle := Adr.lg_no hg (T := l) (by simp)
    have hle2 := Adr.lg_no hg (T := d) (by simp)
    clear hg
    have hl' : l.length < 4294967281 := by omega
    have hd' : d.length < 4294967281 := by omega
    have C1 := Lib.hid (fun (W : World) (h : Bx m w w.heap.size l d W) => bx_call h (write_any l d m W hl' hd' h.at'.cell))
    have C2 := Lib.hid (fun (W : World) (h : Bx m w w.heap.size l d W) => bx_call h (own_any l d W))
    have C3 := Lib.hid (fun (W : World) (h : Bx m w w.heap.size l d W) => bx_call h (rwrite_any l d m W hl' hd' h.at'.cell))
    have C4 := Lib.hid (fun (W : World) (h : Bx m w w.heap.size l d W) => bx_call h (path_any l d m W hl' hd' h.at'.cell))
    have C5 := Lib.hid (fun (W : World) (h : Bx m w w.heap.size l d W) => bx_call h (rpath_any l d m W hl' hd' h.at'.cell))
    have D1 := Lib.hid (fun (W : World) (h : Pw m w w.heap.size l d W) => pw_call h (may_any l d m W hl' hd' h.2.cell))
    have D2 := Lib.hid (fun (W : World) (h : Pw m w w.heap.size l d W) => pw_call h (own_any l d W))
    have D3 := Lib.hid (fun (W : World) (h : Pw m w w.heap.size l d W) => pw_call h (rmay_any l d m W hl' hd' h.2.cell))
    obtain ⟨s1, e1, hs1⟩ := wrtV_parts l d
    obtain ⟨s2, e2, hs2⟩ := pathV_parts l d
    rw [hs1] at C1 C3
    rw [hs2] at C4 C5
    unfold bxV Pw at *
    generalize Adr.mayB l d = mb at *
    clear hs1 hs2 hl hd hle hle2 hl' hd'
    go_enter Tryd.func5, Tryd.ntmps5
    go_wp2_with fail
    refine HW.out.mono ?_
    rintro e w1 ⟨rfl, h1⟩
    have H1 := Lib.hid h1
    obtain ⟨⟨c1, f1⟩, c2, f2⟩ := bx_cells h1
    have H2 := Lib.hid (bx_alloc h1 (.cells #[.string ⟨l.toArray⟩, .string ⟨d.toArray⟩] 9))
    have c3 := pair_new w1 l d 9
    clear h1
    go_wp2_with fail
    refine (HB.out _ _ c3).mono ?_
    rintro e w2 ⟨rfl, rfl⟩
    clear c1 f1 c2 f2 c3
    obtain ⟨⟨c1, f1⟩, c2, f2⟩ := bx_cells H2.out
    go_wp2_with fail
    refine (C1.out _ H2.out).mono ?_
    rintro e w3 ⟨rfl, h3⟩
    have H3 := Lib.hid h3
    clear h3 c1 f1 c2 f2
    obtain ⟨⟨c1, f1⟩, c2, f2⟩ := bx_cells H3.out
    go_wp2_with fail
    refine (C2.out _ H3.out).mono ?_
    rintro e w4 ⟨rfl, h4⟩
    have H4 := Lib.hid h4
    clear h4 c1 f1 c2 f2
    obtain ⟨⟨c1, f1⟩, c2, f2⟩ := bx_cells H4.out
    go_wp2_with fail
    refine (C3.out _ H4.out).mono ?_
    rintro e w5 ⟨rfl, h5⟩
    have H5 := Lib.hid h5
    clear h5 c1 f1 c2 f2
    obtain ⟨⟨c1, f1⟩, c2, f2⟩ := bx_cells H5.out
    go_wp2_with fail
    refine (C4.out _ H5.out).mono ?_
    rintro e w6 ⟨rfl, h6⟩
    have H6 := Lib.hid h6
    clear h6 c1 f1 c2 f2
    obtain ⟨⟨c1, f1⟩, c2, f2⟩ := bx_cells H6.out
    go_wp2_with fail
    refine (C2.out _ H6.out).mono ?_
    rintro e w7 ⟨rfl, h7⟩
    have H7 := Lib.hid h7
    clear h7 c1 f1 c2 f2
    obtain ⟨⟨c1, f1⟩, c2, f2⟩ := bx_cells H7.out
    go_wp2_with fail
    refine (C5.out _ H7.out).mono ?_
    rintro e w8 ⟨rfl, h8⟩
    have H8 := Lib.hid h8
    clear h8 c1 f1 c2 f2
    obtain ⟨⟨c1, f1⟩, c2, f2⟩ := bx_cells H8.out
    have hpw := pw_of H8.out
    go_wp2_with fail
    go_region_held3 (fun W => (W.cell? ⟨w.heap.size, 0, none⟩ = some (.string ⟨l.toArray⟩) ∧ W.cell? ⟨w.heap.size, 1, none⟩ = some (.string ⟨d.toArray⟩)) ∧ At m w W) (first | assumption | exact pw_next hpw (Below.refl _ _).drew) (first
      | (go_at_call 27; refine (D1.out _ (by assumption)).mono ?_; rintro e w9 ⟨rfl, h9⟩)
      | (go_at_call 16; refine (D2.out _ (by assumption)).mono ?_; rintro e w9 ⟨rfl, h9⟩)
      | (go_at_call 28; refine (D3.out _ (by assumption)).mono ?_; rintro e w9 ⟨rfl, h9⟩))
    all_goals go_wp2
    all_goals go_ret
    all_goals exact ⟨rfl, h9.2.below⟩
end Go.Proofs.YtifheakepegjcaaDoor
