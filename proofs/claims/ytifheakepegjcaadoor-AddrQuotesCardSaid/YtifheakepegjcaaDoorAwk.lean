/-
  PROVED HERE: the law's guard calls answer as they should.
-/
import Derived.Test.YtifheakepegjcaaDoorEq
set_option linter.unusedVariables false
namespace Go.Proofs.YtifheakepegjcaaDoor
open Go.RowKit
variable {m : Int} {w : World}

set_option maxRecDepth 100000 in
set_option maxHeartbeats 4000000 in
theorem awake_any (m : Int) (w : World) (hm : w.cell? ⟨0, 0, none⟩ = some (.int .i64 m)) : Calls Tryd.prog 10 #[] w fun e w' => e = .returned (.bool true) ∧ Below w.heap.size w w' := by
  have HA := Lib.hid (at_refl hm)
  have C1 := Lib.hid (fun (W : World) (h : At m w W) => parse_any k1 m W (by decide) h.cell)
  have C2 := Lib.hid (fun (W : World) (h : At m w W) => parse_any [60, 97, 46, 46, 98, 64, 99, 62] m W (by decide) h.cell)
  have C3 := Lib.hid (fun (W : World) (h : At m w W) => read_any [60, 62, 32, 120] m W (by decide) h.cell)
  have C4 := Lib.hid (fun (W : World) (h : At m w W) => write_any [97, 34, 98] [99, 46, 100] m W (by decide) (by decide) h.cell)
  have C5 := Lib.hid (fun (W : World) (h : At m w W) => path_any [] [] m W (by decide) (by decide) h.cell)
  have C6 := Lib.hid (fun (W : World) (h : At m w W) => domain_any ⟨#[65, 45, 49, 46, 98]⟩ m W (by decide) h.cell)
  have C7 := Lib.hid (fun (W : World) (h : At m w W) => domain_any ⟨#[45, 97]⟩ m W (by decide) h.cell)
  have C8 := Lib.hid (fun W : World => local_any ⟨#[120, 32, 121]⟩ W (by decide))
  have C9 := Lib.hid (fun (W : World) (h : At m w W) => plain_any ⟨#[120, 32, 121]⟩ m W (by decide) h.cell)
  have C10 := Lib.hid (fun (W : World) (h : At m w W) => plain_any ⟨#[97, 46, 98]⟩ m W (by decide) h.cell)
  have C11 := Lib.hid (fun (W : World) (h : At m w W) => may_any xy eo m W (by decide) (by decide) h.cell)
  have C12 := Lib.hid (fun (W : World) (h : At m w W) => may_any [] [] m W (by decide) (by decide) h.cell)
  rw [show (⟨#[65, 45, 49, 46, 98]⟩ : ByteArray).data.toList = [65, 45, 49, 46, 98] from rfl, dv6] at C6
  rw [show (⟨#[45, 97]⟩ : ByteArray).data.toList = [45, 97] from rfl, dv7] at C7
  rw [show (⟨#[120, 32, 121]⟩ : ByteArray).data.toList = [120, 32, 121] from rfl, lv8] at C8
  rw [show (⟨#[120, 32, 121]⟩ : ByteArray).data.toList = [120, 32, 121] from rfl, pl9] at C9
  rw [show (⟨#[97, 46, 98]⟩ : ByteArray).data.toList = [97, 46, 98] from rfl, pl10] at C10
  rw [pv1] at C1
  rw [pv2] at C2
  rw [rv3] at C3
  rw [wv4] at C4
  rw [pv5] at C5
  rw [mv11] at C11
  rw [mv12] at C12
  unfold k1 at C1
  unfold bxV xy eo at *
  clear hm
  go_enter Tryd.func10, Tryd.ntmps10
  go_wp2_with fail
  refine (C1.out _ HA.out).mono ?_
  rintro e w1 ⟨rfl, h1⟩
  have A1 := Lib.hid (HA.out.next h1)
  have B1 := Lib.hid (bx_new A1.out xy eo)
  unfold xy eo at B1
  clear h1 C1
  go_wp2_with fail
  refine (C2.out _ B1.out.at').mono ?_
  rintro e w2 ⟨rfl, h2⟩
  have B2 := Lib.hid (bx_next B1.out h2)
  have B2' := Lib.hid (bx_alloc B2.out (.cells #[.string ⟨#[]⟩, .string ⟨#[]⟩] 25))
  clear h2 C2 B1
  go_wp2_with fail
  refine (C3.out _ B2'.out.at').mono ?_
  rintro e w3 ⟨rfl, h3⟩
  have B3 := Lib.hid (bx_alloc (bx_next B2'.out h3) (.cells #[.string ⟨#[]⟩, .string ⟨#[]⟩] 25))
  have D3 := Lib.hid (bx_new (bx_next B2'.out h3).at' [] [])
  clear h3 C3 B2'
  go_wp2_with fail
  refine (C4.out _ B3.out.at').mono ?_
  rintro e w4 ⟨rfl, h4⟩
  have B4 := Lib.hid (bx_next B3.out h4)
  have D4 := Lib.hid (bx_next D3.out h4)
  clear h4 C4 B3 D3
  go_wp2_with fail
  refine (C5.out _ B4.out.at').mono ?_
  rintro e w5 ⟨rfl, h5⟩
  have B5 := Lib.hid (bx_next B4.out h5)
  have D5 := Lib.hid (bx_next D4.out h5)
  clear h5 C5 B4 D4
  go_wp2_with fail
  refine (C6.out _ B5.out.at').mono ?_
  rintro e w6 ⟨rfl, h6⟩
  have B6 := Lib.hid (bx_next B5.out h6)
  have D6 := Lib.hid (bx_next D5.out h6)
  clear h6 C6 B5 D5
  go_wp2_with fail
  refine (C7.out _ B6.out.at').mono ?_
  rintro e w7 ⟨rfl, h7⟩
  have B7 := Lib.hid (bx_next B6.out h7)
  have D7 := Lib.hid (bx_next D6.out h7)
  clear h7 C7 B6 D6
  obtain ⟨⟨c1, f1⟩, c2, f2⟩ := bx_cells B7.out
  obtain ⟨⟨c3, f3⟩, c4, f4⟩ := bx_cells D7.out
  have q1 := fun (w : World) => eql25 ⟨#[120, 32, 121]⟩ ⟨#[101, 120, 97, 109, 112, 108, 101, 46, 111, 114, 103]⟩ ⟨#[120, 32, 121]⟩ ⟨#[101, 120, 97, 109, 112, 108, 101, 46, 111, 114, 103]⟩ w
  have q2 := fun (w : World) => eql25 ⟨#[]⟩ ⟨#[]⟩ ⟨#[]⟩ ⟨#[]⟩ w
  have q3 := gua25
  go_wp2_with fail
  refine (C8.out _).mono ?_
  rintro e w8 ⟨rfl, rfl⟩
  clear C8
  go_wp2_with fail
  refine (C9.out _ B7.out.at').mono ?_
  rintro e w9 ⟨rfl, h9⟩
  have B9 := Lib.hid (bx_next B7.out h9)
  clear h9 C9 c1 f1 c2 f2 c3 f3 c4 f4 D7
  go_wp2_with fail
  refine (C10.out _ B9.out.at').mono ?_
  rintro e w10 ⟨rfl, h10⟩
  have B10 := Lib.hid (bx_next B9.out h10)
  clear h10 C10 B9
  obtain ⟨⟨c1, f1⟩, c2, f2⟩ := bx_cells B10.out
  go_wp2_with fail
  refine (C11.out _ B10.out.at').mono ?_
  rintro e w11 ⟨rfl, h11⟩
  have B11 := Lib.hid (bx_next B10.out h11)
  clear h11 C11
  go_wp2_with fail
  refine (C12.out _ B11.out.at').mono ?_
  rintro e w12 ⟨rfl, h12⟩
  have B12 := Lib.hid (bx_next B11.out h12)
  clear h12 C12
  go_wp2_with fail
  go_ret
  exact ⟨rfl, B12.out.at'.below⟩
end Go.Proofs.YtifheakepegjcaaDoor
