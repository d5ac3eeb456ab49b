/-
  PROVED HERE: awake() of the statements of layer 8 answers true, and leaves what was there (the walk).
-/
import Derived.Test.YtakhgoifgpdgiaaDoorAwake
set_option linter.unusedVariables false
namespace Go.Proofs.YtakhgoifgpdgiaaDoor
open Go.RowKit

theorem txs_one (w : World) (x : List UInt8) : Txs (w.alloc (.cells #[.string ⟨x.toArray⟩] 9)) (some ⟨w.heap.size, 0, none⟩) [x] := by
  intro k hk
  have : k = 0 := by simp at hk; exact hk
  subst this
  exact ⟨_, 0, rfl, cell_one_new w _ 9 0 _ rfl⟩
theorem ac_join (w : World) : Calls Tryd.prog 18 #[.slice (some ⟨w.heap.size, 0, none⟩) 1 1] (w.alloc (.cells #[.string ⟨#[97]⟩] 9)) fun e w' => e = .returned (.string ⟨#[97, 13, 10]⟩) ∧ Below w.heap.size w w' := by
  refine (join_any (some ⟨w.heap.size, 0, none⟩) 1 1 [[97]] _ rfl (txs_one w [97]) (by omega) (by decide)).mono ?_
  · rintro e w' ⟨h1, h2⟩
    rw [a_j1] at h1
    exact ⟨h1, ((Below.refl _ _).alloc (Nat.le_refl _) _).trans (h2.mono (by simp))⟩
theorem ac_stuff (w : World) : Calls Tryd.prog 20 #[.slice (some ⟨w.heap.size, 0, none⟩) 1 1] (w.alloc (.cells #[.string ⟨#[46, 97]⟩] 9)) fun e w' => e = .returned (.string ⟨#[46, 46, 97, 13, 10, 46, 13, 10]⟩) ∧ Below w.heap.size w w' := by
  refine (stuff_any (some ⟨w.heap.size, 0, none⟩) 1 1 [[46, 97]] _ rfl (txs_one w [46, 97]) (by omega) (by decide)).mono ?_
  · rintro e w' ⟨h1, h2⟩
    rw [a_t1] at h1
    exact ⟨h1, ((Below.refl _ _).alloc (Nat.le_refl _) _).trans (h2.mono (by simp))⟩

set_option maxRecDepth 100000 in
set_option maxHeartbeats 4000000 in
theorem awake_any (m : Int) (w : World) (hm : w.cell? ⟨0, 0, none⟩ = some (.int .i64 m)) : Calls Tryd.prog 9 #[] w fun e w' => e = .returned (.bool true) ∧ Below w.heap.size w w' := by
  have HM := Lib.hid hm
  clear hm
  go_enter Tryd.func9, Tryd.ntmps9
  go_wp2_with fail
  refine (new_in 3 _ (by decide) (by decide)).mono ?_
  rintro e w' ⟨rfl, rfl⟩
  have H1 := Lib.hid (rq_new w 3)
  generalize w.alloc (.cells #[.int .i64 3, .string ⟨#[]⟩, .int .i64 0] 66) = w1 at H1 ⊢
  generalize w.heap.size = b at H1 ⊢
  go_wp2_with fail
  refine (new_low 0 _ (by decide)).mono ?_
  rintro e w' ⟨rfl, rfl⟩
  go_wp2_with fail
  refine (add_q [97, 98, 13] H1.out (by decide)).mono ?_
  rintro e w2 ⟨rfl, h⟩
  have H2 := Lib.hid h
  clear h
  go_wp2_with fail
  refine (ac_next m a_n1 (by decide) HM.out H2.out).mono ?_
  rintro e w3 ⟨rfl, h⟩
  have H3 := Lib.hid h
  clear h
  go_wp2_with fail
  refine (add_q [10, 13, 99, 13, 10, 97, 98, 99, 100, 13, 10, 100] H3.out (by decide)).mono ?_
  rintro e w4 ⟨rfl, h⟩
  have H4 := Lib.hid h
  clear h
  go_wp2_with fail
  refine (ac_next m a_n2 (by decide) HM.out H4.out).mono ?_
  rintro e w5 ⟨rfl, h⟩
  have H5 := Lib.hid h
  clear h
  go_wp2_with fail
  refine (ac_next m a_n3 (by decide) HM.out H5.out).mono ?_
  rintro e w6 ⟨rfl, h⟩
  have H6 := Lib.hid h
  clear h
  go_wp2_with fail
  refine (ac_next m a_n4 (by decide) HM.out H6.out).mono ?_
  rintro e w7 ⟨rfl, h⟩
  have H7 := Lib.hid h
  clear h
  go_wp2_with fail
  refine (ac_next m a_n5 (by decide) HM.out H7.out).mono ?_
  rintro e w8 ⟨rfl, h⟩
  have H8 := Lib.hid h
  clear h
  go_wp2_with fail
  refine (ac_split m HM.out H8.out).mono ?_
  rintro e w9 ⟨⟨g1, c1, rfl, k1⟩, hb⟩
  have H9 := Lib.hid (rq_grown H8.out hb)
  clear hb
  go_wp2_with fail
  refine (ac_unst m HM.out H9.out).mono ?_
  rintro e w10 ⟨⟨g2, o2, c2, rfl, k2⟩, hb⟩
  have H10 := Lib.hid (rq_grown H9.out hb)
  have k1' : w10.cell? ⟨g1, 0, none⟩ = some (.string ⟨#[97]⟩) := by rw [hb.cell (World.block_lt_of_cell? _ _ k1)]; exact k1
  clear hb k1
  go_wp2_with fail
  refine (unstuff_same _ _).mono ?_
  rw [show Lin.uns (⟨#[46]⟩ : ByteArray).data.toList = ([], true) from a_u1]
  rintro e w' ⟨rfl, rfl⟩
  go_wp2_with fail
  refine (len_q H10.out).mono ?_
  rintro e w' ⟨rfl, rfl⟩
  go_wp2_with fail
  refine (ac_join _).mono ?_
  rintro e w11 ⟨rfl, hb⟩
  have H11 := Lib.hid (rq_grown H10.out hb)
  have k2' : w11.cell? ⟨g2, o2, none⟩ = some (.string ⟨#[46, 97]⟩) := by rw [hb.cell (World.block_lt_of_cell? _ _ k2)]; exact k2
  clear hb k2 k1'
  go_wp2_with fail
  refine (ac_stuff _).mono ?_
  rintro e w12 ⟨rfl, hb⟩
  have H12 := Lib.hid (rq_grown H11.out hb)
  have k2 : w12.cell? ⟨g2, o2, none⟩ = some (.string ⟨#[46, 97]⟩) := by rw [hb.cell (World.block_lt_of_cell? _ _ k2')]; exact k2'
  clear hb k2'
  go_wp2_with fail
  go_ret
  exact ⟨rfl, H12.out.2.1⟩
end Go.Proofs.YtakhgoifgpdgiaaDoor
