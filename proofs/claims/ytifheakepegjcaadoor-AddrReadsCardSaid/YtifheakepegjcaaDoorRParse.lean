/-
  PROVED HERE: what Parse of the answer computes.
-/
import Derived.Test.YtifheakepegjcaaDoorRRead
set_option linter.unusedVariables false
namespace Go.Proofs.YtifheakepegjcaaDoor
open Go.RowKit

set_option maxRecDepth 100000 in
set_option maxHeartbeats 1000000 in
theorem rparse_any (S : ByteArray) (m : Int) (w : World) (hs : S.size < 4294967281) (hm : w.cell? ⟨0, 0, none⟩ = some (.int .i64 m)) :
    Calls Tryd.prog 15 #[.string S] w fun e w' => e = .returned (parseV S.data.toList) ∧ Below w.heap.size w w' := by
  have HX := Lib.hid (bz_new (at_refl hm) [] [])
  have HR := Lib.hid (fun (W : World) (h : Bz m w w.heap.size [] [] W) => bz_call h (rread_any S m W hs h.at'.cell))
  clear hm
  cases ho : Adr.rdP S.data.toList with
  | none =>
    rw [parse_none ho]
    rw [rread_no ho] at HR
    clear ho
    go_enter Tryd.func15, Tryd.ntmps15
    go_wp2_with fail
    refine (HR.out _ HX.out).mono ?_
    rintro e w1 ⟨rfl, h1⟩
    have H2 := Lib.hid (bz_alloc h1 (.cells #[.string ⟨([] : List UInt8).toArray⟩, .string ⟨([] : List UInt8).toArray⟩] 29))
    have H3 := Lib.hid (bz_new h1.at' [] [])
    obtain ⟨⟨c1, f1⟩, c2, f2⟩ := bz_cells H2.out
    obtain ⟨⟨c3, f3⟩, c4, f4⟩ := bz_cells H3.out
    have H4 := Lib.hid (bz_put H2.out [] [])
    obtain ⟨⟨c5, f5⟩, c6, f6⟩ := bz_cells H4.out
    clear h1
    go_wp2_with fail
    refine bodyPost_ret (v := .tuple #[bxV [] [], .int .i64 2]) ?_ rfl ⟨rfl, H4.out.at'.below⟩
    simp [results, Tryd.results15, go_sem, c5, c6, bxV]
  | some p =>
    obtain ⟨l, d, r⟩ := p
    rw [rread_yes ho] at HR
    by_cases hr : r = []
    · subst hr
      rw [parse_some ho]
      clear ho
      go_enter Tryd.func15, Tryd.ntmps15
      go_wp2_with fail
      refine (HR.out _ HX.out).mono ?_
      rintro e w1 ⟨rfl, h1⟩
      have H2 := Lib.hid (bz_alloc h1 (.cells #[.string ⟨(l : List UInt8).toArray⟩, .string ⟨(d : List UInt8).toArray⟩] 29))
      have H3 := Lib.hid (bz_new h1.at' l d)
      obtain ⟨⟨c1, f1⟩, c2, f2⟩ := bz_cells H2.out
      obtain ⟨⟨c3, f3⟩, c4, f4⟩ := bz_cells H3.out
      have H4 := Lib.hid (bz_put H2.out l d)
      obtain ⟨⟨c5, f5⟩, c6, f6⟩ := bz_cells H4.out
      clear h1
      go_wp2_with fail
      refine bodyPost_ret (v := .tuple #[bxV l d, .int .i64 0]) ?_ rfl ⟨rfl, H4.out.at'.below⟩
      simp [results, Tryd.results15, go_sem, c5, c6, bxV]
    · rw [show parseV S.data.toList = .tuple #[bxV [] [], .int .i64 2] from by
        cases r with
        | nil => exact absurd rfl hr
        | cons x r => exact parse_more ho]
      have hpos : 0 < r.length := List.length_pos_iff.2 hr
      have hposz : (0 : Int) < (r.length : Int) := by omega
      clear ho hr
      go_enter Tryd.func15, Tryd.ntmps15
      go_wp2_with fail
      refine (HR.out _ HX.out).mono ?_
      rintro e w1 ⟨rfl, h1⟩
      have H2 := Lib.hid (bz_alloc h1 (.cells #[.string ⟨(l : List UInt8).toArray⟩, .string ⟨(d : List UInt8).toArray⟩] 29))
      have H3 := Lib.hid (bz_new h1.at' l d)
      obtain ⟨⟨c1, f1⟩, c2, f2⟩ := bz_cells H2.out
      obtain ⟨⟨c3, f3⟩, c4, f4⟩ := bz_cells H3.out
      have H4 := Lib.hid (bz_put H2.out [] [])
      obtain ⟨⟨c5, f5⟩, c6, f6⟩ := bz_cells H4.out
      clear h1
      go_wp2_with fail
      refine bodyPost_ret (v := .tuple #[bxV [] [], .int .i64 2]) ?_ rfl ⟨rfl, H4.out.at'.below⟩
      simp [results, Tryd.results15, go_sem, c5, c6, bxV]
end Go.Proofs.YtifheakepegjcaaDoor
