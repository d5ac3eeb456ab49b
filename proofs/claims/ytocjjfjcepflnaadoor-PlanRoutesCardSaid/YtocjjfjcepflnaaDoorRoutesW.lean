/-
  PROVED HERE: PlanRoutes of the statements answers true.
-/
import Derived.Test.YtocjjfjcepflnaaDoorAwk
import Derived.Test.YtocjjfjcepflnaaDoorRRt
import Derived.Test.YtocjjfjcepflnaaDoorEqR
set_option linter.unusedVariables false
namespace Go.Proofs.YtocjjfjcepflnaaDoor
open Go.RowKit

set_option maxRecDepth 100000 in
set_option maxHeartbeats 8000000 in
theorem routes_any (A : Option Addr) (n c : Nat) (f : Nat → Ru) (S : ByteArray) (m : Int) (w : World) (hR : Rus w A n f) (hn : n ≤ 4611686018427387904) (hm : w.cell? ⟨0, 0, none⟩ = some (.int .i64 m)) :
    Calls Tryd.prog 3 #[.slice A n c, .string S] w fun e w' => e = .returned (.bool true) ∧ Below w.heap.size w w' := by
  have HA := Lib.hid (awake_any m w hm)
  have HR := Lib.hid hR
  have HM := Lib.hid hm
  have hwl : 0 < w.heap.size := World.block_lt_of_cell? _ _ hm
  clear hR hm
  go_enter Tryd.func3, Tryd.ntmps3
  go_wp2_with fail
  refine HA.out.mono ?_
  rintro e w1 ⟨rfl, h1⟩
  have H1 := Lib.hid h1
  have CL := Lib.hid (large_any A n c f w1 (rus_below HR.out h1) hn)
  clear h1
  cases hl : lgR f n with
  | true =>
    rw [hl] at CL
    clear hl
    go_wp2_with fail
    refine CL.out.mono ?_
    rintro e w2 ⟨rfl, rfl⟩
    go_wp2_with fail
    go_ret
    exact ⟨rfl, H1.out⟩
  | false =>
    obtain ⟨hn6, hL⟩ := lgR_false hl
    rw [hl] at CL
    have HL : Hid (∀ k, k < n → (f k).dm.length < 4294967281) := fun k hk => by have := hL k hk; omega
    clear hl hL
    by_cases hs : 500 < S.size
    · have hsz : (500 : Int) < (S.size : Int) := by omega
      go_wp2_with fail
      refine CL.out.mono ?_
      rintro e w2 ⟨rfl, rfl⟩
      go_wp2_with fail
      go_ret
      exact ⟨rfl, H1.out⟩
    · have hsz : ¬ (500 : Int) < (S.size : Int) := by omega
      have hT : S.data.toList.length < 4294967281 := by rw [← Lib.size_eq]; omega
      have CR : Hid (∀ W, Below w.heap.size w W → Calls Tryd.prog 12 #[.slice A n c, .string S] W fun e w' => e = .returned (.tuple #[.agg (ruA (rtR f n S.data.toList)), .bool (rtB f n S.data.toList)]) ∧ Below W.heap.size W w') := fun W h => by
        have q := route_any A n c f S.data.toList m W (rus_below HR.out h) HL.out hn hT (by rw [h.cell hwl]; exact HM.out)
        rw [Lib.mk_data] at q
        exact q
      have CO := Lib.hid (fun (W : World) (h : Below w.heap.size w W) => own_any A n c f W (rus_below HR.out h) (by omega))
      have CS : Hid (∀ W A2 c2, Rus W A2 n f → Below w.heap.size w W → Calls Tryd.prog 13 #[.slice A2 n c2, .string S] W fun e w' => e = .returned (.tuple #[.agg (ruA (rtR f n S.data.toList)), .bool (rtB f n S.data.toList)]) ∧ Below W.heap.size W w') := fun W A2 c2 r h => by
        have q := rroute_any A2 n c2 f S.data.toList m W r HL.out hn hT (by rw [h.cell hwl]; exact HM.out)
        rw [Lib.mk_data] at q
        exact q
      have CM := Lib.hid (fun (W : World) (h : Below w.heap.size w W) => may_any A n c f m W (rus_below HR.out h) HL.out hn (by rw [h.cell hwl]; exact HM.out))
      have CN := Lib.hid (fun (W : World) A2 c2 (r : Rus W A2 n f) (h : Below w.heap.size w W) => rmay_any A2 n c2 f m W r HL.out hn (by rw [h.cell hwl]; exact HM.out))
      generalize rtR f n S.data.toList = x at *
      generalize rtB f n S.data.toList = is at *
      generalize mayL f n = ml at *
      have heq := fun W => eql29 x x W
      have hre : ruE x x = true := (ruE_iff x x).2 rfl
      rw [hre] at heq
      have hgu := gua29
      clear hre hT
      go_wp2_with fail
      refine CL.out.mono ?_
      rintro e w2 ⟨rfl, rfl⟩
      go_wp2_with fail
      refine (CR.out _ H1.out).mono ?_
      rintro e w3 ⟨rfl, h3⟩
      have H3 : Hid (Below w.heap.size w (w3.alloc (.cells (ruA x) 26))) := (H1.out.trans (h3.mono H1.out.size)).alloc (by have := H1.out.size; have := h3.size; omega) _
      have P3 : Hid (Rb 26 w w3.heap.size x (w3.alloc (.cells (ruA x) 26))) := rb_new (H1.out.trans (h3.mono H1.out.size)) x
      clear h3
      go_wp2_with fail
      refine (CO.out _ H3.out).mono ?_
      rintro e w4 ⟨⟨A4, c4, rfl, r4⟩, h4⟩
      have H4 := Lib.hid (H3.out.trans (h4.mono H3.out.size))
      have P4 := Lib.hid (rb_next P3.out h4)
      have R4 := Lib.hid r4
      clear h4 r4
      go_wp2_with fail
      refine (CS.out _ _ _ R4.out H4.out).mono ?_
      rintro e w5 ⟨rfl, h5⟩
      have H5 := Lib.hid (H4.out.trans (h5.mono H4.out.size))
      have P5 := Lib.hid (rb_next (rb_next P4.out h5) ((Below.refl _ _).alloc (Nat.le_refl _) (.cells (ruA x) 29)))
      have H6 : Hid (Below w.heap.size w (w5.alloc (.cells (ruA x) 29))) := H5.out.alloc H5.out.size _
      clear h5
      obtain ⟨p0, p1, p2⟩ := rb_cells P5.out
      go_wp2_with fail
      refine (CM.out _ H6.out).mono ?_
      rintro e w7 ⟨rfl, h7⟩
      have H7 := Lib.hid (H6.out.trans (h7.mono H6.out.size))
      clear h7 p0 p1 p2
      go_wp2_with fail
      refine (CO.out _ H7.out).mono ?_
      rintro e w8 ⟨⟨A8, c8, rfl, r8⟩, h8⟩
      have H8 := Lib.hid (H7.out.trans (h8.mono H7.out.size))
      have R8 := Lib.hid r8
      clear h8 r8
      go_wp2_with fail
      refine (CN.out _ _ _ R8.out H8.out).mono ?_
      rintro e w9 ⟨rfl, h9⟩
      have H9 := Lib.hid (H8.out.trans (h9.mono H8.out.size))
      clear h9
      go_wp2_with fail
      go_ret
      exact ⟨by simp, H9.out⟩
theorem reach_le {n : Nat} (h : n ≤ reachBytes) : n ≤ 4611686018427387904 := Nat.le_trans h (by decide +kernel)
theorem planRoutes_any (m : Int) (A : Option Addr) (n c : Nat) (f : Nat → Ru) (T : List UInt8) (w : World) (hm : w.cell? ⟨0, 0, none⟩ = some (.int .i64 m)) (hR : Rus w A n f) (hn : n ≤ reachBytes) (hT : T.length ≤ maxLen) :
    Calls Tryd.prog 3 #[.slice A n c, .string ⟨T.toArray⟩] w fun e w' => e = .returned (.bool true) ∧ Below w.heap.size w w' := routes_any A n c f ⟨T.toArray⟩ m w hR (reach_le hn) hm
end Go.Proofs.YtocjjfjcepflnaaDoor
