/-
  PROVED HERE: AddrTells answers true.
-/
import Derived.Test.YtifheakepegjcaaDoorBig
set_option linter.unusedVariables false
namespace Go.Proofs.YtifheakepegjcaaDoor
open Go.RowKit
variable {m : Int} {w W : World}
theorem large_one (T : List UInt8) (b : Nat) (w : World) (hl : T.length ≤ 9223372036854775807) (h : w.cell? ⟨b, 0, none⟩ = some (.string ⟨T.toArray⟩)) :
    Calls Tryd.prog 11 #[.slice (some ⟨b, 0, none⟩) 1 1] w fun e w' => e = .returned (.bool (Adr.lgB [T])) ∧ w = w' :=
  large_any [T] b w (by simp) (fun i hi => by cases i with | zero => exact h | succ i => simp at hi) (fun U hU => by simp only [List.mem_singleton] at hU; subst hU; exact hl)
theorem large_two (T U : List UInt8) (b : Nat) (w : World) (hl : T.length ≤ 9223372036854775807) (hu : U.length ≤ 9223372036854775807) (h : w.cell? ⟨b, 0, none⟩ = some (.string ⟨T.toArray⟩)) (g : w.cell? ⟨b, 1, none⟩ = some (.string ⟨U.toArray⟩)) :
    Calls Tryd.prog 11 #[.slice (some ⟨b, 0, none⟩) 2 2] w fun e w' => e = .returned (.bool (Adr.lgB [T, U])) ∧ w = w' :=
  large_any [T, U] b w (by simp) (fun i hi => by match i, hi with | 0, _ => exact h | 1, _ => exact g) (fun X hX => by simp only [List.mem_cons, List.not_mem_nil, or_false] at hX; rcases hX with rfl | rfl <;> assumption)
theorem large_three (T U V : List UInt8) (b : Nat) (w : World) (hl : T.length ≤ 9223372036854775807) (hu : U.length ≤ 9223372036854775807) (hv : V.length ≤ 9223372036854775807) (h : w.cell? ⟨b, 0, none⟩ = some (.string ⟨T.toArray⟩)) (g : w.cell? ⟨b, 1, none⟩ = some (.string ⟨U.toArray⟩)) (k : w.cell? ⟨b, 2, none⟩ = some (.string ⟨V.toArray⟩)) :
    Calls Tryd.prog 11 #[.slice (some ⟨b, 0, none⟩) 3 3] w fun e w' => e = .returned (.bool (Adr.lgB [T, U, V])) ∧ w = w' :=
  large_any [T, U, V] b w (by simp) (fun i hi => by match i, hi with | 0, _ => exact h | 1, _ => exact g | 2, _ => exact k) (fun X hX => by simp only [List.mem_cons, List.not_mem_nil, or_false] at hX; rcases hX with rfl | rfl | rfl <;> assumption)
theorem at_new (h : At m w W) (o : Obj) : At m w (W.alloc o) := h.next ((Below.refl _ _).alloc (Nat.le_refl _) o)
theorem awake_at (hm : w.cell? ⟨0, 0, none⟩ = some (.int .i64 m)) : Calls Tryd.prog 10 #[] w fun e w' => e = .returned (.bool true) ∧ At m w w' :=
  (awake_any m w hm).mono fun _ _ h => ⟨h.1, (at_refl hm).next h.2⟩

set_option maxRecDepth 100000 in
set_option maxHeartbeats 2000000 in
theorem tells_any (T : List UInt8) (m : Int) (w : World) (hs : T.length ≤ 9223372036854775807) (hm : w.cell? ⟨0, 0, none⟩ = some (.int .i64 m)) :
    Calls Tryd.prog 4 #[.string ⟨T.toArray⟩] w fun e w' => e = .returned (.bool true) ∧ Below w.heap.size w w' := by
  have HW := Lib.hid (awake_at hm)
  have HB := Lib.hid (fun (W : World) (b : Nat) (h : W.cell? ⟨b, 0, none⟩ = some (.string ⟨T.toArray⟩)) => large_one T b W hs h)
  clear hm
  cases hl : Adr.lgB [T] with
  | true =>
    rw [hl] at HB
    clear hl
    go_enter Tryd.func4, Tryd.ntmps4
    go_wp2_with fail
    refine HW.out.mono ?_
    rintro e w1 ⟨rfl, h1⟩
    have H1 := Lib.hid (at_new h1 (.cells #[.string ⟨T.toArray⟩] 9))
    have c1 : (w1.alloc (.cells #[.string ⟨T.toArray⟩] 9)).cell? ⟨w1.heap.size, 0, none⟩ = some (.string ⟨T.toArray⟩) := by rw [World.cell?_alloc_new]; rfl
    clear h1
    go_wp2_with fail
    refine (HB.out _ _ c1).mono ?_
    rintro e w2 ⟨rfl, rfl⟩
    go_wp2_with fail
    go_ret
    exact ⟨rfl, H1.out.below⟩
  | false =>
    rw [hl] at HB
    have hle := Adr.lg_no hl (List.mem_singleton.2 rfl)
    clear hl
    have C1 := Lib.hid (fun (W : World) (h : At m w W) => domain_any ⟨T.toArray⟩ m W (by rw [size_mk]; omega) h.cell)
    have C2 := Lib.hid (fun (W : World) (h : At m w W) => rdomain_any ⟨T.toArray⟩ m W (by rw [size_mk]; omega) h.cell)
    have C3 := Lib.hid (fun (W : World) => local_any ⟨T.toArray⟩ W (by rw [size_mk]; omega))
    have C4 := Lib.hid (fun (W : World) => rlocal_any ⟨T.toArray⟩ W (by rw [size_mk]; omega))
    have C5 := Lib.hid (fun (W : World) (h : At m w W) => plain_any ⟨T.toArray⟩ m W (by rw [size_mk]; omega) h.cell)
    have C6 := Lib.hid (fun (W : World) (h : At m w W) => rplain_any ⟨T.toArray⟩ W (by rw [size_mk]; omega))
    rw [show (⟨T.toArray⟩ : ByteArray).data.toList = T from rfl] at C1 C2 C3 C4 C5 C6
    unfold domV sV at C1 C2
    generalize Adr.domT T = dt at *
    generalize Adr.domE T = de at *
    generalize Adr.localB T = lb at *
    generalize Adr.plainB T = pb at *
    go_enter Tryd.func4, Tryd.ntmps4
    go_wp2_with fail
    refine HW.out.mono ?_
    rintro e w1 ⟨rfl, h1⟩
    have H1 := Lib.hid (at_new h1 (.cells #[.string ⟨T.toArray⟩] 9))
    have c1 : (w1.alloc (.cells #[.string ⟨T.toArray⟩] 9)).cell? ⟨w1.heap.size, 0, none⟩ = some (.string ⟨T.toArray⟩) := by rw [World.cell?_alloc_new]; rfl
    clear h1
    go_wp2_with fail
    refine (HB.out _ _ c1).mono ?_
    rintro e w2 ⟨rfl, rfl⟩
    clear c1
    go_wp2_with fail
    refine (C1.out _ H1.out).mono ?_
    rintro e w3 ⟨rfl, h3⟩
    have H3 := Lib.hid (H1.out.next h3)
    clear h3 C1
    go_wp2_with fail
    refine (C2.out _ H3.out).mono ?_
    rintro e w4 ⟨rfl, h4⟩
    have H4 := Lib.hid (H3.out.next h4)
    clear h4 C2
    go_wp2_with fail
    refine (C3.out _).mono ?_
    rintro e w5 ⟨rfl, rfl⟩
    go_wp2_with fail
    refine (C4.out _).mono ?_
    rintro e w6 ⟨rfl, rfl⟩
    go_wp2_with fail
    refine (C5.out _ H4.out).mono ?_
    rintro e w7 ⟨rfl, h7⟩
    have H7 := Lib.hid (H4.out.next h7)
    clear h7 C5
    go_wp2_with fail
    refine (C6.out _ H7.out).mono ?_
    rintro e w8 ⟨rfl, h8⟩
    have H8 := Lib.hid (H7.out.next h8)
    clear h8 C6
    go_wp2_with fail
    go_ret
    exact ⟨rfl, H8.out.below⟩
end Go.Proofs.YtifheakepegjcaaDoor
