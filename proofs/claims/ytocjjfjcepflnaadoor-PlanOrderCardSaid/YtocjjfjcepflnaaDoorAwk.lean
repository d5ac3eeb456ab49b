/-
  PROVED HERE: awake of the statements answers true.
-/
import Derived.Test.YtocjjfjcepflnaaDoorAwkA
set_option linter.unusedVariables false
namespace Go.Proofs.YtocjjfjcepflnaaDoor
open Go.RowKit
theorem dueA (W : World) {A A2 a0 a1 a2 a4 : Option Addr} (c c2 : Nat) (hE : Ens W A 5 (eA a0 a1 a2 a4)) (h0 : Tos W a0 1 (fun _ => ⟨[120], [99], 0⟩)) (h1 : Tos W a1 1 (fun _ => ⟨[120], [99], 0⟩)) (h2 : Tos W a2 1 (fun _ => ⟨[120], [99], 0⟩)) (h4 : Tos W a4 1 (fun _ => ⟨[120], [99], 0⟩)) (hW : Wds W A2 5 hA) :
    Calls Tryd.prog 24 #[.slice A 5 c, .slice A2 5 c2, .int .u64 5] W fun e w' => (∃ g cap, e = .returned (.slice (some ⟨g, 0, none⟩) 3 cap) ∧ w'.cell? ⟨g, 0, none⟩ = some (.int .u64 5) ∧ w'.cell? ⟨g, 1, none⟩ = some (.int .u64 2) ∧ w'.cell? ⟨g, 2, none⟩ = some (.int .u64 1)) ∧ Below W.heap.size W w' := by
  have h := due_any A 5 c (eA a0 a1 a2 a4) gA A2 5 c2 hA 5 W hE (fun k hk => by
    match k, hk with
    | 0, _ => exact h0
    | 1, _ => exact h1
    | 2, _ => exact h2
    | 3, _ => exact fun j hj => absurd hj (Nat.not_lt_zero j)
    | 4, _ => exact h4) (fun k hk => by
    match k, hk with
    | 0, _ => exact (by decide : (1 : Nat) ≤ 4611686018427387904)
    | 1, _ => exact (by decide : (1 : Nat) ≤ 4611686018427387904)
    | 2, _ => exact (by decide : (1 : Nat) ≤ 4611686018427387904)
    | 3, _ => exact (by decide : (0 : Nat) ≤ 4611686018427387904)
    | 4, _ => exact (by decide : (1 : Nat) ≤ 4611686018427387904)) hW (by decide) (by decide)
  refine h.mono ?_
  rintro e w' ⟨⟨v, rfl, ho⟩, hb⟩
  rw [(dueA_is a0 a1 a2 a4).1, (dueA_is a0 a1 a2 a4).2] at ho
  rcases ho.2 with ⟨_, e0⟩ | ⟨g, cap, cur, e1, _⟩
  · exact absurd e0 (by decide)
  · subst e1
    have c0 := ho.cells rfl 0 _ rfl
    have c1 := ho.cells rfl 1 _ rfl
    have c2 := ho.cells rfl 2 _ rfl
    rw [add_off] at c0 c1 c2
    exact ⟨⟨g, cap, rfl, c0, c1, c2⟩, hb⟩

theorem wpList_on {P : Program} {ops : Array Oper} {Q : Exit → Act → World → Prop} {a : Act} {w : World} {rest : List Oper} {o : Oper} (hw : Region.wanted o (yielded ops a.tmps) = true) (h : o.wp P a w (wpList P ops Q rest) Q) : wpList P ops Q (o :: rest) a w := by
  unfold wpList
  rw [if_pos hw]
  exact .inl h
theorem later_cell {w1 W : World} {v : Value} {p : Addr} (h : Below w1.heap.size w1 W) (hp : w1.cell? p = some v) : W.cell? p = some v := by rw [h.cell (World.block_lt_of_cell? _ _ hp)]; exact hp
theorem routeB2 (m : Int) {A : Option Addr} {w1 W : World} (c : Nat) (h : Below w1.heap.size w1 W) (hR : Rus w1 A 2 fA) (hm : w1.cell? ⟨0, 0, none⟩ = some (.int .i64 m)) :
    Calls Tryd.prog 12 #[.slice A 2 c, .string ⟨#[99]⟩] W fun e w' => e = .returned (.tuple #[.agg #[.string ⟨#[42]⟩, .int .i64 2, .int .i64 2], .bool true]) ∧ Below W.heap.size W w' := routeA2 m c (rus_below hR h) (later_cell h hm)
theorem routeB3 (m : Int) {A : Option Addr} {w1 W : World} (c : Nat) (h : Below w1.heap.size w1 W) (hR : Rus w1 A 2 fA) (hm : w1.cell? ⟨0, 0, none⟩ = some (.int .i64 m)) :
    Calls Tryd.prog 12 #[.slice A 1 c, .string ⟨#[99]⟩] W fun e w' => e = .returned (.tuple #[.agg #[.string ⟨#[]⟩, .int .i64 0, .int .i64 0], .bool false]) ∧ Below W.heap.size W w' := routeA3 m c (rus_below hR h) (later_cell h hm)
theorem mayB2 (m : Int) {A : Option Addr} {w1 W : World} (c : Nat) (h : Below w1.heap.size w1 W) (hR : Rus w1 A 2 fA) (hm : w1.cell? ⟨0, 0, none⟩ = some (.int .i64 m)) :
    Calls Tryd.prog 15 #[.slice A 2 c] W fun e w' => e = .returned (.bool true) ∧ Below W.heap.size W w' := mayA2 m c (rus_below hR h) (later_cell h hm)
theorem later_alloc {w1 W : World} (h : Below w1.heap.size w1 W) (o : Obj) : Below w1.heap.size w1 (W.alloc o) := h.alloc h.size o
theorem later_trans {w1 W W2 : World} (h : Below w1.heap.size w1 W) (g : Below W.heap.size W W2) : Below w1.heap.size w1 W2 := h.trans (g.mono h.size)
abbrev ensC (a0 a1 a2 a4 : Option Addr) : Array Value := #[.int .u64 1, .string ⟨#[]⟩, .int .u64 0, .int .u64 0, .string ⟨#[]⟩, .string ⟨#[]⟩, .slice a0 1 1, .int .u64 0, .int .u64 5, .int .i64 0, .int .u64 2, .string ⟨#[]⟩, .int .u64 0, .int .u64 0, .string ⟨#[]⟩, .string ⟨#[]⟩, .slice a1 1 1, .int .u64 0, .int .u64 3, .int .i64 0, .int .u64 3, .string ⟨#[]⟩, .int .u64 0, .int .u64 0, .string ⟨#[]⟩, .string ⟨#[]⟩, .slice a2 1 1, .int .u64 0, .int .u64 9, .int .i64 0, .int .u64 4, .string ⟨#[]⟩, .int .u64 0, .int .u64 0, .string ⟨#[]⟩, .string ⟨#[]⟩, .slice none 0 0, .int .u64 0, .int .u64 0, .int .i64 0, .int .u64 5, .string ⟨#[]⟩, .int .u64 0, .int .u64 0, .string ⟨#[]⟩, .string ⟨#[]⟩, .slice a4 1 1, .int .u64 0, .int .u64 0, .int .i64 0]
abbrev wdsC : Array Value := #[.int .u64 0, .int .u64 0, .int .u64 0, .int .u64 0, .int .u64 9223372036854775808]
/-- The entries of awake in memory. -/
theorem ens_lit (W : World) (a0 a1 a2 a4 : Option Addr) (o : Obj) : Ens ((W.alloc (.cells #[.int .u64 1, .string ⟨#[]⟩, .int .u64 0, .int .u64 0, .string ⟨#[]⟩, .string ⟨#[]⟩, .slice a0 1 1, .int .u64 0, .int .u64 5, .int .i64 0, .int .u64 2, .string ⟨#[]⟩, .int .u64 0, .int .u64 0, .string ⟨#[]⟩, .string ⟨#[]⟩, .slice a1 1 1, .int .u64 0, .int .u64 3, .int .i64 0, .int .u64 3, .string ⟨#[]⟩, .int .u64 0, .int .u64 0, .string ⟨#[]⟩, .string ⟨#[]⟩, .slice a2 1 1, .int .u64 0, .int .u64 9, .int .i64 0, .int .u64 4, .string ⟨#[]⟩, .int .u64 0, .int .u64 0, .string ⟨#[]⟩, .string ⟨#[]⟩, .slice none 0 0, .int .u64 0, .int .u64 0, .int .i64 0, .int .u64 5, .string ⟨#[]⟩, .int .u64 0, .int .u64 0, .string ⟨#[]⟩, .string ⟨#[]⟩, .slice a4 1 1, .int .u64 0, .int .u64 0, .int .i64 0] 41)).alloc o) (some ⟨W.heap.size, 0, none⟩) 5 (eA a0 a1 a2 a4) := by
  refine ens_below (W := W.alloc (.cells _ 41)) (fun k hk => ?_) ((Below.refl _ _).alloc (Nat.le_refl _) _)
  refine ⟨_, 0, rfl, ?_, ?_, ?_, ?_, ?_, ?_, ?_, ?_, ?_, ?_⟩ <;> rw [World.cell?_alloc_new] <;> (match k, hk with | 0, _ => rfl | 1, _ => rfl | 2, _ => rfl | 3, _ => rfl | 4, _ => rfl)
theorem wds_lit (W : World) : Wds (W.alloc (.cells #[.int .u64 0, .int .u64 0, .int .u64 0, .int .u64 0, .int .u64 9223372036854775808] 36)) (some ⟨W.heap.size, 0, none⟩) 5 hA := by
  intro k hk
  refine ⟨_, 0, rfl, ?_⟩
  rw [World.cell?_alloc_new]
  match k, hk with | 0, _ => rfl | 1, _ => rfl | 2, _ => rfl | 3, _ => rfl | 4, _ => rfl
theorem to_ex (W : World) : Calls Tryd.prog 27 #[] W fun e w' => (∃ a, e = .returned (.slice (some ⟨a, 0, none⟩) 1 1) ∧ Tos w' (some ⟨a, 0, none⟩) 1 (fun _ => ⟨[120], [99], 0⟩)) ∧ Below W.heap.size W w' :=
  (to_any W).mono fun e w' h => ⟨⟨_, h.1, h.2.1⟩, h.2.2⟩
theorem info26 : (Tryd.prog.info? 26).map (fun i => (i.zero, i.size, i.bytes)) = some (some (.agg #[.string ⟨#[]⟩, .int .i64 0, .int .i64 0]), 3, 32) := by kernel_rfl

set_option maxRecDepth 100000 in
set_option maxHeartbeats 8000000 in
theorem awake_any (m : Int) (w : World) (hm : w.cell? ⟨0, 0, none⟩ = some (.int .i64 m)) : Calls Tryd.prog 10 #[] w fun e w' => e = .returned (.bool true) ∧ Below w.heap.size w w' := by
  obtain ⟨i0, hi0, hz0, hz1, hz2⟩ := info_parts info26
  have R1 := Lib.hid (rus_lit w)
  have O1 := Lib.hid (World.ownsRow_lit (e := 26) (size := 3) w #[.string ⟨#[97, 46, 98]⟩, .int .i64 1, .int .i64 0, .string ⟨#[42]⟩, .int .i64 2, .int .i64 2] 2 (Nat.le_refl _) (by unfold maxLen; omega) rfl)
  have B1 : Hid (Below w.heap.size w (w.alloc (.cells #[.string ⟨#[97, 46, 98]⟩, .int .i64 1, .int .i64 0, .string ⟨#[42]⟩, .int .i64 2, .int .i64 2] 26))) := (Below.refl _ _).alloc (Nat.le_refl _) _
  have M1 := Lib.hid (later_cell B1.out hm)
  have hm0 := Lib.hid hm
  clear hm
  go_enter Tryd.func10, Tryd.ntmps10
  go_wp2_with fail
  obtain ⟨g0, hg0⟩ : ∃ g0, g0 = w.heap.size := ⟨_, rfl⟩
  generalize w.alloc (.cells #[.string ⟨#[97, 46, 98]⟩, .int .i64 1, .int .i64 0, .string ⟨#[42]⟩, .int .i64 2, .int .i64 2] 26) = w1 at *
  refine (routeA1 m 2 R1.out M1.out).mono ?_
  rintro e w2 ⟨rfl, h2⟩
  have L2 := Lib.hid (later_alloc h2 (.cells (ruA ⟨[97, 46, 98], 1, 0⟩) 26))
  have P2 : Hid (Rb 26 w1 w2.heap.size ⟨[97, 46, 98], 1, 0⟩ (w2.alloc (.cells (ruA ⟨[97, 46, 98], 1, 0⟩) 26))) := rb_new h2 _
  clear h2
  go_wp2_with fail
  refine (routeB2 m 2 L2.out R1.out M1.out).mono ?_
  rintro e w3 ⟨rfl, h3⟩
  have L3 := Lib.hid (later_alloc (later_trans L2.out h3) (.cells (ruA ⟨[42], 2, 2⟩) 26))
  have P3 := Lib.hid (rb_next (rb_next P2.out h3) ((Below.refl _ _).alloc (Nat.le_refl _) (.cells (ruA ⟨[42], 2, 2⟩) 26)))
  have Q3 : Hid (Rb 26 w1 w3.heap.size ⟨[42], 2, 2⟩ (w3.alloc (.cells (ruA ⟨[42], 2, 2⟩) 26))) := rb_new (later_trans L2.out h3) _
  clear h3 L2 P2
  go_wp2_with fail
  refine (routeB3 m 2 L3.out R1.out M1.out).mono ?_
  rintro e w4 ⟨rfl, h4⟩
  have S4 : Hid (Below (w3.alloc (.cells (ruA ⟨[42], 2, 2⟩) 26)).heap.size (w3.alloc (.cells (ruA ⟨[42], 2, 2⟩) 26)) (w4.alloc (.cells #[.string ⟨#[]⟩, .int .i64 0, .int .i64 0] 26))) := h4.alloc h4.size _
  have L4 := Lib.hid (later_trans L3.out S4.out)
  have P4 := Lib.hid (rb_next P3.out S4.out)
  have Q4 := Lib.hid (rb_next Q3.out S4.out)
  clear h4 L3 P3 Q3 S4
  go_wp2_with fail
  refine (againA1 _).mono ?_
  rintro e w5 ⟨rfl, h5⟩
  have S5 := Lib.hid (h5.alloc h5.size (.cells (enA (enX 0 0 85 4 none 0 0)) 41))
  have L5 := Lib.hid (later_trans L4.out S5.out)
  have P5 := Lib.hid (rb_next P4.out S5.out)
  have Q5 := Lib.hid (rb_next Q4.out S5.out)
  have E5 : Hid (Ex w1 w5.heap.size (enX 0 0 85 4 none 0 0) (w5.alloc (.cells (enA (enX 0 0 85 4 none 0 0)) 41))) := ex_new (later_trans L4.out h5) _
  clear h5 L4 P4 Q4 S5
  go_wp2_with fail
  refine (againA2 _).mono ?_
  rintro e w6 ⟨rfl, h6⟩
  have S6 := Lib.hid (h6.alloc h6.size (.cells (enA (enX 0 0 0 0 none 0 0)) 41))
  have L6 := Lib.hid (later_trans L5.out S6.out)
  have P6 := Lib.hid (rb_next P5.out S6.out)
  have Q6 := Lib.hid (rb_next Q5.out S6.out)
  have E6 := Lib.hid (ex_next E5.out S6.out)
  clear h6 L5 P5 Q5 E5 S6
  go_wp2_with fail
  refine (to_ex _).mono ?_
  rintro e w7 ⟨⟨a0, rfl, t7⟩, h7⟩
  have L7 := Lib.hid (later_trans L6.out h7)
  have P7 := Lib.hid (rb_next P6.out h7)
  have Q7 := Lib.hid (rb_next Q6.out h7)
  have E7 := Lib.hid (ex_next E6.out h7)
  have T7 := Lib.hid t7
  clear h7 t7 L6 P6 Q6 E6
  go_wp2_with fail
  refine (to_ex _).mono ?_
  rintro e w8 ⟨⟨a1, rfl, t8⟩, h8⟩
  have L8 := Lib.hid (later_trans L7.out h8)
  have P8 := Lib.hid (rb_next P7.out h8)
  have Q8 := Lib.hid (rb_next Q7.out h8)
  have E8 := Lib.hid (ex_next E7.out h8)
  have T8 := Lib.hid t8
  have U8 := Lib.hid (tos_below T7.out h8)
  clear h8 t8 L7 P7 Q7 E7 T7
  go_wp2_with fail
  refine (to_ex _).mono ?_
  rintro e w9 ⟨⟨a2, rfl, t9⟩, h9⟩
  have L9 := Lib.hid (later_trans L8.out h9)
  have P9 := Lib.hid (rb_next P8.out h9)
  have Q9 := Lib.hid (rb_next Q8.out h9)
  have E9 := Lib.hid (ex_next E8.out h9)
  have T9 := Lib.hid t9
  have U9 := Lib.hid (tos_below U8.out h9)
  have V9 := Lib.hid (tos_below T8.out h9)
  clear h9 t9 L8 P8 Q8 E8 T8 U8
  go_wp2_with fail
  refine (to_ex _).mono ?_
  rintro e wA ⟨⟨a4, rfl, tA⟩, hA'⟩
  have LA := Lib.hid (later_trans L9.out hA')
  have PA := Lib.hid (rb_next P9.out hA')
  have QA := Lib.hid (rb_next Q9.out hA')
  have EA := Lib.hid (ex_next E9.out hA')
  have TA := Lib.hid tA
  have UA := Lib.hid (tos_below U9.out hA')
  have VA := Lib.hid (tos_below V9.out hA')
  have XA := Lib.hid (tos_below T9.out hA')
  clear hA' tA L9 P9 Q9 E9 T9 U9 V9
  go_wp2_with fail
  have S0 : Hid (Below wA.heap.size wA ((wA.alloc (.cells (ensC (some ⟨a0, 0, none⟩) (some ⟨a1, 0, none⟩) (some ⟨a2, 0, none⟩) (some ⟨a4, 0, none⟩)) 41)).alloc (.cells wdsC 36))) := (((Below.refl _ _).alloc (Nat.le_refl _) _).alloc (by rw [World.size_alloc]; omega) _)
  have N0 := Lib.hid (ens_lit wA (some ⟨a0, 0, none⟩) (some ⟨a1, 0, none⟩) (some ⟨a2, 0, none⟩) (some ⟨a4, 0, none⟩) (.cells wdsC 36))
  have D0 : Hid (Wds ((wA.alloc (.cells (ensC (some ⟨a0, 0, none⟩) (some ⟨a1, 0, none⟩) (some ⟨a2, 0, none⟩) (some ⟨a4, 0, none⟩)) 41)).alloc (.cells wdsC 36)) (some ⟨wA.heap.size + 1, 0, none⟩) 5 hA) := by have q := wds_lit (wA.alloc (.cells (ensC (some ⟨a0, 0, none⟩) (some ⟨a1, 0, none⟩) (some ⟨a2, 0, none⟩) (some ⟨a4, 0, none⟩)) 41)); rw [World.size_alloc] at q; exact q
  refine (dueA _ 5 5 N0.out (tos_below UA.out S0.out) (tos_below VA.out S0.out) (tos_below XA.out S0.out) (tos_below TA.out S0.out) D0.out).mono ?_
  rintro e wB ⟨⟨gd, cap, rfl, d0, d1, d2⟩, hB⟩
  have SB := Lib.hid (S0.out.trans (hB.mono S0.out.size))
  have LB := Lib.hid (later_trans LA.out SB.out)
  have PB := Lib.hid (rb_next PA.out SB.out)
  have QB := Lib.hid (rb_next QA.out SB.out)
  have EB := Lib.hid (ex_next EA.out SB.out)
  clear hB N0 D0 S0 SB UA VA XA TA PA QA EA LA
  obtain ⟨p0, _, _⟩ := rb_cells PB.out
  obtain ⟨_, _, q2⟩ := rb_cells QB.out
  obtain ⟨_, _, _, _, _, _, _, _, x8, x9⟩ := ex_cells EB.out
  go_wp2_with fail
  clear p0 q2 x8 x9 d0 d1 d2 PB QB EB
  refine (waitA0 _).mono ?_
  rintro e w' ⟨rfl, rfl⟩
  go_wp2_with fail
  refine (waitA9 _).mono ?_
  rintro e w' ⟨rfl, rfl⟩
  go_wp2_with fail
  refine (waitAm _).mono ?_
  rintro e w' ⟨rfl, rfl⟩
  go_wp2_with fail
  refine (outA1 _).mono ?_
  rintro e wC ⟨rfl, hC⟩
  have LC := Lib.hid (later_trans LB.out hC)
  clear hC LB
  go_wp2_with fail
  refine (outA2 _).mono ?_
  rintro e wD ⟨rfl, hD⟩
  have LD := Lib.hid (later_trans LC.out hD)
  clear hD LC
  go_wp2_with fail
  refine (mayB2 m 2 LD.out R1.out M1.out).mono ?_
  rintro e wE ⟨rfl, hE⟩
  have LE := Lib.hid (later_trans LD.out hE)
  clear hE LD
  have OE := Lib.hid (own_below O1.out LE.out)
  obtain ⟨_, y0, y1, ⟨z0, z1⟩, z2⟩ : ∃ u : Unit, wE.cell? ⟨w.heap.size, 0, none⟩ = some (.string ⟨#[97, 46, 98]⟩) ∧ wE.cell? ⟨w.heap.size, 1, none⟩ = some (.int .i64 1) ∧ (wE.cell? ⟨w.heap.size, 2, none⟩ = some (.int .i64 0) ∧ True) ∧ True := by
    obtain ⟨b, off, e, ⟨u0, u1⟩, u2⟩ := rus_below R1.out LE.out 0 (by omega)
    cases e
    exact ⟨(), u0, u1, ⟨u2, trivial⟩, trivial⟩
  go_wp2_with (at_builtin; go_must (refine wpList_on rfl (wp_append_own _ (.tmp 138) (.tmp 142) 22 rfl w.heap.size 26 i0 (.agg #[.string ⟨#[]⟩, .int .i64 0, .int .i64 0]) 3 32 Tryd.underlying22 hi0 hz0 hz1 hz2 rfl (by decide) _ _ _ rfl (OE.out.alloc _) ⟨wE.heap.size, 0, none⟩ 1 1 (ruL ⟨[97, 46, 98], 1, 0⟩) rfl rfl ?pa ?pb ?pc ?pd ?pe ?_)))
  case pa => exact cell_three_one wE _ _ _ 26
  case pb => exact ruL_one _
  case pc => unfold maxLen; omega
  case pd => omega
  case pe => rw [World.size_alloc]; have := B1.out.size; have := LE.out.size; omega
  intro v' wF hown hgrow _
  have LF : Hid (Below w.heap.size w wF) := ((B1.out.trans (LE.out.mono B1.out.size)).alloc (by have := B1.out.size; have := LE.out.size; omega) _).grown hgrow (by rw [World.size_alloc]; have := B1.out.size; have := LE.out.size; omega) (fun q hq => by cases hq; exact Nat.le_refl _)
  obtain ⟨A3, c3, e3, r3⟩ := own_rus (l := [fA 0, fA 1, fA 2]) (f := fA) (n := 3) hown rfl (fun k hk => by match k, hk with | 0, _ => rfl | 1, _ => rfl | 2, _ => rfl)
  have R3 := Lib.hid r3
  have MF := Lib.hid (show wF.cell? ⟨0, 0, none⟩ = some (.int .i64 m) by rw [LF.out.cell (World.block_lt_of_cell? _ _ hm0.out)]; exact hm0.out)
  subst e3
  clear hown hgrow r3
  go_wp2_with fail
  refine (mayA3 m c3 R3.out MF.out).mono ?_
  rintro e wG ⟨rfl, hG⟩
  have LG := Lib.hid (LF.out.trans (hG.mono LF.out.size))
  clear hG
  go_wp2_with fail
  go_ret
  exact ⟨rfl, LG.out⟩
end Go.Proofs.YtocjjfjcepflnaaDoor
