/-
  PROVED HERE: awake of the statements answers true.
-/
import Derived.Test.YtkchebbolldmbaaGreatDoorBt
import Derived.Deep.RegionHeld3
set_option linter.unusedVariables false
namespace Go.Proofs.YtkchebbolldmbaaGreatDoor
open Go.RowKit
abbrev oneE (gb : Nat) : En := ⟨3, [97, 46, 98], 0, 0, [115], [100], some ⟨gb, 0, none⟩, 2, 2, 5, 9, 0⟩
def oneG : Nat → To3 := fun k => if k = 0 then ⟨[120, 32, 121], [99], 2⟩ else ⟨[122], [99], 1⟩
abbrev oneB : Array Value := #[.string ⟨#[120, 32, 121]⟩, .string ⟨#[99]⟩, .int .i64 2, .string ⟨#[122]⟩, .string ⟨#[99]⟩, .int .i64 1]
theorem one_tos {W : World} {gb : Nat} (h : W.heap[gb]? = some (.cells oneB 46 (0, 0))) : Tos W (some ⟨gb, 0, none⟩) 2 oneG := by
  intro k hk
  refine ⟨gb, 0, rfl, ?_⟩
  match k, hk with
  | 0, _ => exact ⟨⟨by rw [Lib.cell_of_heap h]; rfl, by rw [Lib.cell_of_heap h]; rfl⟩, by rw [Lib.cell_of_heap h]; rfl⟩
  | 1, _ => exact ⟨⟨by rw [Lib.cell_of_heap h]; rfl, by rw [Lib.cell_of_heap h]; rfl⟩, by rw [Lib.cell_of_heap h]; rfl⟩

set_option maxRecDepth 100000 in
set_option maxHeartbeats 4000000 in
theorem one_any (w : World) :
    Calls Tryz.prog 20 #[] w fun e w' => (∃ gb, e = .returned (.agg (enA (oneE gb))) ∧ Tos w' (some ⟨gb, 0, none⟩) 2 oneG) ∧ Below w.heap.size w w' := by
  go_enter Tryz.func20, Tryz.ntmps20
  go_wp2_with fail
  have H1 := Lib.hid (ex_new (Below.refl w.heap.size w) (oneE (w.heap.size + 1)))
  have H2 := Lib.hid (ex_next H1.out ((Below.refl _ _).alloc (Nat.le_refl _) (.cells oneB 46)))
  have HK : Hid (((w.alloc (.cells (enA (oneE (w.heap.size + 1))) 32)).alloc (.cells oneB 46)).heap[w.heap.size + 1]? = some (.cells oneB 46 (0, 0))) := by
    show ((w.heap.push _).push _)[w.heap.size + 1]? = _
    have e : w.heap.size + 1 = (w.heap.push (Obj.cells (enA (oneE (w.heap.size + 1))) 32 (0, 0))).size := by rw [Array.size_push]
    generalize Obj.cells (enA (oneE (w.heap.size + 1))) 32 (0, 0) = ob at *
    rw [e, Array.getElem?_push_size]
  obtain ⟨p0, p1, p2, p3, p4, p5, p6, p7, p8, p9⟩ := ex_cells H2.out
  refine bodyPost_ret (v := .agg (enA (oneE (w.heap.size + 1)))) ?_ rfl ⟨⟨w.heap.size + 1, rfl, one_tos HK.out⟩, H2.out.bel⟩
  simp [results, Tryz.results20, go_sem, p0, p1, p2, p3, p4, p5, p6, p7, p8, p9]
def rp1 : List UInt8 := Bnc.rep [104] [115] [100] [([120, 32, 121], [99])]
theorem rp1_fds : Bnc.fds rp1 = [([120, 32, 121], [99])] := by decide +kernel
theorem rp1_len : rp1.length < 1000 := by decide +kernel
theorem hop_c1 : Bnc.hops [82, 101, 99, 101, 105, 118, 101, 100, 58, 32, 120, 13, 10, 114, 69, 67, 69, 73, 86, 69, 68, 58, 13, 10, 88, 45, 82, 101, 99, 101, 105, 118, 101, 100, 58, 32, 121, 13, 10, 13, 10, 82, 101, 99, 101, 105, 118, 101, 100, 58, 32, 122, 13, 10] = 2 := by decide +kernel
theorem stamp_c : Bnc.stamp [104] [103, 0] 7 9 = [82, 101, 99, 101, 105, 118, 101, 100, 58, 32, 102, 114, 111, 109, 32, 103, 63, 32, 98, 121, 32, 104, 32, 105, 100, 32, 55, 59, 32, 57] := by decide +kernel
theorem hop_c2 : Bnc.hops [82, 101, 99, 101, 105, 118, 101, 100, 58, 13, 10] = 1 := by decide +kernel
theorem one_fls : fls oneG 2 = [([120, 32, 121], [99])] := rfl
theorem one_rep : repV [104] [115] [100] [([120, 32, 121], [99])] = .tuple #[sV rp1, .int .i64 0] := by
  unfold repV
  rw [if_neg (by decide), if_pos (by decide +kernel)]
  rfl
theorem nil_rep : repV [104] [] [] [] = .tuple #[.string ⟨#[]⟩, .int .i64 10] := by unfold repV; rw [if_pos (Or.inr rfl)]
theorem fld4 (gb : Nat) (W : World) : (Instr.field 32 (.agg #[.int .u64 3, .string ⟨#[97, 46, 98]⟩, .int .u64 0, .int .u64 0, .string ⟨#[115]⟩, .string ⟨#[100]⟩, .slice (some ⟨gb, 0, none⟩) 2 2, .int .u64 5, .int .u64 9, .int .i64 0]) 4).run Tryz.prog W = .ok (.agg #[.string ⟨#[115]⟩, .string ⟨#[100]⟩]) W := by kernel_rfl
/-- What awake's last region knows of memory. -/
structure Sx (w : World) (A g b o : Nat) (x : En) (W : World) : Prop where
  a : Ex w A x W
  k : W.heap[g]? = some (.cells (bkA [115] [100] 0) 46 (0, 0))
  q0 : W.cell? ⟨b, o, none⟩ = some (.string ⟨#[120, 32, 121]⟩)
  q1 : W.cell? ⟨b, o + 1, none⟩ = some (.string ⟨#[99]⟩)
theorem sx_next {w W W1 : World} {A g b o : Nat} {x : En} (h : Sx w A g b o x W) (z : Below W.heap.size W W1) : Sx w A g b o x W1 :=
  ⟨ex_next h.a z, (z.block g (Array.getElem?_eq_some_iff.1 h.k).1).trans h.k, by rw [z.cell (World.block_lt_of_cell? _ _ h.q0)]; exact h.q0, by rw [z.cell (World.block_lt_of_cell? _ _ h.q1)]; exact h.q1⟩
theorem sx_call {w W : World} {A g b o : Nat} {x : En} {f : FuncId} {args : Array Value} {e : Value} (h : Sx w A g b o x W) (c : Calls Tryz.prog f args W fun e' w' => e' = .returned e ∧ Below W.heap.size W w') :
    Calls Tryz.prog f args W fun e' w' => e' = .returned e ∧ Sx w A g b o x w' := c.mono fun _ _ k => ⟨k.1, sx_next h k.2⟩
theorem aow_bos {W : World} {base : Nat} {v : Value} {l : List Bxp} (h : Aow W base v l) : ∃ A c, v = .slice A l.length c ∧ Bos W A l := bow_bos h

set_option maxRecDepth 100000 in
set_option maxHeartbeats 8000000 in
theorem awake_any (m : Int) (w : World) (hm : w.cell? ⟨3, 0, none⟩ = some (.int .i64 m)) (htab : Tabs w) :
    Calls Tryz.prog 5 #[] w fun e w' => e = .returned (.bool true) ∧ Below w.heap.size w w' := by
  have HM := Lib.hid (fun (W : World) (h : Below w.heap.size w W) => (show W.cell? ⟨3, 0, none⟩ = some (.int .i64 m) from by rw [h.cell (World.block_lt_of_cell? _ _ hm)]; exact hm))
  have HT := Lib.hid (fun (W : World) (h : Below w.heap.size w W) => tabs_below htab h)
  have HONE := Lib.hid one_any
  clear hm htab
  go_enter Tryz.func5, Tryz.ntmps5
  go_wp2_with fail
  refine (HONE.out w).mono ?_
  rintro e w1 ⟨⟨g1, rfl, t1⟩, hb1⟩
  have HB1 := Lib.hid hb1
  have C1 := report_any ⟨#[104]⟩ (oneE g1) oneG m w1 t1 (by show 2 ≤ 1000; omega) (show ([115] : List UInt8).length < 4294967281 from by decide) (show ([100] : List UInt8).length < 4294967281 from by decide) (fun k hk => by
    have : k < 2 := hk
    match k, this with
    | 0, _ => decide
    | 1, _ => decide) (by decide) (HM.out w1 hb1)
  rw [show fls oneG (oneE g1).n = [([120, 32, 121], [99])] from one_fls, show (⟨#[104]⟩ : ByteArray).data.toList = [104] from rfl, show (oneE g1).fl = [115] from rfl, show (oneE g1).fd = [100] from rfl, one_rep] at C1
  have HC1 := Lib.hid C1
  clear C1 t1 hb1
  go_wp2_with fail
  refine HC1.out.mono ?_
  rintro e w2 ⟨rfl, hb2⟩
  have HB2 := Lib.hid (HB1.out.trans (hb2.mono HB1.out.size))
  clear hb2 HC1 HB1
  unfold sV
  go_wp2_with fail
  refine (HONE.out w2).mono ?_
  rintro e w3 ⟨⟨g3, rfl, t3⟩, hb3⟩
  have HB3 := Lib.hid (HB2.out.trans (hb3.mono HB2.out.size))
  have HC3 := Lib.hid (entry_yes (oneE g3) oneG w3 t3 (by show 2 ≤ 1000000; omega) (show ¬ (([115] : List UInt8) = [] ∧ ([100] : List UInt8) = []) from by decide) (by rw [show fls oneG (oneE g3).n = [([120, 32, 121], [99])] from one_fls]; decide))
  clear t3 hb3 HB2
  go_wp2_with fail
  refine HC3.out.mono ?_
  rintro e w4 ⟨⟨g4, rfl, hg4, k4⟩, hb4⟩
  have HB4 := Lib.hid (HB3.out.trans (hb4.mono HB3.out.size))
  have K4 := Lib.hid k4
  clear k4 hb4 HB3 HC3
  go_wp2_with fail
  have X4 := Lib.hid (ex_new HB4.out (bkE (oneE g3) g4))
  have hs4 := HB4.out.size
  have hg4b : g4 < w4.heap.size := (Array.getElem?_eq_some_iff.1 K4.out).1
  have K4a : Hid ((w4.alloc (.cells (enA (bkE (oneE g3) g4)) 32)).heap[g4]? = some (.cells (bkA [115] [100] 0) 46 (0, 0))) := (((Below.refl w4.heap.size w4).alloc (Nat.le_refl _) _).block g4 hg4b).trans K4.out
  refine (entry_no enZ oneG _ (fun k hk => absurd hk (Nat.not_lt_zero _)) (show 0 ≤ 1000000 by omega) (Or.inl ⟨rfl, rfl⟩)).mono ?_
  rintro e w5 ⟨rfl, hb5⟩
  have X5 := Lib.hid (ex_next X4.out hb5)
  have K5 : Hid (w5.heap[g4]? = some (.cells (bkA [115] [100] 0) 46 (0, 0))) := (hb5.block g4 (Array.getElem?_eq_some_iff.1 K4a.out).1).trans K4a.out
  clear hb5 X4 K4 K4a hg4b HB4
  unfold enZ
  go_wp2_with fail
  have X6 := Lib.hid (ex_next X5.out ((Below.refl _ _).alloc (Nat.le_refl _) (.cells (enA ⟨0, [], 0, 0, [], [], none, 0, 0, 0, 0, 0⟩) 32)))
  have K6 : Hid ((w5.alloc (.cells (enA ⟨0, [], 0, 0, [], [], none, 0, 0, 0, 0, 0⟩) 32)).heap[g4]? = some (.cells (bkA [115] [100] 0) 46 (0, 0))) := (((Below.refl w5.heap.size w5).alloc (Nat.le_refl _) _).block g4 (Array.getElem?_eq_some_iff.1 K5.out).1).trans K5.out
  have C6 := report_any ⟨#[104]⟩ ⟨0, [], 0, 0, [], [], none, 0, 0, 0, 0, 0⟩ oneG m (w5.alloc (.cells (enA ⟨0, [], 0, 0, [], [], none, 0, 0, 0, 0, 0⟩) 32)) (fun k hk => absurd hk (Nat.not_lt_zero _)) (show 0 ≤ 1000 by omega) (show ([] : List UInt8).length < 4294967281 from by decide) (show ([] : List UInt8).length < 4294967281 from by decide) (fun k hk => absurd hk (Nat.not_lt_zero _)) (by decide) (HM.out _ X6.out.bel)
  rw [show repV (⟨#[104]⟩ : ByteArray).data.toList [] [] (fls oneG 0) = .tuple #[.string ⟨#[]⟩, .int .i64 10] from nil_rep] at C6
  refine C6.mono ?_
  rintro e w7 ⟨rfl, hb7⟩
  have X7 := Lib.hid (ex_next X6.out hb7)
  have K7 : Hid (w7.heap[g4]? = some (.cells (bkA [115] [100] 0) 46 (0, 0))) := (hb7.block g4 (Array.getElem?_eq_some_iff.1 K6.out).1).trans K6.out
  clear hb7 C6 X5 X6 K5 K6
  have C8 := failedT_any ⟨rp1.toArray⟩ m w7 (by rw [size_mk]; have := rp1_len; omega) (HM.out w7 X7.out.bel)
  rw [show (⟨rp1.toArray⟩ : ByteArray).data.toList = rp1 from rfl, rp1_fds] at C8
  have HC8 := Lib.hid C8
  clear C8
  have HR1 : Hid (rp1 = rp1) := rfl
  generalize rp1 = rp at *
  go_wp2_with fail
  refine HC8.out.mono ?_
  rintro e w8 ⟨⟨v8, rfl, ho⟩, hb8⟩
  obtain ⟨A8, c8, rfl, hbo⟩ := aow_bos ho
  have X8 := Lib.hid (ex_next X7.out hb8)
  have K8 : Hid (w8.heap[g4]? = some (.cells (bkA [115] [100] 0) 46 (0, 0))) := (hb8.block g4 (Array.getElem?_eq_some_iff.1 K7.out).1).trans K7.out
  have HBO8 := Lib.hid hbo
  clear ho hb8 hbo HC8 X7 K7 HR1
  obtain ⟨b8, o8, rfl, q0, q1⟩ := HBO8.out 0 (by decide)
  have HS8 : Hid (Sx w w4.heap.size g4 b8 o8 (bkE (oneE g3) g4) w8) := ⟨X8.out, K8.out, q0, q1⟩
  have D1 := Lib.hid (fun (W : World) (h : Sx w w4.heap.size g4 b8 o8 (bkE (oneE g3) g4) W) => sx_call h (e := .int .i64 2) (by
    have C := hops_any ⟨#[82, 101, 99, 101, 105, 118, 101, 100, 58, 32, 120, 13, 10, 114, 69, 67, 69, 73, 86, 69, 68, 58, 13, 10, 88, 45, 82, 101, 99, 101, 105, 118, 101, 100, 58, 32, 121, 13, 10, 13, 10, 82, 101, 99, 101, 105, 118, 101, 100, 58, 32, 122, 13, 10]⟩ m W (by decide) (HM.out W h.a.bel)
    rw [show Bnc.hops (⟨#[82, 101, 99, 101, 105, 118, 101, 100, 58, 32, 120, 13, 10, 114, 69, 67, 69, 73, 86, 69, 68, 58, 13, 10, 88, 45, 82, 101, 99, 101, 105, 118, 101, 100, 58, 32, 121, 13, 10, 13, 10, 82, 101, 99, 101, 105, 118, 101, 100, 58, 32, 122, 13, 10]⟩ : ByteArray).data.toList = 2 from hop_c1] at C
    exact C))
  have D2 := Lib.hid (fun (W : World) (h : Sx w w4.heap.size g4 b8 o8 (bkE (oneE g3) g4) W) => sx_call h (e := .string ⟨#[82, 101, 99, 101, 105, 118, 101, 100, 58, 32, 102, 114, 111, 109, 32, 103, 63, 32, 98, 121, 32, 104, 32, 105, 100, 32, 55, 59, 32, 57]⟩) (by
    have C := stamp_any ⟨#[104]⟩ ⟨#[103, 0]⟩ 7 9 W (by decide) (by decide) (by decide) (by decide) (HT.out W h.a.bel)
    rw [show Bnc.stamp (⟨#[104]⟩ : ByteArray).data.toList (⟨#[103, 0]⟩ : ByteArray).data.toList 7 9 = [82, 101, 99, 101, 105, 118, 101, 100, 58, 32, 102, 114, 111, 109, 32, 103, 63, 32, 98, 121, 32, 104, 32, 105, 100, 32, 55, 59, 32, 57] from stamp_c] at C
    exact C))
  have D3 := Lib.hid (fun (W : World) (h : Sx w w4.heap.size g4 b8 o8 (bkE (oneE g3) g4) W) => (HONE.out W).mono (R' := fun e w' => (∃ gb : Nat, e = .returned (.agg #[.int .u64 3, .string ⟨#[97, 46, 98]⟩, .int .u64 0, .int .u64 0, .string ⟨#[115]⟩, .string ⟨#[100]⟩, .slice (some ⟨gb, 0, none⟩) 2 2, .int .u64 5, .int .u64 9, .int .i64 0])) ∧ Sx w w4.heap.size g4 b8 o8 (bkE (oneE g3) g4) w') fun e w' ⟨⟨gb, h1, _⟩, h2⟩ => ⟨⟨gb, h1⟩, sx_next h h2⟩)
  have D4 := Lib.hid (fun (W : World) (h : Sx w w4.heap.size g4 b8 o8 (bkE (oneE g3) g4) W) => sx_call h (e := .bool false) (by
    have C := loops_any ⟨#[82, 101, 99, 101, 105, 118, 101, 100, 58, 13, 10]⟩ m W (by decide) (HM.out W h.a.bel)
    rw [show Bnc.hops (⟨#[82, 101, 99, 101, 105, 118, 101, 100, 58, 13, 10]⟩ : ByteArray).data.toList = 1 from hop_c2] at C
    exact C))
  have s0 := fun (W : World) (h : Sx w w4.heap.size g4 b8 o8 (bkE (oneE g3) g4) W) => (ex_cells h.a).1
  have s1 := fun (W : World) (h : Sx w w4.heap.size g4 b8 o8 (bkE (oneE g3) g4) W) => (ex_cells h.a).2.1
  have s2 := fun (W : World) (h : Sx w w4.heap.size g4 b8 o8 (bkE (oneE g3) g4) W) => (ex_cells h.a).2.2.1
  have s3 := fun (W : World) (h : Sx w w4.heap.size g4 b8 o8 (bkE (oneE g3) g4) W) => (ex_cells h.a).2.2.2.1
  have s4 := fun (W : World) (h : Sx w w4.heap.size g4 b8 o8 (bkE (oneE g3) g4) W) => (ex_cells h.a).2.2.2.2.1
  have s5 := fun (W : World) (h : Sx w w4.heap.size g4 b8 o8 (bkE (oneE g3) g4) W) => (ex_cells h.a).2.2.2.2.2.1
  have s6 := fun (W : World) (h : Sx w w4.heap.size g4 b8 o8 (bkE (oneE g3) g4) W) => (ex_cells h.a).2.2.2.2.2.2.1
  have s7 := fun (W : World) (h : Sx w w4.heap.size g4 b8 o8 (bkE (oneE g3) g4) W) => (ex_cells h.a).2.2.2.2.2.2.2.1
  have s8 := fun (W : World) (h : Sx w w4.heap.size g4 b8 o8 (bkE (oneE g3) g4) W) => (ex_cells h.a).2.2.2.2.2.2.2.2.1
  have s9 := fun (W : World) (h : Sx w w4.heap.size g4 b8 o8 (bkE (oneE g3) g4) W) => (ex_cells h.a).2.2.2.2.2.2.2.2.2
  have r0 := fun (W : World) (h : Sx w w4.heap.size g4 b8 o8 (bkE (oneE g3) g4) W) => (show W.cell? ⟨g4, 0, none⟩ = some (.string ⟨#[115]⟩) from by rw [Lib.cell_of_heap h.k]; rfl)
  have r1 := fun (W : World) (h : Sx w w4.heap.size g4 b8 o8 (bkE (oneE g3) g4) W) => (show W.cell? ⟨g4, 1, none⟩ = some (.string ⟨#[100]⟩) from by rw [Lib.cell_of_heap h.k]; rfl)
  have q0 := fun (W : World) (h : Sx w w4.heap.size g4 b8 o8 (bkE (oneE g3) g4) W) => (show W.cell? ⟨b8, o8, none⟩ = some (.string ⟨#[120, 32, 121]⟩) from h.q0)
  have q1 := fun (W : World) (h : Sx w w4.heap.size g4 b8 o8 (bkE (oneE g3) g4) W) => (show W.cell? ⟨b8, o8 + 1, none⟩ = some (.string ⟨#[99]⟩) from h.q1)
  have q2 := fun (w : World) => eql24 ⟨#[120, 32, 121]⟩ ⟨#[99]⟩ ⟨#[120, 32, 121]⟩ ⟨#[99]⟩ w
  have q3 := fun (w : World) => eql24 ⟨#[]⟩ ⟨#[]⟩ ⟨#[]⟩ ⟨#[]⟩ w
  have q4 := fun (w : World) => eql24 ⟨#[115]⟩ ⟨#[100]⟩ ⟨#[115]⟩ ⟨#[100]⟩ w
  have q5 := gua24
  have q6 := fld4
  clear X8 K8 HBO8 HONE HM HT
  go_wp2_with fail
  simp only [List.append_eq, List.cons_append, List.nil_append]
  go_region_held3 (fun W => Sx w w4.heap.size g4 b8 o8 (bkE (oneE g3) g4) W) (first | assumption | exact HS8.out | exact sx_next HS8.out (Below.refl _ _).drew | exact sx_next (by assumption) (Below.refl _ _).drew) (first
    | (go_at_call 6; refine (D1.out _ (by assumption)).mono ?_; rintro e w9 ⟨rfl, h9⟩)
    | (go_at_call 9; refine (D2.out _ (by assumption)).mono ?_; rintro e w9 ⟨rfl, h9⟩)
    | (go_at_call 20; refine (D3.out _ (by assumption)).mono ?_; rintro e w9 ⟨⟨gb, rfl⟩, h9⟩)
    | (go_at_call 8; refine (D4.out _ (by assumption)).mono ?_; rintro e w9 ⟨rfl, h9⟩))
  all_goals go_wp2
  all_goals go_ret
  all_goals exact ⟨rfl, h9.a.bel⟩
end Go.Proofs.YtkchebbolldmbaaGreatDoor
