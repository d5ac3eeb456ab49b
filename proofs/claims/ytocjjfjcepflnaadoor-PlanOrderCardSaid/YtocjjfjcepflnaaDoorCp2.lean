/-
  PROVED HERE: what compare of the program's Due computes.
-/
import Derived.Test.YtocjjfjcepflnaaDoorCp
set_option linter.unusedVariables false
namespace Go.Proofs.YtocjjfjcepflnaaDoor
open Go.RowKit Go.Sort
/-- Two boxes of three cells, and what has become of the world. -/
def Sd (w : World) (x y : Du) (W : World) : Prop :=
  (((W.cell? ⟨w.heap.size, 0, none⟩ = some (.int .u64 x.wt) ∧ W.cell? ⟨w.heap.size, 1, none⟩ = some (.int .u64 x.nx)) ∧ W.cell? ⟨w.heap.size, 2, none⟩ = some (.int .u64 x.id)) ∧
    ((W.cell? ⟨w.heap.size + 1, 0, none⟩ = some (.int .u64 y.wt) ∧ W.cell? ⟨w.heap.size + 1, 1, none⟩ = some (.int .u64 y.nx)) ∧ W.cell? ⟨w.heap.size + 1, 2, none⟩ = some (.int .u64 y.id))) ∧ Gq w W
theorem sd_next {w W W1 : World} {x y : Du} (h : Sd w x y W) (hb : Below W.heap.size W W1) (hg : Gq w W1) : Sd w x y W1 := by
  obtain ⟨⟨⟨⟨a, b⟩, c⟩, ⟨d, e⟩, f⟩, _⟩ := h
  have k : ∀ (p : Addr) (v : Value), W.cell? p = some v → W1.cell? p = some v := fun p v q => by rw [hb.cell (World.block_lt_of_cell? _ _ q)]; exact q
  exact ⟨⟨⟨⟨k _ _ a, k _ _ b⟩, k _ _ c⟩, ⟨k _ _ d, k _ _ e⟩, k _ _ f⟩, hg⟩
theorem sd_alloc {w W : World} {x y : Du} (h : Sd w x y W) (o : Obj) : Sd w x y (W.alloc o) := sd_next h ((Below.refl _ _).alloc (Nat.le_refl _) o) (gq_alloc h.2 o)
theorem sd_drew {w W : World} {x y : Du} (h : Sd w x y W) : Sd w x y W.drew := sd_next h (Below.refl _ _).drew (gq_drew h.2)
theorem sd_new (w : World) (x y : Du) : Sd w x y ((w.alloc (.cells (duA x) 75)).alloc (.cells (duA y) 75)) := by
  have hB : Below (w.alloc (.cells (duA x) 75)).heap.size (w.alloc (.cells (duA x) 75)) ((w.alloc (.cells (duA x) 75)).alloc (.cells (duA y) 75)) := (Below.refl _ _).alloc (Nat.le_refl _) _
  have k : ∀ (i : Nat) (v : Value), (w.alloc (.cells (duA x) 75)).cell? ⟨w.heap.size, i, none⟩ = some v → ((w.alloc (.cells (duA x) 75)).alloc (.cells (duA y) 75)).cell? ⟨w.heap.size, i, none⟩ = some v := fun i v q => by rw [hB.cell (World.block_lt_of_cell? _ _ q)]; exact q
  have e : w.heap.size + 1 = (w.alloc (.cells (duA x) 75)).heap.size := by simp
  refine ⟨⟨⟨⟨k _ _ ?_, k _ _ ?_⟩, k _ _ ?_⟩, ⟨?_, ?_⟩, ?_⟩, gq_alloc (gq_alloc (gq_refl w) _) _⟩
  · rw [World.cell?_alloc_new]; rfl
  · rw [World.cell?_alloc_new]; rfl
  · rw [World.cell?_alloc_new]; rfl
  · rw [e, World.cell?_alloc_new]; rfl
  · rw [e, World.cell?_alloc_new]; rfl
  · rw [e, World.cell?_alloc_new]; rfl

set_option maxRecDepth 100000 in
set_option maxHeartbeats 2000000 in
theorem compareD_any (x y : Du) (w : World) (hx : 0 ≤ x.wt ∧ x.wt < 18446744073709551616) (hy : 0 ≤ y.wt ∧ y.wt < 18446744073709551616) : Calls Tryd.prog 38 #[.agg (duA x), .agg (duA y)] w fun e w' => e = .returned (.int .i64 (cmpD x y)) ∧ Gq w w' := by
  have HS := Lib.hid (sd_new w x y)
  have C1 := Lib.hid (fun W => compare_any x.wt y.wt W hx.1 hx.2 hy.1 hy.2)
  have C2 := Lib.hid (fun W => cmpI_any x.nx y.nx W)
  have C3 := Lib.hid (fun W => cmpI_any x.id y.id W)
  unfold cmpD
  generalize Wgh.cmpW x.wt.toNat y.wt.toNat = a at *
  generalize Pln.cmpI x.nx y.nx = b at *
  generalize Pln.cmpI x.id y.id = c at *
  have C4 := Lib.hid (fun (W : World) => or_any a b c W.heap.size (W.alloc (.cells #[.int .i64 a, .int .i64 b, .int .i64 c] 3)) (by rw [World.cell?_alloc_new]; rfl) (by rw [World.cell?_alloc_new]; rfl) (by rw [World.cell?_alloc_new]; rfl))
  have C5 := Lib.hid (fun (W : World) => or_any a b c W.heap.size (W.alloc (.cells #[.int .i64 a, .int .i64 b, .int .i64 c] 3)).drew (by show (W.alloc _).cell? _ = _; rw [World.cell?_alloc_new]; rfl) (by show (W.alloc _).cell? _ = _; rw [World.cell?_alloc_new]; rfl) (by show (W.alloc _).cell? _ = _; rw [World.cell?_alloc_new]; rfl))
  clear hx hy
  go_enter Tryd.func38, Tryd.ntmps38
  go_wp2_with fail
  unfold duA at HS
  generalize (w.alloc _).alloc _ = W2 at *
  have hs2 := HS.out
  unfold Sd at hs2
  obtain ⟨⟨⟨⟨c1, c2⟩, c3⟩, ⟨c4, c5⟩, c6⟩, c7⟩ := hs2
  go_region_held3 (fun W => (((W.cell? ⟨w.heap.size, 0, none⟩ = some (.int .u64 x.wt) ∧ W.cell? ⟨w.heap.size, 1, none⟩ = some (.int .u64 x.nx)) ∧ W.cell? ⟨w.heap.size, 2, none⟩ = some (.int .u64 x.id)) ∧
    ((W.cell? ⟨w.heap.size + 1, 0, none⟩ = some (.int .u64 y.wt) ∧ W.cell? ⟨w.heap.size + 1, 1, none⟩ = some (.int .u64 y.nx)) ∧ W.cell? ⟨w.heap.size + 1, 2, none⟩ = some (.int .u64 y.id))) ∧ Gq w W) (first | assumption | exact sd_drew HS.out | exact sd_alloc (by assumption) _) (first
      | (go_at_call 53; refine (C1.out _).mono ?_; rintro e w' ⟨rfl, rfl⟩)
      | (go_at_call 54; with_reducible refine Calls.mono (C2.out _) ?_; rintro e w' ⟨rfl, rfl⟩)
      | (go_at_call 54; with_reducible refine Calls.mono (C3.out _) ?_; rintro e w' ⟨rfl, rfl⟩)
      | (go_at_call 52; refine (C4.out _).mono ?_; rintro e w' ⟨rfl, rfl⟩)
      | (go_at_call 52; refine (C5.out _).mono ?_; rintro e w' ⟨rfl, rfl⟩))
  all_goals go_wp2
  all_goals go_ret
  all_goals exact ⟨rfl, by first | exact gq_drew (gq_alloc c7 _) | exact gq_alloc (gq_drew c7) _⟩
end Go.Proofs.YtocjjfjcepflnaaDoor
