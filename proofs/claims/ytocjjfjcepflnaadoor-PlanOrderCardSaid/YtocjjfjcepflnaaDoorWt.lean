/-
  PROVED HERE: what waits of the program computes.
-/
import Derived.Test.YtocjjfjcepflnaaDoorAg
set_option linter.unusedVariables false
namespace Go.Proofs.YtocjjfjcepflnaaDoor
open Go.RowKit
/-- A recipient's cells. -/
structure To3 where
  lo : List UInt8
  dm : List UInt8
  st : Int
abbrev toA (x : To3) : Array Value := #[.string ⟨x.lo.toArray⟩, .string ⟨x.dm.toArray⟩, .int .i64 x.st]
/-- A row of recipients in memory. -/
def Tos (W : World) (A : Option Addr) (n : Nat) (g : Nat → To3) : Prop := ∀ k, k < n → ∃ b off, A = some ⟨b, off, none⟩ ∧
  (W.cell? ⟨b, off + k * 3, none⟩ = some (.string ⟨(g k).lo.toArray⟩) ∧ W.cell? ⟨b, off + k * 3 + 1, none⟩ = some (.string ⟨(g k).dm.toArray⟩)) ∧ W.cell? ⟨b, off + k * 3 + 2, none⟩ = some (.int .i64 (g k).st)
theorem tos_below {W W1 : World} {A : Option Addr} {n : Nat} {g : Nat → To3} (h : Tos W A n g) (hb : Below W.heap.size W W1) : Tos W1 A n g := fun k hk => by
  obtain ⟨b, off, e, ⟨h1, h2⟩, h3⟩ := h k hk
  exact ⟨b, off, e, ⟨by rw [hb.cell (World.block_lt_of_cell? _ _ h1)]; exact h1, by rw [hb.cell (World.block_lt_of_cell? _ _ h2)]; exact h2⟩, by rw [hb.cell (World.block_lt_of_cell? _ _ h3)]; exact h3⟩
/-- Does one of them wait? -/
def wtB (n : Nat) (g : Nat → To3) : Bool := (List.range n).any fun k => (g k).st == 0
theorem wtB_yes {n : Nat} {g : Nat → To3} {k : Nat} (hk : k < n) (h : (g k).st = 0) : wtB n g = true := by
  unfold wtB
  rw [List.any_eq_true]
  exact ⟨k, List.mem_range.2 hk, by simp [h]⟩
theorem wtB_no {n : Nat} {g : Nat → To3} (h : ∀ j, j < n → (g j).st ≠ 0) : wtB n g = false := by
  unfold wtB
  rw [List.any_eq_false]
  intro k hk
  simpa using h k (List.mem_range.1 hk)

set_option maxRecDepth 100000 in
theorem waits1_any (x : To3) (w : World) : Calls Tryd.prog 50 #[.agg (toA x)] w fun e w' => e = .returned (.bool (x.st == 0)) ∧ Below w.heap.size w w' := by
  have HB : Hid (Below w.heap.size w (w.alloc (.cells (toA x) 59))) := (Below.refl _ _).alloc (Nat.le_refl _) _
  go_enter Tryd.func50, Tryd.ntmps50
  go_wp2_with fail
  go_ret
  exact ⟨rfl, HB.out⟩

set_option maxRecDepth 100000 in
set_option maxHeartbeats 1000000 in
theorem indexFunc_any (A : Option Addr) (n c : Nat) (g : Nat → To3) (w : World) (hT : Tos w A n g) (hn : n ≤ 4611686018427387904) : Calls Tryd.prog 59 #[.slice A n c, .func (.func 50) #[] #[]] w fun e w' => (∃ v : Int, e = .returned (.int .i64 v) ∧ decide (0 ≤ v) = wtB n g) ∧ Below w.heap.size w w' := by
  have HT := Lib.hid hT
  clear hT
  go_enter Tryd.func59, Tryd.ntmps59
  go_wp2
  go_loopw [8] (fun u wr => ∃ k : Nat, u = .int .i64 k ∧ k ≤ n ∧ Hid (∀ j, j < k → (g j).st ≠ 0) ∧ Hid (Below w.heap.size w wr)) (fun u _ => n - (intOf u).toNat)
  case atStart => exact ⟨0, rfl, by omega, (fun j hj => absurd hj (Nat.not_lt_zero j)), Below.refl _ _⟩
  case round =>
    obtain ⟨k, rfl, hk, HK, HB⟩ := hrel
    by_cases hlt : k < n
    · have hltz : (k : Int) < (n : Int) := by omega
      have HT2 := Lib.hid (tos_below HT.out HB.out)
      obtain ⟨b, off, rfl, ⟨t1, t2⟩, t3⟩ := HT2.out k hlt
      have HC := Lib.hid (fun W => waits1_any (g k) W)
      by_cases hs : (g k).st = 0
      · have HV := Lib.hid (wtB_yes hlt hs)
        rw [show ((g k).st == 0) = true by simp [hs]] at HC
        clear hs
        generalize g k = x at *
        go_wp2_with fail
        refine (HC.out _).mono ?_
        rintro e w1 ⟨rfl, h1⟩
        have H1 := Lib.hid h1
        have hsz := HB.out.size
        clear h1
        go_wp2_with fail
        go_ret
        exact ⟨⟨_, rfl, by rw [HV.out]; exact decide_eq_true (by omega)⟩, HB.out.trans (H1.out.mono hsz)⟩
      · have HN : Hid (∀ j, j < k + 1 → (g j).st ≠ 0) := fun j hj => by
          by_cases e : j = k
          · subst e; exact hs
          · exact HK.out j (by omega)
        rw [show ((g k).st == 0) = false by simp [hs]] at HC
        clear hs
        generalize g k = x at *
        go_wp2_with fail
        refine (HC.out _).mono ?_
        rintro e w1 ⟨rfl, h1⟩
        have H1 := Lib.hid h1
        have hsz := HB.out.size
        clear h1
        go_wp2_with fail
        go_roundw
        case rel => exact ⟨k + 1, by go_num, by omega, HN, HB.out.trans (H1.out.mono hsz)⟩
        case measure => simp [intOf]; omega
    · have hltz : ¬ (k : Int) < (n : Int) := by omega
      have hkn : k = n := by omega
      have HV := Lib.hid (wtB_no (fun j hj => HK.out j (by omega)) : wtB n g = false)
      go_wp2_with fail
      go_ret
      exact ⟨⟨_, rfl, by rw [HV.out]; rfl⟩, HB.out⟩

set_option maxRecDepth 100000 in
theorem contains_any (A : Option Addr) (n c : Nat) (g : Nat → To3) (w : World) (hT : Tos w A n g) (hn : n ≤ 4611686018427387904) : Calls Tryd.prog 49 #[.slice A n c, .func (.func 50) #[] #[]] w fun e w' => e = .returned (.bool (wtB n g)) ∧ Below w.heap.size w w' := by
  have HI := Lib.hid (indexFunc_any A n c g w hT hn)
  clear hT
  go_enter Tryd.func49, Tryd.ntmps49
  go_wp2_with fail
  refine HI.out.mono ?_
  rintro e w1 ⟨⟨v, rfl, hv⟩, h1⟩
  have H1 := Lib.hid h1
  clear h1
  have HV := Lib.hid hv
  clear hv
  go_wp2_with fail
  go_ret
  exact ⟨by rw [← HV.out]; rfl, H1.out⟩

set_option maxRecDepth 100000 in
theorem waits_any (x : En) (g : Nat → To3) (w : World) (hT : Tos w x.A x.n g) (hn : x.n ≤ 4611686018427387904) : Calls Tryd.prog 36 #[.agg (enA x)] w fun e w' => e = .returned (.bool (wtB x.n g)) ∧ Below w.heap.size w w' := by
  have E1 := Lib.hid (ex_new (Below.refl w.heap.size w) x)
  have HI := Lib.hid (contains_any x.A x.n x.c g _ (tos_below hT E1.out.bel) hn)
  clear hT
  go_enter Tryd.func36, Tryd.ntmps36
  go_wp2_with fail
  refine HI.out.mono ?_
  rintro e w1 ⟨rfl, h1⟩
  have H1 := Lib.hid (ex_next E1.out h1)
  clear h1
  go_wp2_with fail
  go_ret
  exact ⟨rfl, H1.out.bel⟩
end Go.Proofs.YtocjjfjcepflnaaDoor
