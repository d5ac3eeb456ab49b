/-
  PROVED HERE: what find of the answer computes.
-/
import Derived.Test.YtocjjfjcepflnaaDoorMay
set_option linter.unusedVariables false
namespace Go.Proofs.YtocjjfjcepflnaaDoor
open Go.RowKit
/-- A rule's cells. -/
structure Ru where
  dm : List UInt8
  kd : Int
  ho : Int
abbrev ruA (x : Ru) : Array Value := #[.string ⟨x.dm.toArray⟩, .int .i64 x.kd, .int .i64 x.ho]
/-- A row of rules in memory. -/
def Rus (W : World) (A : Option Addr) (n : Nat) (f : Nat → Ru) : Prop := ∀ k, k < n → ∃ b off, A = some ⟨b, off, none⟩ ∧
  (W.cell? ⟨b, off + k * 3, none⟩ = some (.string ⟨(f k).dm.toArray⟩) ∧ W.cell? ⟨b, off + k * 3 + 1, none⟩ = some (.int .i64 (f k).kd)) ∧ W.cell? ⟨b, off + k * 3 + 2, none⟩ = some (.int .i64 (f k).ho)
theorem rus_below {W W1 : World} {A : Option Addr} {n : Nat} {f : Nat → Ru} (h : Rus W A n f) (hb : Below W.heap.size W W1) : Rus W1 A n f := fun k hk => by
  obtain ⟨b, off, e, ⟨h1, h2⟩, h3⟩ := h k hk
  exact ⟨b, off, e, ⟨by rw [hb.cell (World.block_lt_of_cell? _ _ h1)]; exact h1, by rw [hb.cell (World.block_lt_of_cell? _ _ h2)]; exact h2⟩, by rw [hb.cell (World.block_lt_of_cell? _ _ h3)]; exact h3⟩
/-- The first place of a domain's own rule, from a place on. -/
def fndI (f : Nat → Ru) (T : List UInt8) (n : Nat) : Int := match (List.range n).find? fun i => (f i).dm == T with | none => -1 | some i => (i : Int)
theorem fnd_yes {f : Nat → Ru} {T : List UInt8} {n k : Nat} (hk : k < n) (h : (f k).dm = T) (g : ∀ j, j < k → (f j).dm ≠ T) : fndI f T n = (k : Int) := by
  unfold fndI
  have e : (List.range n).find? (fun i => (f i).dm == T) = some k := by
    rw [List.find?_range_eq_some]
    refine ⟨by simp [h], by simpa using hk, fun j hj => ?_⟩
    simpa using g j hj
  rw [e]
theorem fnd_no {f : Nat → Ru} {T : List UInt8} {n : Nat} (g : ∀ j, j < n → (f j).dm ≠ T) : fndI f T n = -1 := by
  unfold fndI
  have e : (List.range n).find? (fun i => (f i).dm == T) = none := by
    rw [List.find?_eq_none]
    intro x hx
    simpa using g x (List.mem_range.1 hx)
  rw [e]

set_option maxRecDepth 100000 in
set_option maxHeartbeats 1000000 in
theorem find_any (A : Option Addr) (n c : Nat) (f : Nat → Ru) (T : List UInt8) (w : World) (hR : Rus w A n f) (hn : n ≤ 4611686018427387904) : Calls Tryd.prog 34 #[.slice A n c, .string ⟨T.toArray⟩] w fun e w' => e = .returned (.int .i64 (fndI f T n)) ∧ w = w' := by
  have HR := Lib.hid hR
  clear hR
  go_enter Tryd.func34, Tryd.ntmps34
  go_wp2
  go_loop [5] (fun u => ∃ k : Nat, u = .int .i64 k ∧ k ≤ n ∧ Hid (∀ j, j < k → (f j).dm ≠ T)) (fun u => n - (intOf u).toNat)
  case atStart => exact ⟨0, rfl, by omega, (fun j hj => absurd hj (Nat.not_lt_zero j))⟩
  case round =>
    obtain ⟨k, rfl, hk, HK⟩ := hrel
    by_cases hlt : k < n
    · have hltz : (k : Int) < (n : Int) := by omega
      obtain ⟨b, off, rfl, ⟨t0, _⟩, _⟩ := HR.out k hlt
      have hq := str_beq (f k).dm T
      by_cases hs : (f k).dm = T
      · have HV := Lib.hid (fnd_yes hlt hs HK.out)
        have hq2 : ((f k).dm == T) = true := by simp [hs]
        clear hs hq
        generalize (f k).dm = X at *
        go_wp2_with fail
        go_ret
        exact ⟨by rw [HV.out]; rfl, rfl⟩
      · have HN : Hid (∀ j, j < k + 1 → (f j).dm ≠ T) := fun j hj => by
          by_cases e : j = k
          · subst e; exact hs
          · exact HK.out j (by omega)
        have hq2 : ((f k).dm == T) = false := by simp [hs]
        clear hs hq
        generalize (f k).dm = X at *
        go_wp2_with fail
        go_round
        case rel => exact ⟨k + 1, by go_num, by omega, HN⟩
        case measure => simp [intOf]; omega
    · have hltz : ¬ (k : Int) < (n : Int) := by omega
      have HV := Lib.hid (fnd_no (fun j hj => HK.out j (by omega)) : fndI f T n = -1)
      go_wp2_with fail
      go_ret
      exact ⟨by rw [HV.out]; rfl, rfl⟩
end Go.Proofs.YtocjjfjcepflnaaDoor
