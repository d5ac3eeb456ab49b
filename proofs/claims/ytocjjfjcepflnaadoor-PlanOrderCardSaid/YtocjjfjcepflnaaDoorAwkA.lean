/-
  PROVED HERE: what awake of the statements asks, call by call.
-/
import Derived.Test.YtocjjfjcepflnaaDoorOwn
import Derived.Test.YtocjjfjcepflnaaDoorDue
set_option linter.unusedVariables false
namespace Go.Proofs.YtocjjfjcepflnaaDoor
open Go.RowKit
variable {w W W1 : World}
def fA : Nat → Ru
  | 0 => ⟨[97, 46, 98], 1, 0⟩
  | 1 => ⟨[42], 2, 2⟩
  | 2 => ⟨[97, 46, 98], 1, 0⟩
  | _ => ruZ
theorem okA2 : MayOk fA 2 := ⟨by decide, by decide, fun i j h1 h2 => by
  have : i = 0 := by omega
  have : j = 1 := by omega
  subst_vars
  decide⟩
theorem okA1 : MayOk fA 1 := ⟨by decide, by decide, fun i j h1 h2 => by omega⟩
theorem noA3 : ¬ MayOk fA 3 := fun h => h.2.2 0 2 (by omega) (by omega) rfl
theorem rtA1 : rtO fA 2 [120, 46, 65, 46, 98] = (0 : Nat) := by
  unfold rtO
  rw [if_pos ⟨by decide, mayL_yes okA2⟩]
  decide
theorem rtA2 : rtO fA 2 [99] = (1 : Nat) := by
  unfold rtO
  rw [if_pos ⟨by decide, mayL_yes okA2⟩]
  decide
theorem rtA3 : rtO fA 1 [99] = -1 := by
  unfold rtO
  rw [if_pos ⟨by decide, mayL_yes okA1⟩]
  decide
theorem lenA (k : Nat) : (fA k).dm.length < 4294967281 := by
  match k with
  | 0 => decide
  | 1 => decide
  | 2 => decide
  | k + 3 => show (ruZ).dm.length < _; decide
theorem rus_take {A : Option Addr} {n k : Nat} {f : Nat → Ru} (h : Rus W A n f) (hk : k ≤ n) : Rus W A k f := fun i hi => h i (Nat.lt_of_lt_of_le hi hk)
/-- The rules of awake in memory. -/
theorem rus_lit (W : World) : Rus (W.alloc (.cells #[.string ⟨#[97, 46, 98]⟩, .int .i64 1, .int .i64 0, .string ⟨#[42]⟩, .int .i64 2, .int .i64 2] 26)) (some ⟨W.heap.size, 0, none⟩) 2 fA := fun k hk => by
  refine ⟨_, 0, rfl, ⟨?_, ?_⟩, ?_⟩ <;> rw [World.cell?_alloc_new] <;> (match k, hk with | 0, _ => rfl | 1, _ => rfl)
theorem routeA1 (m : Int) {A : Option Addr} (c : Nat) (hR : Rus W A 2 fA) (hm : W.cell? ⟨0, 0, none⟩ = some (.int .i64 m)) :
    Calls Tryd.prog 12 #[.slice A 2 c, .string ⟨#[120, 46, 65, 46, 98]⟩] W fun e w' => e = .returned (.tuple #[.agg #[.string ⟨#[97, 46, 98]⟩, .int .i64 1, .int .i64 0], .bool true]) ∧ Below W.heap.size W w' := by
  have h := route_any A 2 c fA [120, 46, 65, 46, 98] m W hR (fun k _ => lenA k) (by decide) (by decide) hm
  rw [(rt_yes rtA1).1, (rt_yes rtA1).2] at h
  exact h
theorem routeA2 (m : Int) {A : Option Addr} (c : Nat) (hR : Rus W A 2 fA) (hm : W.cell? ⟨0, 0, none⟩ = some (.int .i64 m)) :
    Calls Tryd.prog 12 #[.slice A 2 c, .string ⟨#[99]⟩] W fun e w' => e = .returned (.tuple #[.agg #[.string ⟨#[42]⟩, .int .i64 2, .int .i64 2], .bool true]) ∧ Below W.heap.size W w' := by
  have h := route_any A 2 c fA [99] m W hR (fun k _ => lenA k) (by decide) (by decide) hm
  rw [(rt_yes rtA2).1, (rt_yes rtA2).2] at h
  exact h
theorem routeA3 (m : Int) {A : Option Addr} (c : Nat) (hR : Rus W A 2 fA) (hm : W.cell? ⟨0, 0, none⟩ = some (.int .i64 m)) :
    Calls Tryd.prog 12 #[.slice A 1 c, .string ⟨#[99]⟩] W fun e w' => e = .returned (.tuple #[.agg #[.string ⟨#[]⟩, .int .i64 0, .int .i64 0], .bool false]) ∧ Below W.heap.size W w' := by
  have h := route_any A 1 c fA [99] m W (rus_take hR (by omega)) (fun k _ => lenA k) (by decide) (by decide) hm
  rw [(rt_no rtA3).1, (rt_no rtA3).2] at h
  exact h
theorem mayA2 (m : Int) {A : Option Addr} (c : Nat) (hR : Rus W A 2 fA) (hm : W.cell? ⟨0, 0, none⟩ = some (.int .i64 m)) :
    Calls Tryd.prog 15 #[.slice A 2 c] W fun e w' => e = .returned (.bool true) ∧ Below W.heap.size W w' := by
  have h := may_any A 2 c fA m W hR (fun k _ => lenA k) (by decide) hm
  rw [mayL_yes okA2] at h
  exact h
theorem mayA3 (m : Int) {A : Option Addr} (c : Nat) (hR : Rus W A 3 fA) (hm : W.cell? ⟨0, 0, none⟩ = some (.int .i64 m)) :
    Calls Tryd.prog 15 #[.slice A 3 c] W fun e w' => e = .returned (.bool false) ∧ Below W.heap.size W w' := by
  have h := may_any A 3 c fA m W hR (fun k _ => lenA k) (by decide) hm
  rw [mayL_no noA3] at h
  exact h
/-- Entries of which only some fields are said. -/
abbrev enW (id born next tries : Int) (A : Option Addr) (n c : Nat) : Array Value := #[.int .u64 id, .string ⟨#[]⟩, .int .u64 0, .int .u64 0, .string ⟨#[]⟩, .string ⟨#[]⟩, .slice A n c, .int .u64 born, .int .u64 next, .int .i64 tries]
def enX (id born next tries : Int) (A : Option Addr) (n c : Nat) : En := ⟨id, [], 0, 0, [], [], A, n, c, born, next, tries⟩
theorem againA1 (W : World) : Calls Tryd.prog 17 #[.agg (enW 0 0 0 3 none 0 0), .int .u64 5] W fun e w' => e = .returned (.tuple #[.agg (enW 0 0 85 4 none 0 0), .bool true]) ∧ Below W.heap.size W w' :=
  again_any (enX 0 0 0 3 none 0 0) 5 W (by decide) (by decide) (by decide) (by decide)
theorem againA2 (W : World) : Calls Tryd.prog 17 #[.agg (enW 0 0 0 0 none 0 0), .int .u64 1990] W fun e w' => e = .returned (.tuple #[.agg (enW 0 0 0 0 none 0 0), .bool false]) ∧ Below W.heap.size W w' :=
  again_any (enX 0 0 0 0 none 0 0) 1990 W (by decide) (by decide) (by decide) (by decide)
theorem outA1 (W : World) : Calls Tryd.prog 20 #[.agg (enW 0 5 0 0 none 0 0), .int .u64 2005] W fun e w' => e = .returned (.bool true) ∧ Below W.heap.size W w' :=
  out_any (enX 0 5 0 0 none 0 0) 2005 W (by decide) (by decide)
theorem outA2 (W : World) : Calls Tryd.prog 20 #[.agg (enW 0 5 0 0 none 0 0), .int .u64 2004] W fun e w' => e = .returned (.bool false) ∧ Below W.heap.size W w' :=
  out_any (enX 0 5 0 0 none 0 0) 2004 W (by decide) (by decide)
theorem waitA0 (W : World) : Calls Tryd.prog 22 #[.int .i64 0] W fun e w' => e = .returned (.int .u64 10) ∧ W = w' := wait_any 0 W (by decide) (by decide)
theorem waitA9 (W : World) : Calls Tryd.prog 22 #[.int .i64 9] W fun e w' => e = .returned (.int .u64 640) ∧ W = w' := wait_any 9 W (by decide) (by decide)
theorem waitAm (W : World) : Calls Tryd.prog 22 #[.int .i64 (-1)] W fun e w' => e = .returned (.int .u64 10) ∧ W = w' := wait_any (-1) W (by decide) (by decide)
/-- to of the statements: a recipient that waits. -/
theorem to_any (W : World) : Calls Tryd.prog 27 #[] W fun e w' => e = .returned (.slice (some ⟨W.heap.size, 0, none⟩) 1 1) ∧ Tos w' (some ⟨W.heap.size, 0, none⟩) 1 (fun _ => ⟨[120], [99], 0⟩) ∧ Below W.heap.size W w' := by
  have HB : Hid (Below W.heap.size W (W.alloc (.cells #[.string ⟨#[120]⟩, .string ⟨#[99]⟩, .int .i64 0] 59))) := (Below.refl _ _).alloc (Nat.le_refl _) _
  have HT : Hid (Tos (W.alloc (.cells #[.string ⟨#[120]⟩, .string ⟨#[99]⟩, .int .i64 0] 59)) (some ⟨W.heap.size, 0, none⟩) 1 (fun _ => ⟨[120], [99], 0⟩)) := fun k hk => by
    refine ⟨_, 0, rfl, ⟨?_, ?_⟩, ?_⟩ <;> rw [World.cell?_alloc_new] <;> (match k, hk with | 0, _ => rfl)
  go_enter Tryd.func27, Tryd.ntmps27
  go_wp2_with fail
  go_ret
  exact ⟨rfl, HT.out, HB.out⟩
def eA (a0 a1 a2 a4 : Option Addr) : Nat → En
  | 0 => enX 1 0 5 0 a0 1 1
  | 1 => enX 2 0 3 0 a1 1 1
  | 2 => enX 3 0 9 0 a2 1 1
  | 3 => enX 4 0 0 0 none 0 0
  | _ => enX 5 0 0 0 a4 1 1
def hA : Nat → UInt64
  | 4 => 9223372036854775808
  | _ => 0
def gA : Nat → Nat → To3 := fun _ _ => ⟨[120], [99], 0⟩
theorem dueA_is (a0 a1 a2 a4 : Option Addr) : (dueR (eA a0 a1 a2 a4) gA 5 hA 5 5).map (fun x => Value.int .u64 x.id) = [.int .u64 5, .int .u64 2, .int .u64 1] ∧ (dueT (eA a0 a1 a2 a4) gA 5 hA 5 5).length = 3 := by
  constructor <;> kernel_rfl
end Go.Proofs.YtocjjfjcepflnaaDoor
