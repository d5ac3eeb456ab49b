/-
  PROVED HERE: a slice of rules that came in.
-/
import Derived.Test.YtocjjfjcepflnaaDoorLift
import Derived.Lib.SmallJoins
import Derived.ChangeArms
import Derived.Deep.Slices
import Derived.Deep.Strs
set_option linter.unusedVariables false
namespace Go.Proofs.YtocjjfjcepflnaaDoor
open Go.ChangeShapes Go.WideShapes Go.ChangeAt Go.RowKit Go.Deep
instance : Inhabited Ru := ⟨ruZ⟩
theorem cells26 : Tryd.prog.cellsOf 26 = 3 := by kernel_rfl
theorem cells9 : Tryd.prog.cellsOf 9 = 1 := by kernel_rfl
theorem cells3 : Tryd.prog.cellsOf 3 = 1 := by kernel_rfl
theorem list3 {α : Type} {l : List α} (h : l.length = 3) : ∃ a b c, l = [a, b, c] := by
  match l, h with
  | [a, b, c], _ => exact ⟨a, b, c, rfl⟩
theorem rule_cells {H : Type} {enc : TypeId × Value → H} {W : World} {base : Nat} {spare : Nat → Bool} {held : Bool} {n : Nat} {cs : List Value} {y : DataW H × List MemPlace} (h : DataW.trod enc Tryd.prog W base spare held n 26 cs = some y) :
    ∃ q : Ru, cs = [.string ⟨q.dm.toArray⟩, .int .i64 q.kd, .int .i64 q.ho] := by
  obtain ⟨y0, y1, y2, k, _, hlen, h0, h1, h2⟩ := trod_struct3 Tryd.underlying26 h
  rw [cells26] at hlen
  obtain ⟨v0, v1, v2, rfl⟩ := list3 hlen
  · dsimp only at h0 h1 h2
    rw [cells9] at h0
    rw [cells3] at h1 h2
    simp only [List.drop_zero, List.drop_succ_cons, List.take_succ_cons, List.take_zero] at h0 h1 h2
    obtain ⟨s, f0, _, _⟩ := DataW.trod_string Tryd.underlying9 h0
    obtain ⟨a, f1, _, _⟩ := DataW.trod_int Tryd.underlying3 h1
    obtain ⟨b, f2, _, _⟩ := DataW.trod_int Tryd.underlying3 h2
    simp only [List.cons.injEq, and_true] at f0 f1 f2
    subst f0 f1 f2
    refine ⟨⟨s.data.toList, a, b⟩, ?_⟩
    show [Value.string s, _, _] = [Value.string ⟨s.data.toList.toArray⟩, _, _]
    rw [Lib.mk_data]
theorem rules_in {H : Type} {enc : TypeId × Value → H} {W : World} {a : Option Addr} {len cap : Nat} {d : DataW H} {p : List MemPlace} {ts : List TypeId} {ds : List (DataW H)} {j : Nat} (hsz : (DataW.weightsEach Tryd.prog ts ds).all (· ≤ reachBytes) = true) (ht : ts[j]? = some 22) (hd : ds[j]? = some d)
    (h0 : ∃ fuel, DataW.trod enc Tryd.prog W 0 (fun _ => true) true fuel 22 (Value.slice a len cap).cells.toList = some (d, p)) :
    ∃ f : Nat → Ru, Rus W a len f ∧ len ≤ reachBytes := by
  obtain ⟨fuel, hf⟩ := h0
  rcases open_slice Tryd.underlying22 hf with ⟨hcs, _⟩ | ⟨x, l, c, mm, n, D, Pl, hcs, _, hl, hm, hmm, hx, hel⟩
  · simp [Value.cells] at hcs
    obtain ⟨rfl, rfl, rfl⟩ := hcs
    exact ⟨fun _ => ruZ, fun k hk => absurd hk (Nat.not_lt_zero _), Nat.zero_le _⟩
  · simp [Value.cells] at hcs
    obtain ⟨rfl, rfl, rfl⟩ := hcs
    obtain ⟨rfl, _⟩ := Prod.mk.inj hx
    have hlm : len ≤ mm := by rw [hmm]; split <;> omega
    have hw2 := sized_slice hsz ht hd Tryd.underlying22
    have hb : Tryd.prog.bytesOf 26 = 32 := by kernel_rfl
    rw [hb, List.length_map, List.length_range] at hw2
    have each : ∀ i, i < len → ∃ q : Ru, (W.cell? (x.add (i * 3)) = some (.string ⟨q.dm.toArray⟩) ∧ W.cell? (x.add (i * 3 + 1)) = some (.int .i64 q.kd)) ∧ W.cell? (x.add (i * 3 + 2)) = some (.int .i64 q.ho) := fun i hi => by
      obtain ⟨cs', h1, h2⟩ := hel i (by omega)
      rw [cells26] at h1
      obtain ⟨q, rfl⟩ := rule_cells h2
      obtain ⟨_, _, hcell⟩ := World.cells?_some h1
      have e0 := hcell 0 (by simp)
      have e1 := hcell 1 (by simp)
      have e2 := hcell 2 (by simp)
      rw [add_add] at e0 e1 e2
      exact ⟨q, ⟨e0, e1⟩, e2⟩
    obtain ⟨f, hf2⟩ := choose_lt each
    refine ⟨f, fun k hk => ?_, by omega⟩
    obtain ⟨⟨c0, c1⟩, c2⟩ := hf2 k hk
    obtain ⟨⟨z0, _⟩, _⟩ := hf2 0 (by omega)
    obtain ⟨b, off, hx2, hb2⟩ := plain_addr z0
    have hx3 : x = ⟨b, off, none⟩ := by
      have e : x.add (0 * 3) = x := by unfold Addr.add; simp
      rw [← e, hx2]
    subst hx3
    rw [Go.Proofs.YtocjjfjcepflnaaDoor.add_off] at c0 c1 c2
    exact ⟨b, off, rfl, ⟨c0, c1⟩, c2⟩
end Go.Proofs.YtocjjfjcepflnaaDoor
