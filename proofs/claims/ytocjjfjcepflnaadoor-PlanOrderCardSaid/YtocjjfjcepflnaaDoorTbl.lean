/-
  PROVED HERE: what table of the program computes.
-/
import Derived.Test.YtocjjfjcepflnaaDoorTab
import Derived.StringKeys
import Derived.Deep.Onto
import Derived.Deep.DeepMust
set_option linter.unusedVariables false
namespace Go.Proofs.YtocjjfjcepflnaaDoor
open Go.RowKit Go.Maps Go.ChangeMaps Go.WideMaps
theorem law9 : Keyed Tryd.prog 9 := string_keyed Tryd.underlying9
theorem key9 (t : List UInt8) (h : t.length ≤ 4294967296) : keyOf Tryd.prog 9 (.string ⟨t.toArray⟩) = some (.string t) := by
  have e := keyOf_string_mk (P := Tryd.prog) (k := 9) (s := ⟨t.toArray⟩) Tryd.underlying9 (by rw [size_mk]; unfold maxLen; omega)
  simpa using e

set_option maxRecDepth 100000 in
set_option maxHeartbeats 1000000 in
theorem table_any (A : Option Addr) (n c : Nat) (f : Nat → Ru) (w : World) (hR : Rus w A n f) (hL : ∀ k, k < n → (f k).dm.length ≤ 4294967296) (hn : n ≤ 4611686018427387904) :
    Calls Tryd.prog 31 #[.slice A n c] w fun e w' => (e = .returned (.map (some w.heap.size)) ∧ w'.ownsMap Tryd.prog 9 ruR w.heap.size n (tab f n)) ∧ Below w.heap.size w w' := by
  have hmm := @run_makeMap Tryd.prog
  have HR := Lib.hid hR
  have HL := Lib.hid hL
  clear hR hL
  go_enter Tryd.func31, Tryd.ntmps31
  go_wp2
  go_loopw [9] (fun u wr => ∃ k : Nat, u = .int .i64 k ∧ k ≤ n ∧ Hid (wr.ownsMap Tryd.prog 9 ruR w.heap.size k (tab f k)) ∧ Hid (Below w.heap.size w wr)) (fun u _ => n - (intOf u).toNat)
  case atStart => exact ⟨0, rfl, by omega, World.ownsMap_made _ _ _ _, (Below.refl _ _).alloc (Nat.le_refl _) _⟩
  case round =>
    obtain ⟨k, rfl, hk, HO, HB⟩ := hrel
    by_cases hlt : k < n
    · have hltz : (k : Int) < (n : Int) := by omega
      have HR2 := Lib.hid (rus_below HR.out HB.out)
      obtain ⟨b, off, rfl, ⟨t0, t1⟩, t2⟩ := HR2.out k hlt
      have HK := Lib.hid (key9 (f k).dm (HL.out k hlt))
      have HT : Hid (tab f (k + 1) = (tab f k).put (.string (f k).dm) (ruD (f k))) := rfl
      have hsz := HB.out.size
      have HV := Lib.hid (ruR_mk (f k))
      generalize tab f k = D at *
      generalize f k = x at *
      go_wp2_with (at_mapUpdate; go_must (refine wpList_mapUpdate_own _ rfl _ _ _ 67 rfl 9 26 law9 Tryd.underlying67 ruR w.heap.size k D rfl (HO.out.alloc _) ?q1 _ _ _ rfl rfl HK.out _ [] HV.out ?_))
      case q1 => unfold maxLen; omega
      intro w1 hown1 hgrow1
      have HO1 : Hid (w1.ownsMap Tryd.prog 9 ruR w.heap.size (k + 1) (tab f (k + 1))) := by rw [HT.out]; exact hown1
      have HB1 : Hid (Below w.heap.size w w1) := (HB.out.alloc hsz _).grown hgrow1 (by rw [World.size_alloc]; omega) (fun j hj => by cases hj; exact Nat.le_refl _)
      clear hown1 hgrow1
      go_wp2
      go_roundw
      case rel => exact ⟨k + 1, by go_num, by omega, HO1.out, HB1.out⟩
      case measure => simp [intOf]; omega
    · have hltz : ¬ (k : Int) < (n : Int) := by omega
      obtain rfl : k = n := by omega
      go_wp2_with fail
      go_ret
      exact ⟨⟨rfl, HO.out⟩, HB.out⟩
end Go.Proofs.YtocjjfjcepflnaaDoor
