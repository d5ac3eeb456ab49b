/-
  PROVED HERE: what the library's slices.Grow (of nothing) and slices.Concat compute at rows of strings.
-/
import Derived.Test.YtkchebbolldmbaaGreatDoorBm
import Derived.Lib.AppendZerosOnto
set_option linter.unusedVariables false
namespace Go.Proofs.YtkchebbolldmbaaGreatDoor
open Go.RowKit
theorem zero_size (z : Array Value) (n : Nat) : (Builtin.zeroCells z n).size = n * z.size := by
  unfold Builtin.zeroCells
  rw [Array.size_map, Array.size_range]

set_option maxRecDepth 100000 in
set_option maxHeartbeats 2000000 in
theorem grow_nil (N : Nat) (hN : 0 < N) (hN2 : N ≤ 1000000) (w : World) :
    Calls Tryz.prog 60 #[.slice none 0 0, .int .i64 N] w fun e w' => (∃ v, e = .returned v ∧ Tow w' w.heap.size v []) ∧ Below w.heap.size w w' := by
  obtain ⟨i0, hi0, hz0, hz1, hz2⟩ := info_parts info9
  have hap := Lib.run_append_grow_zeros (P := Tryz.prog) w 47 3 47 9 i0 (.string ⟨#[]⟩) .i64 .i64 Tryz.underlying47 Tryz.underlying3 hi0 hz0 none 0 0 [] (run_firstCells_none w.drew i0.size 0 0 0) N hN (by rw [hz1]; decide) (by omega) (by omega) (by rw [hz2]; omega) (by rw [hz2]; unfold Builtin.nextslicecap; rw [if_pos (by omega)]; omega)
  rw [Nat.zero_add] at hap
  have hge := grownCap_ge w N 0 9
  have hle := grownCap_le_maxLen w N 0 9 (by unfold maxLen; omega)
  have HT : Hid (Tow (w.drew.alloc (.cells (([] : List Value).toArray ++ Builtin.zeroCells (Value.string ⟨#[]⟩).cells N ++ Builtin.zeroCells (Value.string ⟨#[]⟩).cells (grownCap w N 0 9 - N)) 9)) w.heap.size (.slice (some ⟨w.heap.size, 0, none⟩) 0 (grownCap w N 0 9)) []) := by
    refine ⟨rfl, Or.inr ⟨w.heap.size, grownCap w N 0 9, (([] : List Value).toArray ++ Builtin.zeroCells (Value.string ⟨#[]⟩).cells N ++ Builtin.zeroCells (Value.string ⟨#[]⟩).cells (grownCap w N 0 9 - N)), rfl, Nat.le_refl _, ?_, Nat.zero_le _, hle, ?_, ?_⟩⟩
    · show (w.heap.push _)[w.heap.size]? = _
      rw [Array.getElem?_push_size]
    · simp only [Array.size_append, zero_size]
      show 0 + N * 1 + (grownCap w N 0 9 - N) * 1 = _
      omega
    · rfl
  have HB : Hid (Below w.heap.size w (w.drew.alloc (.cells (([] : List Value).toArray ++ Builtin.zeroCells (Value.string ⟨#[]⟩).cells N ++ Builtin.zeroCells (Value.string ⟨#[]⟩).cells (grownCap w N 0 9 - N)) 9))) := ((Below.refl _ _).drew).alloc (Nat.le_refl _) _
  have hle2 : (grownCap w N 0 9 : Int) ≤ 9223372036854775807 := by unfold maxLen at hle; omega
  generalize (w.drew.alloc (.cells (([] : List Value).toArray ++ Builtin.zeroCells (Value.string ⟨#[]⟩).cells N ++ Builtin.zeroCells (Value.string ⟨#[]⟩).cells (grownCap w N 0 9 - N)) 9)) = W at *
  generalize grownCap w N 0 9 = cap at *
  have hNz : (0 : Int) < (N : Int) := by omega
  clear hle
  clear hi0 hz0 hz1 hz2
  have HAP := Lib.hid hap
  clear hap
  go_enter Tryz.func60, Tryz.ntmps60
  go_wp2_with (at_builtin; refine Lib.wpList_append_run _ rfl _ _ _ _ rfl _ _ rfl rfl _ _ HAP.out ?_)
  go_ret
  exact ⟨⟨_, rfl, HT.out⟩, HB.out⟩
/-- Rows of strings that stand in a row. -/
def Rws (w : World) (A : Option Addr) (Ls : List (List (List UInt8))) : Prop := ∀ k (hk : k < Ls.length), ∃ b off g c, A = some ⟨b, off, none⟩ ∧ w.cell? ⟨b, off + k, none⟩ = some (.slice (some ⟨g, 0, none⟩) Ls[k].length c) ∧ ∀ j u, (Ls[k].map sV)[j]? = some u → w.cell? ⟨g, j, none⟩ = some u
theorem rws_below {w w1 : World} {A : Option Addr} {Ls : List (List (List UInt8))} (h : Rws w A Ls) (g : Below w.heap.size w w1) : Rws w1 A Ls := fun k hk => by
  obtain ⟨b, off, q, c, e, f, h1⟩ := h k hk
  exact ⟨b, off, q, c, e, by rw [g.cell (World.block_lt_of_cell? _ _ f)]; exact f, fun j u hu => by rw [g.cell (World.block_lt_of_cell? _ _ (h1 j u hu))]; exact h1 j u hu⟩
theorem take_flatten (Ls : List (List (List UInt8))) (k : Nat) (hk : k < Ls.length) : (Ls.take (k + 1)).flatten = (Ls.take k).flatten ++ Ls[k] := by
  rw [List.take_succ_eq_append_getElem hk, List.flatten_append, List.flatten_cons, List.flatten_nil, List.append_nil]
theorem flatten_le (Ls : List (List (List UInt8))) (k : Nat) : ((Ls.take k).flatten).length ≤ Ls.flatten.length := by
  have e : Ls.flatten = (Ls.take k).flatten ++ (Ls.drop k).flatten := by rw [← List.flatten_append, List.take_append_drop]
  rw [e, List.length_append]
  omega

set_option maxRecDepth 100000 in
set_option maxHeartbeats 4000000 in
theorem concat_any (A : Option Addr) (c : Nat) (Ls : List (List (List UInt8))) (w : World) (hR : Rws w A Ls) (hn : Ls.length ≤ 1000) (h0 : 0 < Ls.flatten.length) (hl : Ls.flatten.length ≤ 1000000) :
    Calls Tryz.prog 36 #[.slice A Ls.length c] w fun e w' => (∃ v, e = .returned v ∧ Tow w' w.heap.size v Ls.flatten) ∧ Below w.heap.size w w' := by
  obtain ⟨i0, hi0, hz0, hz1, hz2⟩ := info_parts info9
  have HR := Lib.hid hR
  have HG := Lib.hid (grow_nil Ls.flatten.length h0 hl w)
  have HLE := Lib.hid (flatten_le Ls)
  clear hR
  go_enter Tryz.func36, Tryz.ntmps36
  go_wp2_with fail
  go_loopw [11, 3] (fun u v wr => ∃ k n : Nat, u = .int .i64 k ∧ v = .int .i64 n ∧ k ≤ Ls.length ∧ Hid (n = ((Ls.take k).flatten).length) ∧ w = wr) (fun u _ _ => Ls.length - (intOf u).toNat)
  case atStart => exact ⟨0, 0, rfl, rfl, by omega, rfl, rfl⟩
  case round =>
    obtain ⟨k, n, rfl, rfl, hk, HK, rfl⟩ := hrel
    have hn2 : n ≤ 1000000 := by rw [HK.out]; exact Nat.le_trans (HLE.out k) hl
    by_cases hlt : k < Ls.length
    · have hltz : (k : Int) < (Ls.length : Int) := by omega
      obtain ⟨b, off, g, c2, rfl, t0, _⟩ := HR.out k hlt
      have HF := Lib.hid (take_flatten Ls k hlt)
      have hle2 := HLE.out (k + 1)
      rw [HF.out, List.length_append] at hle2
      have hq : Ls[k].length ≤ 1000000 := by omega
      have HQ : Hid (n + Ls[k].length = ((Ls.take (k + 1)).flatten).length) := by show _ = _; rw [HF.out, List.length_append, HK.out]
      clear hle2
      generalize Ls[k].length = q at *
      go_wp2_with fail
      go_roundw
      case rel => exact ⟨k + 1, n + q, by go_num, by go_num, by omega, HQ, by trivial⟩
      case measure => simp [intOf]; omega
    · have hltz : ¬ (k : Int) < (Ls.length : Int) := by omega
      obtain rfl : k = Ls.length := by omega
      have HN : Hid (n = Ls.flatten.length) := by show _ = _; rw [HK.out, List.take_length]
      rw [← HN.out] at HG
      go_wp2_with fail
      refine HG.out.mono ?_
      rintro e w1 ⟨⟨v, rfl, ho⟩, hb⟩
      have HO1 : Hid (Tow w1 w.heap.size v ((Ls.take 0).flatten)) := ho
      have HB1 := Lib.hid hb
      clear ho hb
      go_wp2_with fail
      go_loopw [27, 6] (fun u v wr => ∃ k : Nat, u = .int .i64 k ∧ k ≤ Ls.length ∧ Hid (Tow wr w.heap.size v ((Ls.take k).flatten)) ∧ Hid (Below w.heap.size w wr)) (fun u _ _ => Ls.length - (intOf u).toNat)
      case atStart => exact ⟨0, rfl, by omega, HO1, HB1⟩
      case round =>
        clear HO1 HB1
        obtain ⟨k, rfl, hk, HO, HB⟩ := hrel
        by_cases hlt : k < Ls.length
        · have hltz2 : (k : Int) < (Ls.length : Int) := by omega
          have HR2 := Lib.hid (rws_below HR.out HB.out)
          obtain ⟨b, off, g, c2, rfl, t0, f0⟩ := HR2.out k hlt
          have F0 := Lib.hid f0
          have HF := Lib.hid (take_flatten Ls k hlt)
          have hle1 := HLE.out k
          have hle2 := HLE.out (k + 1)
          rw [HF.out, List.length_append] at hle2
          have hsz := HB.out.size
          have hmm : (Ls[k].map sV).length = Ls[k].length * 1 := by rw [List.length_map, Nat.mul_one]
          clear f0
          generalize Ls[k] = Q at *
          generalize (Ls.take k).flatten = P0 at *
          go_wp2_with (at_builtin; go_must (refine wpList_append_own _ rfl (.tmp 31) (.tmp 32) 47 rfl w.heap.size 9 i0 (.string ⟨#[]⟩) 1 16 Tryz.underlying47 hi0 hz0 hz1 hz2 rfl (by decide) _ _ _ rfl HO.out ⟨g, 0, none⟩ Q.length c2 (Q.map sV) rfl hmm ?x1 ?x2 ?x3 ?x4 ?x5 ?_))
          case x1 => intro j u hu; rw [add_off, Nat.zero_add]; exact F0.out j u hu
          case x2 => intro u hu; obtain ⟨q, _, rfl⟩ := List.mem_map.1 hu; rfl
          case x3 => unfold maxLen; omega
          case x4 => omega
          case x5 => omega
          intro v' w5 hown hgrow _
          have HT5 : Hid (Tow w5 w.heap.size v' ((Ls.take (k + 1)).flatten)) := by
            show Tow _ _ _ _
            rw [HF.out]
            unfold Tow
            rw [List.length_append, List.map_append]
            exact hown
          have HB5 := Lib.hid (HB.out.grown hgrow (by omega) (fun q hq => (HO.out.lt q hq).1))
          clear hown hgrow HO HB HR2
          go_wp2
          go_roundw
          case rel => exact ⟨k + 1, by go_num, by omega, HT5, HB5.out⟩
          case measure => simp [intOf]; omega
        · have hltz2 : ¬ (k : Int) < (Ls.length : Int) := by omega
          obtain rfl : k = Ls.length := by omega
          rw [List.take_length] at HO
          go_wp2_with fail
          go_ret
          exact ⟨⟨_, rfl, HO.out⟩, HB.out⟩
end Go.Proofs.YtkchebbolldmbaaGreatDoor
