/-
  PROVED HERE: entries and recipients in memory; what mailbox and failed of the program compute.
-/
import Derived.Test.YtkchebbolldmbaaGreatDoorBd
set_option linter.unusedVariables false
namespace Go.Proofs.YtkchebbolldmbaaGreatDoor
open Go.RowKit
/-- An entry. -/
structure En where
  id : Int
  dom : List UInt8
  ep : Int
  ct : Int
  fl : List UInt8
  fd : List UInt8
  A : Option Addr
  n : Nat
  c : Nat
  born : Int
  next : Int
  tries : Int
abbrev enA (x : En) : Array Value := #[.int .u64 x.id, .string ⟨x.dom.toArray⟩, .int .u64 x.ep, .int .u64 x.ct, .string ⟨x.fl.toArray⟩, .string ⟨x.fd.toArray⟩, .slice x.A x.n x.c, .int .u64 x.born, .int .u64 x.next, .int .i64 x.tries]
/-- A recipient. -/
structure To3 where
  lo : List UInt8
  dm : List UInt8
  st : Int
/-- A row of recipients in memory. -/
def Tos (W : World) (A : Option Addr) (n : Nat) (g : Nat → To3) : Prop := ∀ k, k < n → ∃ b off, A = some ⟨b, off, none⟩ ∧
  (W.cell? ⟨b, off + k * 3, none⟩ = some (.string ⟨(g k).lo.toArray⟩) ∧ W.cell? ⟨b, off + k * 3 + 1, none⟩ = some (.string ⟨(g k).dm.toArray⟩)) ∧ W.cell? ⟨b, off + k * 3 + 2, none⟩ = some (.int .i64 (g k).st)
theorem tos_below {W W1 : World} {A : Option Addr} {n : Nat} {g : Nat → To3} (h : Tos W A n g) (hb : Below W.heap.size W W1) : Tos W1 A n g := fun k hk => by
  obtain ⟨b, off, e, ⟨h1, h2⟩, h3⟩ := h k hk
  exact ⟨b, off, e, ⟨by rw [hb.cell (World.block_lt_of_cell? _ _ h1)]; exact h1, by rw [hb.cell (World.block_lt_of_cell? _ _ h2)]; exact h2⟩, by rw [hb.cell (World.block_lt_of_cell? _ _ h3)]; exact h3⟩
abbrev Bxp := List UInt8 × List UInt8
def bxL (p : Bxp) : List Value := [.string ⟨p.1.toArray⟩, .string ⟨p.2.toArray⟩]
/-- Those of the first k that failed. -/
def fls (g : Nat → To3) (k : Nat) : List Bxp := ((List.range k).filter fun i => (g i).st == 2).map fun i => ((g i).lo, (g i).dm)
theorem fls_succ (g : Nat → To3) (k : Nat) : fls g (k + 1) = fls g k ++ (if (g k).st = 2 then [((g k).lo, (g k).dm)] else []) := by
  unfold fls
  rw [List.range_succ, List.filter_append, List.map_append]
  congr 1
  by_cases h : (g k).st = 2
  · rw [if_pos h, List.filter_cons_of_pos (by simp [h])]; rfl
  · rw [if_neg h, List.filter_cons_of_neg (by simp [h])]; rfl
theorem fls_len (g : Nat → To3) (k : Nat) : (fls g k).length ≤ k := by
  unfold fls
  rw [List.length_map]
  exact Nat.le_trans (List.length_filter_le _ _) (by rw [List.length_range]; exact Nat.le_refl _)
theorem flat_len (l : List Bxp) : (l.flatMap bxL).length = l.length * 2 := by
  induction l with
  | nil => rfl
  | cons p l ih => rw [List.flatMap_cons, List.length_append, ih, List.length_cons]; show 2 + _ = _; omega
/-- A row of mailboxes of the call's own. -/
def Bow (W : World) (base : Nat) (v : Value) (l : List Bxp) : Prop := W.ownsRow base 54 2 v l.length (l.flatMap bxL)
/-- A row of mailboxes in memory. -/
def Bos (W : World) (A : Option Addr) (l : List Bxp) : Prop := ∀ k (hk : k < l.length), ∃ b off, A = some ⟨b, off, none⟩ ∧ W.cell? ⟨b, off + k * 2, none⟩ = some (.string ⟨l[k].1.toArray⟩) ∧ W.cell? ⟨b, off + k * 2 + 1, none⟩ = some (.string ⟨l[k].2.toArray⟩)
theorem bos_below {W W1 : World} {A : Option Addr} {l : List Bxp} (h : Bos W A l) (hb : Below W.heap.size W W1) : Bos W1 A l := fun k hk => by
  obtain ⟨b, off, e, h1, h2⟩ := h k hk
  exact ⟨b, off, e, by rw [hb.cell (World.block_lt_of_cell? _ _ h1)]; exact h1, by rw [hb.cell (World.block_lt_of_cell? _ _ h2)]; exact h2⟩
theorem flat_two (l : List Bxp) (k : Nat) (hk : k < l.length) : (l.flatMap bxL)[k * 2]? = some (.string ⟨l[k].1.toArray⟩) ∧ (l.flatMap bxL)[k * 2 + 1]? = some (.string ⟨l[k].2.toArray⟩) := by
  induction l generalizing k with
  | nil => simp at hk
  | cons p l ih =>
    rw [List.flatMap_cons]
    cases k with
    | zero => exact ⟨rfl, rfl⟩
    | succ k =>
      obtain ⟨h1, h2⟩ := ih k (by simpa using hk)
      have e : (k + 1) * 2 = (bxL p).length + k * 2 := by show _ = 2 + _; omega
      have e2 : (k + 1) * 2 + 1 = (bxL p).length + (k * 2 + 1) := by show _ = 2 + _; omega
      rw [e2, e, List.getElem?_append_right (by omega), List.getElem?_append_right (by omega), Nat.add_sub_cancel_left, Nat.add_sub_cancel_left]
      exact ⟨h1, h2⟩
theorem bow_bos {W : World} {base : Nat} {e : Nat} {v : Value} {l : List Bxp} (h : W.ownsRow base e 2 v l.length (l.flatMap bxL)) : ∃ A c, v = .slice A l.length c ∧ Bos W A l := by
  obtain ⟨a, c, e, hle, F⟩ := own_form h
  refine ⟨a, c, e, fun k hk => ?_⟩
  obtain ⟨g, rfl, _, f⟩ := F (by omega)
  obtain ⟨h1, h2⟩ := flat_two l k hk
  refine ⟨g, 0, rfl, ?_, ?_⟩
  · rw [Nat.zero_add]; exact f _ _ h1
  · rw [Nat.zero_add]; exact f _ _ h2
theorem bow_below {W W1 : World} {base : Nat} {v : Value} {l : List Bxp} (h : Bow W base v l) (g : Below W.heap.size W W1) : Bow W1 base v l := by
  refine ⟨h.1, ?_⟩
  rcases h.2 with e | ⟨q, cc, cu, e, h1, h2, h3⟩
  · exact Or.inl e
  · exact Or.inr ⟨q, cc, cu, e, h1, (g.block q (Array.getElem?_eq_some_iff.1 h2).1).trans h2, h3⟩
theorem info54 : (Tryz.prog.info? 54).map (fun i => (i.zero, i.size, i.bytes)) = some (some (.agg #[.string ⟨#[]⟩, .string ⟨#[]⟩]), 2, 32) := by kernel_rfl

set_option maxRecDepth 100000 in
set_option maxHeartbeats 2000000 in
theorem mailbox_any (l d : List UInt8) (w : World) : Calls Tryz.prog 31 #[bxV l d] w fun e w' => e = .returned (bxV l d) ∧ Below w.heap.size w w' := by
  have HB : Hid (Below w.heap.size w ((w.alloc (.cells #[.string ⟨l.toArray⟩, .string ⟨d.toArray⟩] 29)).alloc (.cells #[.string ⟨l.toArray⟩, .string ⟨d.toArray⟩] 54))) := ((Below.refl _ _).alloc (Nat.le_refl _) _).alloc (by simp) _
  obtain ⟨c1, c2⟩ := cell_two w (.string ⟨l.toArray⟩) (.string ⟨d.toArray⟩) 24
  unfold bxV
  go_enter Tryz.func31, Tryz.ntmps31
  go_wp2_with fail
  refine bodyPost_ret (results_cell_row rfl _ _ (w.heap.size + 1) 54 #[.string ⟨l.toArray⟩, .string ⟨d.toArray⟩] (0, 0) _ rfl ?_ Tryz.underlying54 rfl info25) rfl ⟨rfl, HB.out⟩
  show ((w.heap.push _).push _)[w.heap.size + 1]? = _
  rw [Array.getElem?_push]
  simp only [Array.size_push]
  rw [if_pos trivial]
theorem cell_two_one (w : World) (a b : Value) (t : TypeId) : ∀ j u, ([a, b] : List Value)[j]? = some u → (w.alloc (.cells #[a, b] t)).cell? ((⟨w.heap.size, 0, none⟩ : Addr).add j) = some u := by
  intro j u hj
  rw [add_off, Nat.zero_add, World.cell?_alloc_new]
  match j, hj with
  | 0, hj => exact hj
  | 1, hj => exact hj

set_option maxRecDepth 100000 in
set_option maxHeartbeats 4000000 in
theorem failed_any (x : En) (g : Nat → To3) (w : World) (hT : Tos w x.A x.n g) (hn : x.n ≤ 1000000) :
    Calls Tryz.prog 29 #[.agg (enA x)] w fun e w' => (∃ v, e = .returned v ∧ Bow w' w.heap.size v (fls g x.n)) ∧ Below w.heap.size w w' := by
  obtain ⟨i0, hi0, hz0, hz1, hz2⟩ := info_parts info54
  have HT := Lib.hid hT
  have HB0 : Hid (Below w.heap.size w (w.alloc (.cells (enA x) 32))) := (Below.refl _ _).alloc (Nat.le_refl _) _
  have c6 : (w.alloc (.cells (enA x) 32)).cell? ⟨w.heap.size, 6, none⟩ = some (.slice x.A x.n x.c) := by rw [World.cell?_alloc_new]; rfl
  have HO0 : Hid (Bow (w.alloc (.cells (enA x) 32)) w.heap.size (.slice none 0 0) (fls g 0)) := ⟨rfl, Or.inl ⟨rfl, rfl⟩⟩
  unfold enA at *
  clear hT
  obtain ⟨id, dom, ep, ct, fl, fd, A, n, c, born, next, tries⟩ := x
  simp only [] at *
  go_enter Tryz.func29, Tryz.ntmps29
  go_wp2_with fail
  generalize w.alloc _ = w0 at *
  go_loopw [9, 3] (fun u v wr => ∃ k : Nat, u = .int .i64 k ∧ k ≤ n ∧ Hid (Bow wr w.heap.size v (fls g k)) ∧ Hid (Below w.heap.size w wr)) (fun u _ _ => n - (intOf u).toNat)
  case atStart => exact ⟨0, rfl, by omega, HO0, HB0⟩
  case round =>
    clear HO0 HB0
    obtain ⟨k, rfl, hk, HO, HB⟩ := hrel
    by_cases hlt : k < n
    · have hltz : (k : Int) < (n : Int) := by omega
      have HT2 := Lib.hid (tos_below HT.out HB.out)
      obtain ⟨b, off, rfl, ⟨t0, t1⟩, t2⟩ := HT2.out k hlt
      have hsz := HB.out.size
      have HF := Lib.hid (fls_succ g k)
      have hfl := fls_len g k
      generalize g k = y at *
      obtain ⟨lo, dm, st⟩ := y
      simp only [] at *
      by_cases hst : st = 2
      · subst hst
        rw [if_pos rfl] at HF
        go_wp2_with fail
        refine (mailbox_any lo dm _).mono ?_
        rintro e w2 ⟨rfl, hb2⟩
        have HB2 : Hid (Below wr.heap.size wr w2) := ((Below.refl _ _).alloc (Nat.le_refl _) _).trans (hb2.mono (by simp only [World.size_alloc]; omega))
        have HO2 : Hid (Bow w2 w.heap.size u3 (fls g k)) := bow_below HO.out HB2.out
        have hs2 := HB2.out.size
        clear hb2
        unfold bxV
        go_wp2_with (at_builtin; go_must (refine wpList_append_own _ rfl (.tmp 16) (.tmp 20) 51 rfl w.heap.size 54 i0 (.agg #[.string ⟨#[]⟩, .string ⟨#[]⟩]) 2 32 Tryz.underlying51 hi0 hz0 hz1 hz2 rfl (by decide) _ _ _ rfl (HO2.out.alloc _) ⟨w2.heap.size, 0, none⟩ 1 1 (bxL (lo, dm)) rfl rfl ?x1 ?x2 ?x3 ?x4 ?x5 ?_))
        case x1 => exact cell_two_one _ _ _ _
        case x2 => first | (intro u hu; unfold bxL at hu; simp only [List.mem_cons, List.not_mem_nil, or_false] at hu; rcases hu with rfl | rfl <;> rfl)
        case x3 => unfold maxLen; omega
        case x4 => omega
        case x5 => first | omega | (simp only [World.size_alloc]; omega)
        intro v' w5 hown hgrow _
        have HT5 : Hid (Bow w5 w.heap.size v' (fls g (k + 1))) := by
          show Bow _ _ _ _
          rw [HF.out]
          unfold Bow
          rw [List.length_append, List.flatMap_append]
          exact hown
        have HB5 := Lib.hid (((HB.out.trans (HB2.out.mono hsz)).alloc (by omega) _).grown hgrow (by simp only [World.size_alloc]; omega) (fun q hq => (HO2.out.lt q hq).1))
        clear hown hgrow HO HB HO2 HB2
        go_wp2
        go_roundw
        case rel => exact ⟨k + 1, by go_num, by omega, HT5, HB5.out⟩
        case measure => simp [intOf]; omega
      · rw [if_neg hst, List.append_nil] at HF
        have hst2 : (st == 2) = false := beq_false_of_ne hst
        have HB3 := Lib.hid (HB.out.alloc hsz (.cells #[.string ⟨lo.toArray⟩, .string ⟨dm.toArray⟩, .int .i64 st] 46))
        have HO3 : Hid (Bow (wr.alloc (.cells #[.string ⟨lo.toArray⟩, .string ⟨dm.toArray⟩, .int .i64 st] 46)) w.heap.size u3 (fls g (k + 1))) := by
          show Bow _ _ _ _
          rw [HF.out]
          exact bow_below HO.out ((Below.refl _ _).alloc (Nat.le_refl _) _)
        clear HO HB hst
        go_wp2_with fail
        go_roundw
        case rel => exact ⟨k + 1, by go_num, by omega, HO3, HB3.out⟩
        case measure => simp [intOf]; omega
    · have hltz : ¬ (k : Int) < (n : Int) := by omega
      obtain rfl : k = n := by omega
      go_wp2_with fail
      go_ret
      exact ⟨⟨_, rfl, HO.out⟩, HB.out⟩
end Go.Proofs.YtkchebbolldmbaaGreatDoor
