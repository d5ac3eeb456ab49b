/-
  PROVED HERE: what line.Split leaves in memory (a row of the call's own), what lines and head of the program compute.
-/
import Derived.Test.YtkchebbolldmbaaGreatDoorBn
import Derived.Deep.QuietTactic
import Derived.Deep.DeepMust
set_option linter.unusedVariables false
namespace Go.Proofs.YtkchebbolldmbaaGreatDoor
open Go.RowKit
theorem own_form {W : World} {base e size : Nat} {v : Value} {n : Nat} {xs : List Value} (h : W.ownsRow base e size v n xs) : ∃ a c, v = .slice a n c ∧ n ≤ c ∧ (0 < n → ∃ g, a = some ⟨g, 0, none⟩ ∧ g < W.heap.size ∧ ∀ j u, xs[j]? = some u → W.cell? ⟨g, j, none⟩ = some u) := by
  have h0 := h
  rcases h.2 with ⟨e, e2⟩ | ⟨g, cc, _, e, _, _, hle, _⟩
  · subst e
    obtain rfl : n = 0 := by omega
    exact ⟨none, 0, rfl, Nat.le_refl _, fun q => absurd q (Nat.lt_irrefl _)⟩
  · subst e
    refine ⟨_, _, rfl, hle, fun _ => ⟨g, rfl, (h0.lt g rfl).2, fun j u hu => ?_⟩⟩
    have q := h0.cells rfl j u hu
    rw [add_off, Nat.zero_add] at q
    exact q
/-- A row of strings of the call's own. -/
def Tow (W : World) (base : Nat) (v : Value) (l : List (List UInt8)) : Prop := W.ownsRow base 9 1 v l.length (l.map sV)
theorem tow_txs {W : World} {base : Nat} {v : Value} {l : List (List UInt8)} (h : Tow W base v l) : ∃ A c, v = .slice A l.length c ∧ l.length ≤ c ∧ Txs W A l := by
  obtain ⟨a, c, e, hle, F⟩ := own_form h
  refine ⟨a, c, e, hle, fun k hk => ?_⟩
  obtain ⟨g, rfl, _, f⟩ := F (by omega)
  refine ⟨g, 0, rfl, ?_⟩
  rw [Nat.zero_add]
  refine f k _ ?_
  rw [List.getElem?_map, List.getElem?_eq_getElem hk, at_get _ _ hk]
  rfl
theorem tow_below {W W1 : World} {base : Nat} {v : Value} {l : List (List UInt8)} (h : Tow W base v l) (g : Below W.heap.size W W1) : Tow W1 base v l := by
  have h0 := h
  refine ⟨h.1, ?_⟩
  rcases h.2 with e | ⟨q, cc, cu, e, h1, h2, h3⟩
  · exact Or.inl e
  · exact Or.inr ⟨q, cc, cu, e, h1, (g.block q (Array.getElem?_eq_some_iff.1 h2).1).trans h2, h3⟩

set_option maxRecDepth 100000 in
set_option maxHeartbeats 1000000 in
theorem split_own (s : ByteArray) (m : Int) (w : World) (hs : s.size < 4294967281) (hm : w.cell? ⟨3, 0, none⟩ = some (.int .i64 m)) :
    Calls Tryz.prog 63 #[.string s] w fun e w' => (∃ v, e = .returned (.tuple #[v, sV (Lin.spl s.data.toList).2]) ∧ Tow w' w.heap.size v (Lin.spl s.data.toList).1) ∧ Below w.heap.size w w' := by
  have hc := countB_spl s
  have hp := splitB_spl s
  have hlen : (Lin.spl s.data.toList).1.length ≤ s.data.toList.length := by
    have := Lin.spl_len s.data.toList
    omega
  have hsz := Lib.size_eq s
  have HS := Tryz.strings_Split s ⟨#[13, 10]⟩ m w hs hm (by decide)
  rw [hp, hc] at HS
  clear hc hp
  generalize Lin.spl s.data.toList = p at *
  obtain ⟨l, r⟩ := p
  generalize hn : l.length = n at *
  have HH := Lib.hid HS
  clear HS
  go_enter Tryz.func63, Tryz.ntmps63
  go_wp2_with fail
  refine Calls.mono HH.out ?_
  rintro e w' ⟨rfl, rfl⟩
  have f1 : (w.alloc (.cells ((l ++ [r]).map sV).toArray 9)).cell? ⟨w.heap.size, n, none⟩ = some (.string ⟨r.toArray⟩) := by
    simp [← hn, sV]
  have hw : ((n + 1 : Nat) : Int) - 1 = (n : Int) := by omega
  have f2 : Tow (w.alloc (.cells ((l ++ [r]).map sV).toArray 9)) w.heap.size (.slice (some ⟨w.heap.size, 0, none⟩) n (n + 1)) l := by
    unfold Tow
    rw [hn]
    refine ⟨by rw [List.length_map, hn, Nat.mul_one], Or.inr ⟨w.heap.size, n + 1, ((l ++ [r]).map sV).toArray, rfl, Nat.le_refl _, ?_, Nat.le_succ _, by unfold maxLen; omega, ?_, ?_⟩⟩
    · show (w.heap.push _)[w.heap.size]? = _
      rw [Array.getElem?_push_size]
    · simp [hn]
    · rw [Nat.mul_one, List.map_append, ← hn]
      exact List.take_left' (List.length_map ..)
  have f3 : Below w.heap.size w (w.alloc (.cells ((l ++ [r]).map sV).toArray 9)) := (Below.refl _ _).alloc (Nat.le_refl _) _
  generalize w.alloc (.cells ((l ++ [r]).map sV).toArray 9) = W at *
  go_wp2_with fail
  go_quiet (fail)
  go_wp2
  go_ret2
  exact ⟨⟨_, rfl, tow_below f2 (below_drewN (Below.refl _ _) _)⟩, below_drewN f3 _⟩

set_option maxRecDepth 100000 in
set_option maxHeartbeats 2000000 in
theorem lines_any (s : ByteArray) (m : Int) (w : World) (hs : s.size < 4294967281) (hm : w.cell? ⟨3, 0, none⟩ = some (.int .i64 m)) :
    Calls Tryz.prog 45 #[.string s] w fun e w' => (∃ v, e = .returned v ∧ Tow w' w.heap.size v (Bnc.lns s.data.toList)) ∧ Below w.heap.size w w' := by
  obtain ⟨i0, hi, hz0, hz1, hz2⟩ := info_parts info9
  have HS := Lib.hid (split_own s m w hs hm)
  have hlen : (Lin.spl s.data.toList).1.length ≤ s.data.toList.length := by
    have := Lin.spl_len s.data.toList
    omega
  have hsz := Lib.size_eq s
  have HLN : Hid (Bnc.lns s.data.toList = (Lin.spl s.data.toList).1 ++ (if (Lin.spl s.data.toList).2 = [] then [] else [(Lin.spl s.data.toList).2])) := rfl
  have hl2 : (Lin.spl s.data.toList).1.length ≤ 4294967281 := by omega
  clear hlen hsz hm
  generalize Lin.spl s.data.toList = p at *
  obtain ⟨l, r⟩ := p
  generalize Bnc.lns s.data.toList = L at *
  go_enter Tryz.func45, Tryz.ntmps45
  go_wp2_with fail
  refine HS.out.mono ?_
  rintro e w1 ⟨⟨v, rfl, ho⟩, hb⟩
  have HO := Lib.hid ho
  have HB := Lib.hid hb
  have hsz1 := hb.size
  clear ho hb HS
  have hrb := str_bne r []
  unfold sV
  by_cases hr : r = []
  · have e : L = l := by rw [HLN.out, if_pos hr, List.append_nil]
    have hrb2 : r.isEmpty = true := by simp [hr]
    clear hrb HLN
    go_wp2_with fail
    go_ret
    exact ⟨⟨_, rfl, by rw [e]; exact HO.out⟩, HB.out⟩
  · have e : L = l ++ [r] := by rw [HLN.out, if_neg hr]
    have hrb2 : r.isEmpty = false := by simp [hr]
    clear hrb HLN
    go_wp2_with (at_builtin; go_must (refine wpList_append_own _ rfl (.tmp 12) (.tmp 14) 47 rfl w.heap.size 9 i0 (.string ⟨#[]⟩) 1 16 Tryz.underlying47 hi hz0 hz1 hz2 rfl (by decide) _ _ _ rfl (HO.out.alloc _) ⟨w1.heap.size, 0, none⟩ 1 1 [sV r] rfl rfl ?x1 ?x2 ?x3 ?x4 ?x5 ?_))
    case x1 => exact cell_one_new _ _ _
    case x2 => first | rfl | (intro u hu; simp only [List.mem_singleton] at hu; subst hu; rfl)
    case x3 => unfold maxLen; omega
    case x4 => omega
    case x5 => first | omega | (simp only [World.size_alloc]; omega)
    intro v' w5 hown hgrow _
    have HT : Hid (Tow w5 w.heap.size v' L) := by
      show Tow _ _ _ _
      rw [e]
      unfold Tow
      rw [List.length_append, List.map_append]
      exact hown
    have HB5 := Lib.hid ((HB.out.alloc hsz1 _).grown hgrow (by simp only [World.size_alloc]; omega) (fun q hq => (HO.out.lt q hq).1))
    clear hown hgrow
    go_wp2
    go_ret
    exact ⟨⟨_, rfl, HT.out⟩, HB5.out⟩

/-- slices.Index of the empty string. -/
theorem idx_any (A : Option Addr) (c : Nat) (L : List (List UInt8)) (w : World) (h : Txs w A L) (hbig : L.length ≤ 9223372036854775807) :
    Calls Tryz.prog 51 #[.slice A L.length c, .string ⟨#[]⟩] w fun e w' => ∃ k : Int, e = .returned (.int .i64 k) ∧ w = w' ∧ ((k = -1 ∧ Bnc.hdl L = L) ∨ ∃ j : Nat, k = j ∧ j < L.length ∧ Bnc.hdl L = L.take j) := by
  obtain ⟨zs, hzs⟩ : ∃ zs : List ByteArray, zs = L.map fun x => ⟨x.toArray⟩ := ⟨_, rfl⟩
  have hl : zs.length = L.length := by rw [hzs, List.length_map]
  have hg : ∀ j, j < L.length → zs.getD j ByteArray.empty = ⟨(L.getD j []).toArray⟩ := fun j hj => by
    rw [hzs, List.getD_eq_getElem?_getD, List.getElem?_map, List.getD_eq_getElem?_getD, List.getElem?_eq_getElem hj]
    rfl
  have hne : ∀ j, j < L.length → (zs.getD j ByteArray.empty = ⟨#[]⟩ ↔ L.getD j [] = []) := fun j hj => by
    rw [hg j hj]
    constructor
    · intro e
      have := congrArg (fun b : ByteArray => b.data.toList) e
      simpa using this
    · intro e
      rw [e]
  by_cases h0 : L.length = 0
  · have e : L = [] := List.length_eq_zero_iff.1 h0
    rw [h0]
    refine (Tryz.slices_Index_string_empty A c ⟨#[]⟩ w).mono ?_
    rintro e1 w1 ⟨rfl, rfl⟩
    exact ⟨-1, rfl, rfl, Or.inl ⟨rfl, by rw [e]; rfl⟩⟩
  · obtain ⟨b, off, rfl, _⟩ := h 0 (by omega)
    have hc : ∀ j, j < zs.length → w.cell? ⟨b, off + j, none⟩ = some (.string (zs.getD j ByteArray.empty)) := fun j hj => by
      rw [hl] at hj
      obtain ⟨b2, o2, e, f⟩ := h j hj
      cases e
      rw [f, hg j hj]
      rfl
    refine (Tryz.slices_Index_string b off L.length c zs ⟨#[]⟩ w (by omega) hbig hc).mono ?_
    rintro e1 w1 ⟨rfl, rfl⟩
    refine ⟨_, rfl, rfl, ?_⟩
    rcases Bnc.hdl_at L with ⟨h1, h2⟩ | ⟨k, h1, h2, h3, h4⟩
    · exact Or.inl ⟨Lib.idxOfS_miss zs L.length _ (fun j hj e => h1 j hj ((hne j hj).1 e)), h2⟩
    · exact Or.inr ⟨k, Lib.idxOfS_hit zs L.length k _ h1 (by omega) ((hne k h1).2 h2) (fun j hj e => h3 j hj ((hne j (by omega)).1 e)), h1, h4⟩
theorem txs_take {w : World} {A : Option Addr} {L : List (List UInt8)} (h : Txs w A L) (k : Nat) : Txs w A (L.take k) := fun j hj => by
  rw [List.length_take] at hj
  obtain ⟨b, o, e, f⟩ := h j (by omega)
  refine ⟨b, o, e, ?_⟩
  rw [f]
  congr 4
  unfold at'
  rw [List.getD_eq_getElem?_getD, List.getD_eq_getElem?_getD, List.getElem?_take, if_pos (by omega)]

set_option maxRecDepth 100000 in
set_option maxHeartbeats 2000000 in
theorem head_any (s : ByteArray) (m : Int) (w : World) (hs : s.size < 4294967281) (hm : w.cell? ⟨3, 0, none⟩ = some (.int .i64 m)) :
    Calls Tryz.prog 21 #[.string s] w fun e w' => (∃ A c, e = .returned (.slice A (Bnc.hdl (Bnc.lns s.data.toList)).length c) ∧ Txs w' A (Bnc.hdl (Bnc.lns s.data.toList))) ∧ Below w.heap.size w w' := by
  have HS := Lib.hid (lines_any s m w hs hm)
  have hsz := Lib.size_eq s
  have hlen := Bnc.lns_len s.data.toList
  have hLl : (Bnc.lns s.data.toList).length ≤ 4294967281 := by omega
  clear hsz hlen hm
  generalize Bnc.lns s.data.toList = L at *
  go_enter Tryz.func21, Tryz.ntmps21
  go_wp2_with fail
  refine HS.out.mono ?_
  rintro e w1 ⟨⟨v, rfl, ho⟩, hb⟩
  obtain ⟨A, c, rfl, hcap, ht⟩ := tow_txs ho
  have HB := Lib.hid hb
  have HI := Lib.hid (idx_any A c L w1 ht (by omega))
  have HT := Lib.hid ht
  clear ho hb HS ht
  go_wp2_with fail
  refine HI.out.mono ?_
  rintro e w2 ⟨k, rfl, rfl, hk⟩
  rcases hk with ⟨rfl, h2⟩ | ⟨j, rfl, h1, h2⟩
  · have H2 := Lib.hid h2
    clear h2
    go_wp2_with fail
    go_ret
    rw [H2.out]
    exact ⟨⟨_, _, rfl, HT.out⟩, HB.out⟩
  · have HT2 := Lib.hid (txs_take HT.out j)
    have e3 : (Bnc.hdl L).length = j := by rw [h2, List.length_take]; omega
    rw [← h2] at HT2
    have E3 := Lib.hid e3
    clear h2 e3
    have hj1 : (j : Int) ≤ (c : Int) := by omega
    go_wp2_with fail
    go_ret
    rw [E3.out]
    exact ⟨⟨_, _, rfl, HT2.out⟩, HB.out⟩
end Go.Proofs.YtkchebbolldmbaaGreatDoor
