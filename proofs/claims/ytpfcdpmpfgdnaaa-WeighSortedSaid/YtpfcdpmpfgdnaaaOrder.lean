/-
  PROVED HERE: what Order of the program computes: the places of a row of words in stable order.
-/
import Derived.Test.YtpfcdpmpfgdnaaaLeaf2
import Derived.Test.YtpfcdpmpfgdnaaaSortG
import Derived.Deep.QuietTactic
import Derived.BigQuiet
namespace Go.Proofs.Ytpfcdpmpfgdnaaa
open Go.RowKit Go.Sort

/-- Which of two places of a row of n words weighs less. -/
def ltL (L : Nat → Nat) (n : Nat) (x y : Nat) : Bool := decide (Wgh.cmpW (L (x % n)) (L (y % n)) < 0)
/-- The places of a row of n words, in order. -/
def ordL (L : Nat → Nat) (n : Nat) : List Nat := Stb.isort (ltL L n) (List.range n)

theorem cmpW_neg (x y : Nat) : Wgh.cmpW x y < 0 ↔ Wgh.wt x < Wgh.wt y := by
  unfold Wgh.cmpW
  split
  · simp [*]
  · split <;> simp [*]
theorem swo_ltL (L : Nat → Nat) (n : Nat) : Stb.Swo (ltL L n) := by
  have e : ∀ x y, ltL L n x y = decide (Wgh.wt (L (x % n)) < Wgh.wt (L (y % n))) := fun x y => by
    unfold ltL
    rw [decide_eq_decide, cmpW_neg]
  refine ⟨fun x => ?_, fun x y z h1 h2 => ?_, fun x y z h1 => ?_⟩
  · rw [e]; simp
  · rw [e] at *; simp only [decide_eq_true_eq] at *; omega
  · rw [e] at h1
    rw [e x z, e z y]
    simp only [decide_eq_true_eq] at h1 ⊢
    omega

/-- A row of words in memory. -/
def Words (w : World) (b off n : Nat) (L : Nat → Nat) : Prop := ∀ k, k < n → w.cell? ⟨b, off + k, none⟩ = some (.int .u64 (L k : Int))

theorem run_call36 (args : Array Value) (w : World) : (callFunc 36 args).run Try.prog w = .ok (.enter 36 args) w := by
  have h1 : (Try.f36.name == "runtime.NumGoroutine") = false := by kernel_rfl
  have h2 : Try.f36.name ≠ "runtime.NumGoroutine" := by simpa using h1
  have h3 : Try.f36.body.isSome = true := by kernel_rfl
  obtain ⟨c, hc⟩ := Option.isSome_iff_exists.1 h3
  simp [callFunc, Try.func36, h2, hc]

set_option maxHeartbeats 400000 in
theorem less_any (L : Nat → Nat) (hL : ∀ k, L k < 18446744073709551616) (b off n cap B : Nat) (i k : Nat) (w : World) (hn : 0 < n) (_hn2 : n < 4294967296)
    (hc : w.cell? ⟨B, 0, none⟩ = some (.slice (some ⟨b, off, none⟩) n cap)) (hw : Words w b off n L) :
    Calls Try.prog 36 #[.int .i64 ((i % n : Nat) : Int), .int .i64 ((k % n : Nat) : Int), .pointer (some ⟨B, 0, none⟩)] w fun e w' => e = .returned (.int .i64 (Wgh.cmpW (L (i % n)) (L (k % n)))) ∧ ∃ q, w' = w.drewN q := by
  have hi : i % n < n := Nat.mod_lt _ hn
  have hk : k % n < n := Nat.mod_lt _ hn
  have c1 := hw _ hi
  have c2 := hw _ hk
  have l1 := hL (i % n)
  have l2 := hL (k % n)
  clear hw hL
  generalize i % n = x at *
  generalize k % n = y at *
  generalize L x = X at *
  generalize L y = Y at *
  have hx1 : (x : Int) < (n : Int) := by omega
  have hy1 : (y : Int) < (n : Int) := by omega
  have hc3 : ∀ W : World, Calls Try.prog 13 #[.int .u64 (X : Int), .int .u64 (Y : Int)] W fun e w' => e = .returned (.int .i64 (Wgh.cmpW X Y)) ∧ W = w' := fun W => compare_any X Y W (by omega) (by omega) (by omega) (by omega)
  have HC := Lib.hid hc3
  clear hc3 l1 l2
  go_enter Try.func36, Try.ntmps36
  go_wp2_with fail
  go_quiet ((go_at_call 13; exact Calls.quiet_of_same ((HC.out _).mono fun _ _ h => ⟨h.1, h.2.symm⟩)))
  go_wp2
  go_ret
  exact ⟨rfl, _, rfl⟩

theorem sw_block {α : Type} [Inhabited α] {enc : α → Value} {w0 W : World} {blk off : Nat} {d : Array α} (h : SW enc w0 blk off d W) (k : Nat) (hk : k ≠ blk) (hl : k < w0.heap.size) : W.heap[k]? = w0.heap[k]? := by
  obtain ⟨n, os, rfl⟩ := h
  show (grow (putRow enc (Sort.ahead w0 n) blk off d) os).heap[k]? = _
  rw [heap_grow_old _ _ (by rw [Sort.size_putRow]; show k < w0.heap.size; omega)]
  unfold putRow mapBlock
  show (w0.heap.modify blk _)[k]? = _
  rw [Array.getElem?_modify, if_neg (by omega)]
/-- What the sort's walks leave as it was. -/
theorem sw_below {α : Type} [Inhabited α] {enc : α → Value} {w0 W : World} {blk off : Nat} {d : Array α} (h : SW enc w0 blk off d W) (B : Nat) (hB : B ≤ blk) (hb : blk < w0.heap.size) : Below B w0 W := by
  have hk := fun k => sw_block h k
  obtain ⟨n, os, rfl⟩ := h
  refine ⟨rfl, rfl, rfl, ?_, fun k h1 => hk k (by omega) (by omega)⟩
  show _ ≤ (grow (putRow enc (Sort.ahead w0 n) blk off d) os).heap.size
  rw [size_grow, Sort.size_putRow]
  exact Nat.le_add_right _ _
/-- A cell of another block in a world of the sort's. -/
theorem sw_other {α : Type} [Inhabited α] {enc : α → Value} {w0 W : World} {blk off : Nat} {d : Array α} (h : SW enc w0 blk off d W) (p : Addr) (hp : p.block ≠ blk) (hl : p.block < w0.heap.size) : W.cell? p = w0.cell? p :=
  World.cell?_of_block (sw_block h _ hp hl)

/-- How a place is laid. -/
def encP (n : Nat) (x : Nat) : Value := .int .i64 ((x % n : Nat) : Int)
theorem one_encP (n : Nat) : OneCell (encP n) := by
  intro _; rfl

theorem info3 : (Try.prog.info? 3).map (fun i => (i.zero, i.size, i.bytes)) = some (some (.int .i64 0), 1, 8) := by kernel_rfl

def placesV (k : Nat) : List Value := (List.range k).map fun j : Nat => Value.int .i64 (j : Int)
theorem placesV_succ (k : Nat) : placesV (k + 1) = placesV k ++ [.int .i64 (k : Int)] := by unfold placesV; rw [List.range_succ, List.map_append]; rfl
theorem length_placesV (k : Nat) : (placesV k).length = k := by simp [placesV]

/-- What Order leaves: a row of places, in new memory. -/
def OrderPost (L : Nat → Nat) (n : Nat) (w : World) (e : Ending) (w' : World) : Prop :=
  ∃ g cap, e = .returned (.slice (some ⟨g, 0, none⟩) n cap) ∧ w.heap.size ≤ g ∧ (∀ k, k < n → w'.cell? ⟨g, k, none⟩ = some (.int .i64 (((ordL L n).getD k 0 : Nat) : Int))) ∧ Below w.heap.size w w'

theorem words_below {w w1 : World} {b off n : Nat} {L : Nat → Nat} {o : Obj} (h : Words w b off n L) (hb : b < w.heap.size) (hB : Below (w.heap.size + 1) (w.alloc o) w1) : Words w1 b off n L := by
  intro k hk
  rw [hB.cell (p := ⟨b, off + k, none⟩) (by simp; omega), World.cell?_alloc_lt w o _ hb]
  exact h k hk

theorem less_lays (L : Nat → Nat) (hL : ∀ k, L k < 18446744073709551616) (b off n cap B g : Nat) (w : World) (hn : 0 < n) (hn2 : n < 4294967296) (hBg : B ≠ g) (hbg : b ≠ g) (_hg : g < w.heap.size) (hB : B < w.heap.size)
    (hc : w.cell? ⟨B, 0, none⟩ = some (.slice (some ⟨b, off, none⟩) n cap)) (hw : Words w b off n L) :
    CmpLays1 Try.prog 36 #[.pointer (some ⟨B, 0, none⟩)] (encP n) (fun x y => Wgh.cmpW (L (x % n)) (L (y % n))) g 0 n w := by
  intro m os dk hs x y
  have S : SW (encP n) w g 0 dk (sortWorld (encP n) w g 0 m dk os) := ⟨m, os, rfl⟩
  have hb : b < w.heap.size := by
    have := hw 0 hn
    rcases Nat.lt_or_ge b w.heap.size with h | h
    · exact h
    · simp [World.cell?, Array.getElem?_eq_none h] at this
  refine (less_any L hL b off n cap B x y _ hn hn2 ?_ ?_).mono ?_
  · rw [sw_other S _ hBg hB]; exact hc
  · intro k hk
    rw [sw_other S _ hbg hb]; exact hw k hk
  · rintro e w' ⟨h1, q, h2⟩
    exact ⟨h1, q, #[], by rw [h2, grow_empty]⟩

theorem row_places {w : World} {base g cap n : Nat} (h : w.ownsRow base 3 1 (.slice (some ⟨g, 0, none⟩) n cap) n (placesV n)) (hg : g < w.heap.size) : Row1 (encP n) w g 0 (Array.range n) := by
  refine ⟨one_encP n, fun j hj => ?_, hg⟩
  have hj' : j < n := by simpa using hj
  rw [Nat.zero_add, h.cellAt j (by omega), h.frozenAt]
  refine ⟨?_, rfl⟩
  unfold placesV encP
  rw [List.getElem?_map, List.getElem?_range hj']
  have e : (Array.range n)[j]! = j := by rw [getElem!_pos _ _ (by simpa using hj')]; simp
  rw [e, Nat.mod_eq_of_lt hj']
  rfl

theorem seg_range (n : Nat) : Stb.seg (Gd (Array.range n)) 0 n = List.range n := by
  unfold Stb.seg Gd
  refine List.ext_getElem (by simp) fun i h1 h2 => ?_
  simp at h1
  simp [h1]
theorem ordL_lt (L : Nat → Nat) (n x : Nat) (h : x ∈ ordL L n) : x < n := List.mem_range.1 ((Stb.isort_perm _).mem_iff.1 h)
theorem length_ordL (L : Nat → Nat) (n : Nat) : (ordL L n).length = n := by unfold ordL; rw [Stb.length_isort, List.length_range]
theorem places_get (L : Nat → Nat) (n : Nat) (d : Array Nat) (h : Stb.seg (Gd d) 0 n = Stb.isort (ltOf fun x y => Wgh.cmpW (L (x % n)) (L (y % n))) (Stb.seg (Gd (Array.range n)) 0 n)) (j : Nat) (hj : j < n) :
    d[j]! = (ordL L n).getD j 0 ∧ (ordL L n).getD j 0 < n := by
  rw [seg_range] at h
  have h2 : Stb.seg (Gd d) 0 n = ordL L n := h
  have hl := length_ordL L n
  have e : (ordL L n)[j]? = some d[j]! := by
    rw [← h2]
    unfold Stb.seg
    rw [List.getElem?_map, List.getElem?_range hj]
    simp [Gd]
  rw [List.getD_eq_getElem?_getD, e]
  exact ⟨rfl, ordL_lt L n _ (List.mem_of_getElem? e)⟩

set_option maxHeartbeats 1000000 in
theorem order_some (L : Nat → Nat) (hL : ∀ k, L k < 18446744073709551616) (b off n cap : Nat) (w : World) (hn : 0 < n) (hn2 : n < 4294967296) (hb : b < w.heap.size) (hw : Words w b off n L) :
    Calls Try.prog 25 #[.slice (some ⟨b, off, none⟩) n cap] w (OrderPost L n w) := by
  obtain ⟨i0, hi, hz0, hz1, hz2⟩ := info_parts info3
  have hmf : ∀ (fn : Fn) (first cap : Array Value) (w : World), (Instr.makeFunc fn first cap).run Try.prog w = .ok (.func fn first cap) w := fun _ _ _ _ => rfl
  have HW := Lib.hid hw
  have HLL := Lib.hid hL
  clear hw hL
  go_enter Try.func25, Try.ntmps25
  go_wp2
  go_loopw [3, 7] (fun v i wr => ∃ k : Nat, k ≤ n ∧ i = .int .i64 k ∧ wr.ownsRow (w.heap.size + 1) 3 1 v k (placesV k) ∧ Below (w.heap.size + 1) (w.alloc (.cells #[.slice (some ⟨b, off, none⟩) n cap] 35)) wr) (fun _ i _ => n - (intOf i).toNat)
  case atStart => exact ⟨0, by omega, rfl, World.ownsRow_nil _ _ _ _, Below.refl _ _⟩
  case round =>
    obtain ⟨k, hk, rfl, hown, hbel⟩ := hrel
    by_cases hlt : k < n
    · have hltz : (k : Int) < (n : Int) := by omega
      have hsz := hbel.size
      go_wp2_with (at_builtin; refine wpList_append_own _ rfl (.tmp 10) (.tmp 12) 36 rfl (w.heap.size + 1) 3 i0 (.int .i64 0) 1 8 Try.underlying36 hi hz0 hz1 hz2 rfl (by decide) _ _ _ rfl (hown.alloc _) ⟨wr.heap.size, 0, none⟩ 1 1 [.int .i64 (k : Int)] rfl rfl ?c1 ?c2 ?c3 ?c4 ?c5 ?_)
      case c1 => exact cell_one_new _ _ _
      case c2 => intro u hu; simp only [List.mem_singleton] at hu; subst hu; rfl
      case c3 => unfold maxLen; omega
      case c4 => omega
      case c5 => simp only [World.size_alloc] at hsz ⊢; omega
      intro v' w1 hown1 hgrow _
      have hb1 : Below (w.heap.size + 1) (w.alloc (.cells #[.slice (some ⟨b, off, none⟩) n cap] 35)) w1 := by
        refine (hbel.alloc (by simp only [World.size_alloc] at hsz; omega) _).grown hgrow (by simp only [World.size_alloc] at hsz ⊢; omega) (fun q hq => ?_)
        exact (hown.lt q hq).1
      have HO := Lib.hid hown1
      have HB := Lib.hid hb1
      clear hown hbel hown1 hgrow hb1 hsz
      go_wp2
      go_roundw
      case rel => exact ⟨k + 1, by omega, by go_num, by rw [placesV_succ]; exact HO.out, HB.out⟩
      case measure => simp [intOf]; omega
    · have hltz : ¬ (k : Int) < (n : Int) := by omega
      obtain rfl : k = n := by omega
      have hex : ∃ g cap', u3 = .slice (some ⟨g, 0, none⟩) k cap' ∧ w.heap.size + 1 ≤ g ∧ g < wr.heap.size := by
        have hlt2 := hown.lt
        rcases hown.2 with ⟨_, h0⟩ | ⟨g, cap', cur, h1, h2, _⟩
        · omega
        · exact ⟨g, cap', h1, h2, (hlt2 g (by rw [h1]; rfl)).2⟩
      obtain ⟨g, cap', rfl, hg1, hg2⟩ := hex
      have HO := Lib.hid hown
      have HB := Lib.hid hbel
      clear hown hbel
      go_wp2_with fail
      refine (sortStable_s (encP k) (fun x y => Wgh.cmpW (L (x % k)) (L (y % k))) 36 _ g 0 cap' k (Array.range k) wr run_call36 (less_lays L HLL.out b off k cap w.heap.size g wr hn hn2 (by omega) (by omega) hg2 (by omega) (HB.out.cell (p := ⟨w.heap.size, 0, none⟩) (by simp) ▸ by simp) (words_below HW.out hb HB.out)) (row_places HO.out hg2) (by simp) (by omega) (swo_ltL L k)).mono ?_
      rintro e w1 ⟨rfl, d1, hd1, hseg, hS⟩
      have HD := Lib.hid hd1
      have HSg := Lib.hid hseg
      have HSS : Aside (SW (encP k) wr g 0 d1 w1) := hS
      clear hd1 hseg hS
      go_wp2
      go_ret
      refine ⟨g, cap', rfl, by omega, fun j hj => ?_, ?_⟩
      · have c := HSS.out.c1 (row_places HO.out hg2) (by rw [HD.out]; simp) j (by rw [HD.out]; exact hj)
        rw [Nat.zero_add] at c
        rw [c]
        have e := places_get L k d1 HSg.out j hj
        unfold encP
        rw [e.1, Nat.mod_eq_of_lt e.2]
      · have b1 := (Below.refl w.heap.size w).alloc (Nat.le_refl _) (.cells #[.slice (some ⟨b, off, none⟩) k cap] 35)
        exact (b1.trans (HB.out.mono (by omega))).trans (sw_below HSS.out _ (by omega) hg2)

end Go.Proofs.Ytpfcdpmpfgdnaaa
