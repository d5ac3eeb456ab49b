/-
  PROVED HERE: what the document's answers Order (of no words) and Least compute; the least one's place is the first in order.
-/
import Derived.Test.YtpfcdpmpfgdnaaaROrder
import Derived.Test.YtpfcdpmpfgdnaaaAwake
namespace Go.Proofs.Ytpfcdpmpfgdnaaa
open Go.RowKit Go.Sort

theorem ord_head (L : Nat → Nat) (n k : Nat) (hk : k < n) : (ordT L n (k + 1)).head? = some (leastN L (k + 1)) := by
  induction k with
  | zero => rfl
  | succ k ih =>
    have h := ih (by omega)
    rw [ordT_succ]
    cases e : ordT L n (k + 1) with
    | nil => rw [e] at h; cases h
    | cons y ys =>
      rw [e] at h
      have hy : y = leastN L (k + 1) := by simpa using h
      have hlt := leastN_lt L k
      have e1 : leastN L (k + 1 + 1) = if Wgh.cmpW (L (k + 1)) (L (leastN L (k + 1))) < 0 then k + 1 else leastN L (k + 1) := by rw [leastN, if_neg (by omega)]
      rw [Stb.ins_cons, e1]
      have e2 : ltL L n (k + 1) y = decide (Wgh.cmpW (L (k + 1)) (L (leastN L (k + 1))) < 0) := by
        unfold ltL
        rw [hy, Nat.mod_eq_of_lt hk, Nat.mod_eq_of_lt (by omega)]
      rw [e2]
      by_cases c : Wgh.cmpW (L (k + 1)) (L (leastN L (k + 1))) < 0
      · rw [if_pos (decide_eq_true c), if_pos c]; rfl
      · rw [if_neg (by simp [c]), if_neg c, hy]; rfl
theorem least_ord (L : Nat → Nat) (n : Nat) (hn : 0 < n) : leastI L n = (((ordL L n).getD 0 0 : Nat) : Int) := by
  obtain ⟨k, rfl⟩ : ∃ k, n = k + 1 := ⟨n - 1, by omega⟩
  have h := ord_head L (k + 1) k (by omega)
  have h2 : (ordL L (k + 1)).head? = some (leastN L (k + 1)) := h
  unfold leastI
  rw [if_neg (by omega)]
  cases e : ordL L (k + 1) with
  | nil => rw [e] at h2; cases h2
  | cons y ys => rw [e] at h2; simp at h2; rw [← h2]; rfl

set_option maxHeartbeats 400000 in
theorem rorder_none (A : Option Addr) (cap : Nat) (w : World) : Calls Try.prog 26 #[.slice A 0 cap] w fun e w' => e = .returned (.slice (some ⟨w.heap.size, 0, none⟩) 0 0) ∧ Below w.heap.size w w' := by
  go_enter Try.func26, Try.ntmps26
  go_wp2
  go_loop [3, 4] (fun v u => v = .slice (some ⟨w.heap.size, 0, none⟩) 0 0 ∧ u = .int .i64 0) (fun _ _ => 0)
  case atStart => exact ⟨rfl, rfl⟩
  case round =>
    obtain ⟨rfl, rfl⟩ := hrel
    go_wp2
    go_ret
    exact ⟨rfl, (Below.refl _ _).alloc (Nat.le_refl _) _⟩

set_option maxHeartbeats 400000 in
theorem rleast_some (L : Nat → Nat) (hL : ∀ k, L k < 18446744073709551616) (b off n cap : Nat) (w : World) (hn : 0 < n) (hn2 : n < 4294967296) (hb : b < w.heap.size) (hw : Words w b off n L) :
    Calls Try.prog 28 #[.slice (some ⟨b, off, none⟩) n cap] w fun e w' => e = .returned (.int .i64 (leastI L n)) ∧ Below w.heap.size w w' := by
  have h := rorder_some L hL b off n cap w hn hn2 hb hw
  have H := Lib.hid h
  have hnz : ((n : Int) == 0) = false := by simp; omega
  clear h hw hL
  go_enter Try.func28, Try.ntmps28
  go_wp2_with fail
  refine Calls.mono H.out ?_
  rintro e w1 ⟨g, c, rfl, hg, hc, hb1⟩
  have c0 := hc 0 hn
  have HB := Lib.hid hb1
  clear hc hb1
  go_wp2
  go_ret
  exact ⟨by rw [least_ord L n hn]; rfl, HB.out⟩

set_option maxHeartbeats 400000 in
theorem rleast_none (A : Option Addr) (cap : Nat) (w : World) : Calls Try.prog 28 #[.slice A 0 cap] w fun e w' => e = .returned (.int .i64 (-1)) ∧ Below w.heap.size w w' := by
  go_enter Try.func28, Try.ntmps28
  go_wp2_with (go_at_call 26; refine (rorder_none _ _ _).mono ?_; rintro e w1 ⟨rfl, hb1⟩; have HB := Lib.hid hb1; clear hb1)
  go_ret
  exact ⟨rfl, HB.out⟩

theorem info22 : (Try.prog.info? 22).map (fun i => (i.zero, i.size, i.bytes)) = some (some (.int .u64 0), 1, 8) := by kernel_rfl

/-- The words of a row of numbers that came in. -/
def wordsOf (zs : List Int) (k : Nat) : Nat := (zs.getD k 0).toNat
theorem wordsOf_lt {zs : List Int} (h : ∀ n ∈ zs, (Lit.int .u64 n).wf = true) (k : Nat) : wordsOf zs k < 18446744073709551616 ∧ ((wordsOf zs k : Nat) : Int) = zs.getD k 0 := by
  unfold wordsOf
  rw [List.getD_eq_getElem?_getD]
  rcases Nat.lt_or_ge k zs.length with g | g
  · rw [List.getElem?_eq_getElem g]
    simp only [Option.getD_some]
    have := wf_u64 (h _ (List.getElem_mem g))
    omega
  · rw [List.getElem?_eq_none g]
    simp
theorem plain_addr {w : World} {x : Addr} {v : Value} (h : w.cell? x = some v) : ∃ b off, x = ⟨b, off, none⟩ ∧ b < w.heap.size := by
  obtain ⟨b, off, s⟩ := x
  have hb : b < w.heap.size := by
    rcases Nat.lt_or_ge b w.heap.size with g | g
    · exact g
    · simp [World.cell?, Array.getElem?_eq_none g] at h
  cases s with
  | none => exact ⟨b, off, rfl, hb⟩
  | some s =>
    exfalso
    unfold World.cell? at h
    split at h
    · simp at h
    · cases h

end Go.Proofs.Ytpfcdpmpfgdnaaa
