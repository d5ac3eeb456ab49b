/-
  PROVED HERE: what own and large of the statements compute.
-/
import Derived.Test.YtocjjfjcepflnaaDoorRt
import Derived.Deep.Onto
import Derived.Deep.DeepMust
set_option linter.unusedVariables false
namespace Go.Proofs.YtocjjfjcepflnaaDoor
open Go.RowKit
theorem flat_at {α : Type} (g : α → List Value) (c : Nat) (hc : ∀ x, (g x).length = c) : ∀ (l : List α) (k : Nat) (hk : k < l.length) (j : Nat), j < c → (l.flatMap g)[k * c + j]? = (g l[k])[j]?
  | [], k, hk, j, _ => absurd hk (Nat.not_lt_zero k)
  | x :: l, 0, _, j, hj => by
    rw [List.flatMap_cons, Nat.zero_mul, Nat.zero_add, List.getElem?_append_left (by rw [hc]; exact hj)]
    rfl
  | x :: l, k + 1, hk, j, hj => by
    have e : (k + 1) * c + j = c + (k * c + j) := by rw [Nat.succ_mul]; omega
    rw [List.flatMap_cons, List.getElem?_append_right (by rw [hc, e]; omega), hc, e, Nat.add_sub_cancel_left, flat_at g c hc l k (by simpa using hk) j hj]
    rfl
theorem flat_length {α : Type} (g : α → List Value) (c : Nat) (hc : ∀ x, (g x).length = c) : ∀ l : List α, (l.flatMap g).length = l.length * c
  | [] => by simp
  | x :: l => by rw [List.flatMap_cons, List.length_append, hc, flat_length g c hc l, List.length_cons, Nat.succ_mul]; omega
/-- A row of the call's own: a cell of it. -/
theorem own_at {α : Type} {W : World} {base e c n cap gg : Nat} {g : α → List Value} (hc : ∀ x, (g x).length = c) {l : List α} (h : W.ownsRow base e c (.slice (some ⟨gg, 0, none⟩) n cap) n (l.flatMap g)) (k : Nat) (hk : k < l.length) (j : Nat) (hj : j < c) {u : Value} (hu : (g l[k])[j]? = some u) :
    W.cell? ⟨gg, k * c + j, none⟩ = some u := by
  have q := h.cells rfl (k * c + j) u (by rw [flat_at g c hc l k hk j hj]; exact hu)
  rw [add_off] at q
  simpa using q
def ruL (x : Ru) : List Value := [.string ⟨x.dm.toArray⟩, .int .i64 x.kd, .int .i64 x.ho]
theorem ruL_len (x : Ru) : (ruL x).length = 3 := rfl
theorem ruL_one (x : Ru) : ∀ v ∈ ruL x, v.oneCell' = true := by
  intro v hv
  unfold ruL at hv
  simp only [List.mem_cons, List.not_mem_nil, or_false] at hv
  rcases hv with rfl | rfl | rfl <;> rfl
theorem own_rus {W : World} {base e n : Nat} {v : Value} {l : List Ru} {f : Nat → Ru} (h : W.ownsRow base e 3 v n (l.flatMap ruL)) (hl : l.length = n) (hf : ∀ k (hk : k < l.length), l[k] = f k) : ∃ A c, v = .slice A n c ∧ Rus W A n f := by
  rcases h.2 with ⟨e1, e0⟩ | ⟨g, cap, cur, e1, _⟩
  · subst e1
    subst e0
    exact ⟨none, 0, rfl, fun k hk => absurd hk (Nat.not_lt_zero k)⟩
  · subst e1
    refine ⟨_, cap, rfl, fun k hk => ⟨g, 0, rfl, ?_⟩⟩
    have hk2 : k < l.length := by omega
    have he := hf k hk2
    simp only [Nat.zero_add]
    have a0 := own_at ruL_len h k hk2 0 (by omega) (u := .string ⟨(f k).dm.toArray⟩) (by rw [he]; rfl)
    have a1 := own_at ruL_len h k hk2 1 (by omega) (u := .int .i64 (f k).kd) (by rw [he]; rfl)
    have a2 := own_at ruL_len h k hk2 2 (by omega) (u := .int .i64 (f k).ho) (by rw [he]; rfl)
    exact ⟨⟨a0, a1⟩, a2⟩
theorem info29 : (Tryd.prog.info? 29).map (fun i => (i.zero, i.size, i.bytes)) = some (some (.agg #[.string ⟨#[]⟩, .int .i64 0, .int .i64 0]), 3, 32) := by kernel_rfl
theorem range_flat (f : Nat → Ru) (k : Nat) : ((List.range (k + 1)).map f).flatMap ruL = ((List.range k).map f).flatMap ruL ++ ruL (f k) := by
  rw [List.range_succ, List.map_append, List.flatMap_append]
  simp
theorem cell_three_one (w : World) (a b c : Value) (t : TypeId) : ∀ j u, ([a, b, c] : List Value)[j]? = some u → (w.alloc (.cells #[a, b, c] t)).cell? ((⟨w.heap.size, 0, none⟩ : Addr).add j) = some u := by
  intro j u hj
  rw [add_off, Nat.zero_add, World.cell?_alloc_new]
  match j, hj with
  | 0, hj => exact hj
  | 1, hj => exact hj
  | 2, hj => exact hj

set_option maxRecDepth 100000 in
set_option maxHeartbeats 4000000 in
theorem own_any (A : Option Addr) (n c : Nat) (f : Nat → Ru) (w : World) (hR : Rus w A n f) (hn : n ≤ 1000000) :
    Calls Tryd.prog 14 #[.slice A n c] w fun e w' => (∃ A2 c2, e = .returned (.slice A2 n c2) ∧ Rus w' A2 n f) ∧ Below w.heap.size w w' := by
  obtain ⟨i0, hi0, hz0, hz1, hz2⟩ := info_parts info29
  have HR := Lib.hid hR
  clear hR
  go_enter Tryd.func14, Tryd.ntmps14
  go_wp2
  go_loopw [8, 3] (fun u v wr => ∃ k : Nat, u = .int .i64 k ∧ k ≤ n ∧ Hid (wr.ownsRow w.heap.size 29 3 v k (((List.range k).map f).flatMap ruL)) ∧ Hid (Below w.heap.size w wr)) (fun u _ _ => n - (intOf u).toNat)
  case atStart => exact ⟨0, rfl, by omega, World.ownsRow_lit w #[] 0 (Nat.le_refl _) (by unfold maxLen; omega) rfl, (Below.refl _ _).alloc (Nat.le_refl _) _⟩
  case round =>
    obtain ⟨k, rfl, hk, HO, HB⟩ := hrel
    by_cases hlt : k < n
    · have hltz : (k : Int) < (n : Int) := by omega
      have HR2 := Lib.hid (rus_below HR.out HB.out)
      obtain ⟨b, off, rfl, ⟨t0, t1⟩, t2⟩ := HR2.out k hlt
      have hsz := HB.out.size
      have HX := Lib.hid (range_flat f k)
      generalize f k = x at *
      go_wp2_with (at_builtin; go_must (refine wpList_append_own _ rfl (.tmp 11) (.tmp 16) 32 rfl w.heap.size 29 i0 (.agg #[.string ⟨#[]⟩, .int .i64 0, .int .i64 0]) 3 32 Tryd.underlying32 hi0 hz0 hz1 hz2 rfl (by decide) _ _ _ rfl (HO.out.alloc _) ⟨wr.heap.size, 0, none⟩ 1 1 (ruL x) rfl rfl ?pa ?pb ?pc ?pd ?pe ?_))
      case pa => exact cell_three_one wr _ _ _ 29
      case pb => exact ruL_one _
      case pc => unfold maxLen; omega
      case pd => omega
      case pe => simp only [World.size_alloc]; omega
      intro v' w5 hown hgrow _
      have hb5 : Below w.heap.size w w5 := (HB.out.alloc hsz _).grown hgrow (by simp only [World.size_alloc]; omega) (fun q hq => (HO.out.lt q hq).1)
      have HOW : Hid (w5.ownsRow w.heap.size 29 3 v' (k + 1) (((List.range (k + 1)).map f).flatMap ruL)) := by
        rw [HX.out]
        exact hown
      have HB5 := Lib.hid hb5
      clear hown hgrow hb5
      go_wp2
      go_roundw
      case rel => exact ⟨k + 1, by go_num, by omega, HOW, HB5.out⟩
      case measure => simp [intOf]; omega
    · have hltz : ¬ (k : Int) < (n : Int) := by omega
      obtain rfl : k = n := by omega
      obtain ⟨A2, c2, e2, hr3⟩ := own_rus (f := f) HO.out (by simp) (fun j hj => by simp)
      subst e2
      have HR3 := Lib.hid hr3
      clear hr3
      go_wp2_with fail
      go_ret
      refine ⟨⟨A2, ?_⟩, HB.out⟩
      exact ⟨⟨c2, rfl⟩, HR3.out⟩

/-- Are rules too many or too long? -/
def lgR (f : Nat → Ru) (n : Nat) : Bool := decide (60 < n) || (List.range n).any fun i => decide (500 < (f i).dm.length)
theorem lgR_many {f : Nat → Ru} {n : Nat} (h : 60 < n) : lgR f n = true := by unfold lgR; rw [decide_eq_true h]; rfl
theorem lgR_long {f : Nat → Ru} {n k : Nat} (hk : k < n) (h : 500 < (f k).dm.length) : lgR f n = true := by
  unfold lgR
  rw [Bool.or_eq_true]
  right
  rw [List.any_eq_true]
  exact ⟨k, List.mem_range.2 hk, by simpa using h⟩
theorem lgR_no {f : Nat → Ru} {n : Nat} (h0 : ¬ 60 < n) (h : ∀ k, k < n → ¬ 500 < (f k).dm.length) : lgR f n = false := by
  unfold lgR
  rw [decide_eq_false h0, Bool.false_or, List.any_eq_false]
  intro k hk
  simpa using h k (List.mem_range.1 hk)
theorem lgR_false {f : Nat → Ru} {n : Nat} (h : lgR f n = false) : n ≤ 60 ∧ ∀ k, k < n → (f k).dm.length ≤ 500 := by
  constructor
  · by_cases g : 60 < n
    · rw [lgR_many g] at h; cases h
    · omega
  · intro k hk
    by_cases g : 500 < (f k).dm.length
    · rw [lgR_long hk g] at h; cases h
    · omega

set_option maxRecDepth 100000 in
set_option maxHeartbeats 2000000 in
theorem large_any (A : Option Addr) (n c : Nat) (f : Nat → Ru) (w : World) (hR : Rus w A n f) (hn : n ≤ 4611686018427387904) : Calls Tryd.prog 11 #[.slice A n c] w fun e w' => e = .returned (.bool (lgR f n)) ∧ w = w' := by
  have HR := Lib.hid hR
  have HM := Lib.hid (lgR_many (f := f) (n := n))
  have HL := Lib.hid (fun k => lgR_long (f := f) (n := n) (k := k))
  have HN := Lib.hid (lgR_no (f := f) (n := n))
  clear hR
  generalize lgR f n = r at *
  by_cases h60 : 60 < n
  · have hz : (60 : Int) < (n : Int) := by omega
    have HV := Lib.hid (HM.out h60)
    go_enter Tryd.func11, Tryd.ntmps11
    go_wp2_with fail
    go_ret
    exact ⟨by rw [HV.out]; rfl, rfl⟩
  · have hz : ¬ (60 : Int) < (n : Int) := by omega
    go_enter Tryd.func11, Tryd.ntmps11
    go_wp2_with fail
    go_loop [9] (fun u => ∃ k : Nat, u = .int .i64 k ∧ k ≤ n ∧ Hid (∀ j, j < k → ¬ 500 < (f j).dm.length)) (fun u => n - (intOf u).toNat)
    case atStart => exact ⟨0, rfl, by omega, (fun j hj => absurd hj (Nat.not_lt_zero j))⟩
    case round =>
      obtain ⟨k, rfl, hk, HK⟩ := hrel
      by_cases hlt : k < n
      · have hltz : (k : Int) < (n : Int) := by omega
        obtain ⟨b, off, rfl, ⟨t0, _⟩, _⟩ := HR.out k hlt
        obtain ⟨P, hP⟩ : ∃ P : ByteArray, P = ⟨(f k).dm.toArray⟩ := ⟨_, rfl⟩
        have hsz : P.size = (f k).dm.length := by rw [hP, size_mk]
        rw [← hP] at t0
        clear hP
        by_cases hs : 500 < (f k).dm.length
        · have HV := Lib.hid (HL.out k hlt hs)
          have hsx : (500 : Int) < (P.size : Int) := by omega
          clear hs hsz
          go_wp2_with fail
          go_ret
          exact ⟨by rw [HV.out]; rfl, rfl⟩
        · have HN2 : Hid (∀ j, j < k + 1 → ¬ 500 < (f j).dm.length) := fun j hj => by
            rcases Nat.lt_succ_iff_lt_or_eq.1 hj with h | h
            · exact HK.out j h
            · subst h; exact hs
          have hsx : ¬ (500 : Int) < (P.size : Int) := by omega
          clear hs hsz
          go_wp2_with fail
          go_round
          case rel => exact ⟨k + 1, by go_num, by omega, HN2⟩
          case measure => simp [intOf]; omega
      · have hltz : ¬ (k : Int) < (n : Int) := by omega
        obtain rfl : k = n := by omega
        have HV := Lib.hid (HN.out h60 HK.out)
        go_wp2_with fail
        go_ret
        exact ⟨by rw [HV.out]; rfl, rfl⟩
end Go.Proofs.YtocjjfjcepflnaaDoor
