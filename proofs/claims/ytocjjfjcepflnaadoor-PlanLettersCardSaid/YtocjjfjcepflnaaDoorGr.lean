/-
  PROVED HERE: plain facts on domains in great letters; rows of bools in memory, and such a row that came in; rules that came in, once more.
-/
import Derived.Test.YtocjjfjcepflnaaDoorLiftB
import Derived.Deep.Grids
set_option linter.unusedVariables false
namespace Adr
theorem low_byte : ∀ n, n < 256 → (labB (low n.toUInt8) = labB n.toUInt8 ∧ (low n.toUInt8 == 46) = (n.toUInt8 == 46) ∧ (low n.toUInt8 == 45) = (n.toUInt8 == 45) ∧ low (low n.toUInt8) = low n.toUInt8) := by decide +kernel
theorem low_zero_byte : ∀ n, n < 256 → ((low n.toUInt8 == 48) = (n.toUInt8 == 48)) := by decide +kernel
theorem low_zero (c : UInt8) : (low c == 48) = (c == 48) := by
  have h := low_zero_byte c.toNat (UInt8.toNat_lt c)
  rwa [show c.toNat.toUInt8 = c from UInt8.ofNat_toNat] at h
theorem low_facts (c : UInt8) : labB (low c) = labB c ∧ (low c == 46) = (c == 46) ∧ (low c == 45) = (c == 45) ∧ low (low c) = low c := by
  have h := low_byte c.toNat (UInt8.toNat_lt c)
  rwa [show c.toNat.toUInt8 = c from UInt8.ofNat_toNat] at h
theorem dots_sml : ∀ t : List UInt8, dots (sml t) = (dots t).map sml
  | [] => rfl
  | c :: t => by
    show dots (low c :: sml t) = _
    rw [dots, dots]
    have h := (low_facts c).2.1
    by_cases hc : c = 46
    · subst hc
      rw [if_pos (by decide +kernel), if_pos rfl, dots_sml t]
      rfl
    · have h2 : ¬ low c = 46 := by
        intro e
        rw [e] at h
        have : (c == 46) = true := h ▸ rfl
        exact hc (eq_of_beq this)
      rw [if_neg h2, if_neg hc, dots_sml t]
      cases hd : dots t with
      | nil => exact absurd hd (dots_ne t)
      | cons x xs => rfl
theorem allB_sml (t : List UInt8) : allB labB (sml t) = allB labB t := by
  unfold allB sml
  rw [List.all_map, List.isEmpty_map]
  congr 2
  funext c
  exact (low_facts c).1
theorem label_sml (t : List UInt8) : label (sml t) = label t := by
  unfold label
  rw [allB_sml]
  have h1 : (sml t).length = t.length := by unfold sml; rw [List.length_map]
  have h2 : ((sml t).headD 0 != 45) = (t.headD 0 != 45) := by
    cases t with
    | nil => rfl
    | cons c t => show (low c != 45) = (c != 45); unfold bne; rw [(low_facts c).2.2.1]
  have h3 : ((sml t).getLastD 0 != 45) = (t.getLastD 0 != 45) := by
    unfold sml
    rw [List.getLastD_eq_getLast?, List.getLastD_eq_getLast?, List.getLast?_map]
    cases t.getLast? with
    | none => rfl
    | some c => show (low c != 45) = (c != 45); unfold bne; rw [(low_facts c).2.2.1]
  rw [h1, h2, h3]
theorem domB_sml (t : List UInt8) : domB (sml t) = domB t := by
  unfold domB
  rw [dots_sml, List.all_map, show (sml t).length = t.length by unfold sml; rw [List.length_map]]
  congr 2
  funext x
  exact label_sml x
/-- A byte in a great letter, where it is asked for and may be. -/
def up (b : Bool) (c : UInt8) : UInt8 := if b = true ∧ 97 ≤ c.toNat ∧ c.toNat ≤ 122 then (c.toNat - 32).toUInt8 else c
theorem up_no (c : UInt8) : up false c = c := by unfold up; simp
theorem up_out {b : Bool} {c : UInt8} (h : ¬ (97 ≤ c.toNat ∧ c.toNat ≤ 122)) : up b c = c := if_neg fun g => h g.2
theorem up_yes {c : UInt8} (h : 97 ≤ c.toNat ∧ c.toNat ≤ 122) : ((up true c).toNat : Int) = (c.toNat : Int) - 32 := by
  unfold up
  rw [if_pos ⟨rfl, h⟩]
  have : (c.toNat - 32).toUInt8.toNat = (c.toNat - 32) % 256 := UInt8.toNat_ofNat'
  rw [this]
  have := c.toNat_lt
  omega
theorem low_up_byte : ∀ n, n < 256 → low (up true n.toUInt8) = low n.toUInt8 := by decide +kernel
theorem low_up (b : Bool) (c : UInt8) : low (up b c) = low c := by
  cases b with
  | false => rw [up_no]
  | true =>
    have h := low_up_byte c.toNat (UInt8.toNat_lt c)
    rwa [show c.toNat.toUInt8 = c from UInt8.ofNat_toNat] at h
/-- Great letters up to a place. -/
def grTo (d : List UInt8) (f : Nat → Bool) (k : Nat) : List UInt8 := (List.range d.length).map fun j => if j < k then up (f j) (d.getD j 0) else d.getD j 0
theorem grTo_len (d : List UInt8) (f : Nat → Bool) (k : Nat) : (grTo d f k).length = d.length := by unfold grTo; simp
theorem grTo_get (d : List UInt8) (f : Nat → Bool) (k j : Nat) (h : j < (grTo d f k).length) (g : j < d.length) : (grTo d f k)[j] = if j < k then up (f j) d[j] else d[j] := by
  simp only [grTo, List.getElem_map, List.getElem_range]
  rw [List.getD_eq_getElem?_getD, List.getElem?_eq_getElem g]
  rfl
theorem grTo_zero (d : List UInt8) (f : Nat → Bool) : grTo d f 0 = d := by
  refine List.ext_getElem (grTo_len d f 0) fun j h g => ?_
  rw [grTo_get d f 0 j h g, if_neg (Nat.not_lt_zero j)]
theorem grTo_at (d : List UInt8) (f : Nat → Bool) (k : Nat) (h : k < (grTo d f k).length) (g : k < d.length) : (grTo d f k)[k] = d[k] := by
  rw [grTo_get d f k k h g, if_neg (Nat.lt_irrefl k)]
theorem grTo_succ (d : List UInt8) (f : Nat → Bool) (k : Nat) (g : k < d.length) : grTo d f (k + 1) = (grTo d f k).set k (up (f k) d[k]) := by
  refine List.ext_getElem (by rw [List.length_set, grTo_len, grTo_len]) fun j h h2 => ?_
  have hj : j < d.length := by rw [grTo_len] at h; exact h
  rw [grTo_get d f (k + 1) j h hj, List.getElem_set]
  by_cases e : k = j
  · subst e
    rw [if_pos (Nat.lt_succ_self k), if_pos rfl]
  · rw [if_neg e, grTo_get d f k j (by rw [grTo_len]; exact hj) hj]
    by_cases q : j < k
    · rw [if_pos q, if_pos (by omega)]
    · rw [if_neg q, if_neg (by omega)]
theorem grTo_same (d : List UInt8) (f : Nat → Bool) (k : Nat) (g : k < d.length) (h : up (f k) d[k] = d[k]) : grTo d f (k + 1) = grTo d f k := by
  rw [grTo_succ d f k g, h, ← grTo_at d f k (by rw [grTo_len]; exact g) g]
  exact List.set_getElem_self _
theorem sml_gr (d : List UInt8) (f : Nat → Bool) (k : Nat) : sml (grTo d f k) = sml d := by
  unfold sml
  refine List.ext_getElem (by rw [List.length_map, List.length_map, grTo_len]) fun j h g => ?_
  rw [List.length_map] at h g
  rw [List.getElem_map, List.getElem_map, grTo_get d f k j h g]
  split
  · exact low_up _ _
  · rfl
theorem domB_gr (d : List UInt8) (f : Nat → Bool) (k : Nat) : domB (grTo d f k) = domB d := by rw [← domB_sml, sml_gr, domB_sml]
end Adr
namespace Go.Proofs.YtocjjfjcepflnaaDoor
open Go.ChangeShapes Go.WideShapes Go.ChangeAt Go.RowKit
variable {w W W1 : World}
/-- A row of bools in memory, none behind it. -/
def Bos (W : World) (A : Option Addr) (n : Nat) (f : Nat → Bool) : Prop := (∀ k, k < n → ∃ b off, A = some ⟨b, off, none⟩ ∧ W.cell? ⟨b, off + k, none⟩ = some (.bool (f k))) ∧ ∀ k, n ≤ k → f k = false
theorem bos_below {A : Option Addr} {n : Nat} {f : Nat → Bool} (h : Bos W A n f) (hb : Below W.heap.size W W1) : Bos W1 A n f := ⟨fun k hk => by
  obtain ⟨b, off, e, g⟩ := h.1 k hk
  exact ⟨b, off, e, by rw [hb.cell (World.block_lt_of_cell? _ _ g)]; exact g⟩, h.2⟩
theorem bools_in {H : Type} {enc : TypeId × Value → H} {W : World} {a : Option Addr} {len cap : Nat} {d : DataW H} {p : List MemPlace}
    (h0 : ∃ fuel, DataW.trod enc Tryd.prog W 0 (fun _ => true) true fuel 55 (Value.slice a len cap).cells.toList = some (d, p)) : ∃ f, Bos W a len f ∧ len ≤ maxLen := by
  obtain ⟨fuel, hf⟩ := h0
  rcases Go.Deep.open_bools Tryd.underlying55 Tryd.underlying4 (by kernel_rfl) hf with ⟨hcs, _⟩ | ⟨x, l, c, B, hcs, _, hl, hm, _, hcell⟩
  · simp [Value.cells] at hcs
    obtain ⟨rfl, rfl, rfl⟩ := hcs
    exact ⟨fun _ => false, ⟨fun k hk => absurd hk (Nat.not_lt_zero _), fun _ _ => rfl⟩, Nat.zero_le _⟩
  · simp [Value.cells] at hcs
    obtain ⟨rfl, rfl, rfl⟩ := hcs
    refine ⟨fun k => decide (k < len) && B k, ⟨fun k hk => ?_, fun k hk => ?_⟩, by omega⟩
    · obtain ⟨b, off, hx, hb⟩ := plain_addr (hcell 0 (by omega))
      have hx2 : x = ⟨b, off, none⟩ := by
        have e : x.add 0 = x := by unfold Addr.add; simp
        rw [← e, hx]
      subst hx2
      have h1 := hcell k (by omega)
      rw [add_off] at h1
      refine ⟨b, off, rfl, ?_⟩
      rw [h1]
      simp [hk]
    · simp only [Bool.and_eq_false_iff, decide_eq_false_iff_not]
      exact .inl (by omega)
theorem rules_in2 {H : Type} {enc : TypeId × Value → H} {W : World} {a : Option Addr} {len cap : Nat} {d : DataW H} {p : List MemPlace} {ts : List TypeId} {ds : List (DataW H)} {j : Nat} (hsz : (DataW.weightsEach Tryd.prog ts ds).all (· ≤ reachBytes) = true) (ht : ts[j]? = some 22) (hd : ds[j]? = some d)
    (h0 : ∃ fuel, DataW.trod enc Tryd.prog W 0 (fun _ => true) true fuel 22 (Value.slice a len cap).cells.toList = some (d, p)) :
    ∃ f : Nat → Ru, Rus W a len f ∧ len ≤ reachBytes ∧ (a = none → len = 0 ∧ cap = 0) := by
  obtain ⟨f, h1, h2⟩ := rules_in hsz ht hd h0
  refine ⟨f, h1, h2, fun e => ?_⟩
  obtain ⟨fuel, hf⟩ := h0
  rcases Go.Deep.open_slice Tryd.underlying22 hf with ⟨hcs, _⟩ | ⟨x, l, c, mm, n, D, Pl, hcs, _⟩
  · simp [Value.cells] at hcs
    exact ⟨hcs.2.1, hcs.2.2⟩
  · simp [Value.cells] at hcs
    rw [e] at hcs
    exact absurd hcs.1 (by simp)
end Go.Proofs.YtocjjfjcepflnaaDoor
