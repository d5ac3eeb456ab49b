/-
  PROVED HERE: plain facts on domains in great letters; rows of bools in memory.
-/
import Derived.Test.YtifheakepegjcaaDoorBackW
set_option linter.unusedVariables false
namespace Adr
/-- A byte in a great letter, where it is asked for and may be. -/
def up (b : Bool) (c : UInt8) : UInt8 := if b = true ∧ 97 ≤ c.toNat ∧ c.toNat ≤ 122 then (c.toNat - 32).toUInt8 else c
theorem up_no (c : UInt8) : up false c = c := by unfold up; simp
theorem up_out {b : Bool} {c : UInt8} (h : ¬ (97 ≤ c.toNat ∧ c.toNat ≤ 122)) : up b c = c := if_neg fun g => h g.2
theorem up_yes {c : UInt8} (h : 97 ≤ c.toNat ∧ c.toNat ≤ 122) : ((up true c).toNat : Int) = (c.toNat : Int) - 32 := by
  unfold up
  rw [if_pos ⟨rfl, h⟩]
  have : (c.toNat - 32).toUInt8.toNat = (c.toNat - 32) % 256 := UInt8.toNat_ofNat'
  rw [this]
  have := c.toNat_lt
  omega
theorem low_up_byte : ∀ n, n < 256 → low (up true n.toUInt8) = low n.toUInt8 := by decide +kernel
theorem low_up (b : Bool) (c : UInt8) : low (up b c) = low c := by
  cases b with
  | false => rw [up_no]
  | true =>
    have h := low_up_byte c.toNat (UInt8.toNat_lt c)
    rwa [show c.toNat.toUInt8 = c from UInt8.ofNat_toNat] at h
/-- Great letters up to a place. -/
def grTo (d : List UInt8) (f : Nat → Bool) (k : Nat) : List UInt8 := (List.range d.length).map fun j => if j < k then up (f j) (d.getD j 0) else d.getD j 0
theorem grTo_len (d : List UInt8) (f : Nat → Bool) (k : Nat) : (grTo d f k).length = d.length := by unfold grTo; simp
theorem grTo_get (d : List UInt8) (f : Nat → Bool) (k j : Nat) (h : j < (grTo d f k).length) (g : j < d.length) : (grTo d f k)[j] = if j < k then up (f j) d[j] else d[j] := by
  simp only [grTo, List.getElem_map, List.getElem_range]
  rw [List.getD_eq_getElem?_getD, List.getElem?_eq_getElem g]
  rfl
theorem grTo_zero (d : List UInt8) (f : Nat → Bool) : grTo d f 0 = d := by
  refine List.ext_getElem (grTo_len d f 0) fun j h g => ?_
  rw [grTo_get d f 0 j h g, if_neg (Nat.not_lt_zero j)]
theorem grTo_at (d : List UInt8) (f : Nat → Bool) (k : Nat) (h : k < (grTo d f k).length) (g : k < d.length) : (grTo d f k)[k] = d[k] := by
  rw [grTo_get d f k k h g, if_neg (Nat.lt_irrefl k)]
theorem grTo_succ (d : List UInt8) (f : Nat → Bool) (k : Nat) (g : k < d.length) : grTo d f (k + 1) = (grTo d f k).set k (up (f k) d[k]) := by
  refine List.ext_getElem (by rw [List.length_set, grTo_len, grTo_len]) fun j h h2 => ?_
  have hj : j < d.length := by rw [grTo_len] at h; exact h
  rw [grTo_get d f (k + 1) j h hj, List.getElem_set]
  by_cases e : k = j
  · subst e
    rw [if_pos (Nat.lt_succ_self k), if_pos rfl]
  · rw [if_neg e, grTo_get d f k j (by rw [grTo_len]; exact hj) hj]
    by_cases q : j < k
    · rw [if_pos q, if_pos (by omega)]
    · rw [if_neg q, if_neg (by omega)]
theorem grTo_same (d : List UInt8) (f : Nat → Bool) (k : Nat) (g : k < d.length) (h : up (f k) d[k] = d[k]) : grTo d f (k + 1) = grTo d f k := by
  rw [grTo_succ d f k g, h, ← grTo_at d f k (by rw [grTo_len]; exact g) g]
  exact List.set_getElem_self _
theorem sml_gr (d : List UInt8) (f : Nat → Bool) (k : Nat) : sml (grTo d f k) = sml d := by
  unfold sml
  refine List.ext_getElem (by rw [List.length_map, List.length_map, grTo_len]) fun j h g => ?_
  rw [List.length_map] at h g
  rw [List.getElem_map, List.getElem_map, grTo_get d f k j h g]
  split
  · exact low_up _ _
  · rfl
theorem domB_gr (d : List UInt8) (f : Nat → Bool) (k : Nat) : domB (grTo d f k) = domB d := by rw [← domB_sml, sml_gr, domB_sml]
end Adr
namespace Go.Proofs.YtifheakepegjcaaDoor
open Go.RowKit
variable {m : Int} {w W W1 : World} {l d L : List UInt8} {B : Nat}
/-- A row of bools in memory, none behind it. -/
def Bos (W : World) (A : Option Addr) (n : Nat) (f : Nat → Bool) : Prop := (∀ k, k < n → ∃ b off, A = some ⟨b, off, none⟩ ∧ W.cell? ⟨b, off + k, none⟩ = some (.bool (f k))) ∧ ∀ k, n ≤ k → f k = false
theorem bos_below {A : Option Addr} {n : Nat} {f : Nat → Bool} (h : Bos W A n f) (hb : Below W.heap.size W W1) : Bos W1 A n f := ⟨fun k hk => by
  obtain ⟨b, off, e, g⟩ := h.1 k hk
  exact ⟨b, off, e, by rw [hb.cell (World.block_lt_of_cell? _ _ g)]; exact g⟩, h.2⟩
/-- The mailbox handed in, and bytes at a block of the call's own. -/
structure Gs (m : Int) (w : World) (l d : List UInt8) (B : Nat) (L : List UInt8) (W : World) : Prop where
  bx : Bx m w w.heap.size l d W
  row : BRow W B L
  gt : w.heap.size < B
  lt : B < W.heap.size
theorem gs_next (h : Gs m w l d B L W) (g : Below W.heap.size W W1) : Gs m w l d B L W1 :=
  ⟨bx_next h.bx g, fun j hj => ⟨by rw [g.cell (p := ⟨B, j, none⟩) h.lt]; exact (h.row j hj).1, by rw [g.frozen (p := ⟨B, j, none⟩) h.lt]; exact (h.row j hj).2⟩, h.gt, Nat.lt_of_lt_of_le h.lt g.size⟩
theorem gs_call {f : FuncId} {args : Array Value} {v : Value} (h : Gs m w l d B L W) (c : Calls Tryd.prog f args W fun e w' => e = .returned v ∧ Below W.heap.size W w') :
    Calls Tryd.prog f args W fun e w' => e = .returned v ∧ Gs m w l d B L w' := c.mono fun _ _ k => ⟨k.1, gs_next h k.2⟩
theorem gs_set (h : Gs m w l d B L W) (i : Nat) (hi : i < L.length) (c : UInt8) (v : Int) (hv : v = (c.toNat : Int)) : Gs m w l d B (L.set i c) (W.setCell ⟨B, i, none⟩ (.int .u8 v)) := by
  have hb : Below B W (W.setCell ⟨B, i, none⟩ (.int .u8 v)) := (Below.refl _ _).setCell (p := ⟨B, i, none⟩) (Nat.le_refl _) _
  have h0 : 0 < B := Nat.lt_of_le_of_lt (Nat.zero_le _) h.gt
  refine ⟨⟨⟨h.bx.at'.below.trans (hb.mono (Nat.le_of_lt h.gt)), by rw [hb.cell (p := ⟨0, 0, none⟩) h0]; exact h.bx.at'.cell⟩, (hb.block _ h.gt).trans h.bx.kp, h.bx.ws, h.bx.pos⟩, brow_set h.row i hi c v hv, h.gt, Nat.lt_of_lt_of_le h.lt hb.size⟩
theorem gs_new (h : Bx m w w.heap.size l d W) (S : ByteArray) : Gs m w l d W.heap.size S.data.toList (W.alloc (.cells (bytesRow S (grownCap W S.size 0 5)) 5 ((bytesRow S (grownCap W S.size 0 5)).size, (bytesRow S (grownCap W S.size 0 5)).size + 1))).drew :=
  ⟨bx_next h ((Below.refl _ _).alloc (Nat.le_refl _) _).drew, brow_new W S, (Array.getElem?_eq_some_iff.1 h.kp).1, by show W.heap.size < (W.heap.push _).size; simp⟩
/-- 'string(b)' of such bytes. -/
theorem back_row (h : BRow W B L) (cap : Nat) : (convert 46 9 (.slice (some ⟨B, 0, none⟩) L.length cap)).run Tryd.prog W = .ok (.string ⟨L.toArray⟩) W :=
  run_convert_bytes_back (P := Tryd.prog) W 46 9 5 ⟨B, 0, none⟩ cap L Tryd.underlying46 Tryd.underlying5 Tryd.underlying9 fun j hj => by
    rw [add_off, Nat.zero_add]
    exact (h j hj).1
end Go.Proofs.YtifheakepegjcaaDoor
