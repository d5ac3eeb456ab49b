/-
  PROVED HERE: rows of texts in memory; what parts computes, at the two functions that it is handed: label, and that of Plain.
-/
import Derived.Test.YtkchebbolldmbaaGreatDoorLab
import Derived.Test.YtkchebbolldmbaaGreatDoorDots
import Derived.Below
import Derived.WalkSmall
set_option linter.unusedVariables false
namespace Go.Proofs.YtkchebbolldmbaaGreatDoor
open Go.RowKit

/-- How a text is laid. -/
def sV (t : List UInt8) : Value := .string ⟨t.toArray⟩
theorem sV_of (s : ByteArray) : sV s.data.toList = .string s := by unfold sV; rw [Lib.mk_data]
theorem size_mk (x : List UInt8) : (⟨x.toArray⟩ : ByteArray).size = x.length := by rw [Lib.size_eq]
/-- The k-th text. -/
def at' (l : List (List UInt8)) (k : Nat) : List UInt8 := l.getD k []
theorem at_get (l : List (List UInt8)) (k : Nat) (h : k < l.length) : at' l k = l[k] := by
  unfold at'
  rw [List.getD_eq_getElem?_getD, List.getElem?_eq_getElem h]
  rfl
/-- A row of texts in memory. -/
def Txs (w : World) (A : Option Addr) (l : List (List UInt8)) : Prop := ∀ k, k < l.length → ∃ b off, A = some ⟨b, off, none⟩ ∧ w.cell? ⟨b, off + k, none⟩ = some (.string ⟨(at' l k).toArray⟩)
theorem txs_nil (w : World) (A : Option Addr) : Txs w A [] := fun k hk => absurd hk (Nat.not_lt_zero k)
theorem txs_below {w w' : World} {A : Option Addr} {l : List (List UInt8)} (h : Txs w A l) (hb : Below w.heap.size w w') : Txs w' A l := fun k hk => by
  obtain ⟨b, off, e, f⟩ := h k hk
  exact ⟨b, off, e, by rw [hb.cell (World.block_lt_of_cell? _ _ f)]; exact f⟩
theorem below_drewN {B : Nat} {w w1 : World} (h : Below B w w1) (q : Nat) : Below B w (w1.drewN q) := ⟨h.os, h.tape, h.output, h.size, h.block⟩
theorem splitB_dots (s : ByteArray) : (Lib.splitB ⟨#[46]⟩ 0 (Lib.countB s ⟨#[46]⟩) s).map Value.string = (Adr.dots s.data.toList).map sV := by
  have h := Lib.splitB_data ⟨#[46]⟩ 0 (Lib.countB s ⟨#[46]⟩) s
  have e : Lib.splitK (⟨#[46]⟩ : ByteArray).data.toList 0 (Lib.countB s ⟨#[46]⟩) s.data.toList = Adr.dots s.data.toList := Adr.split_dots s.data.toList
  rw [← e, ← h, List.map_map]
  exact List.map_congr_left fun x _ => (sV_of x).symm
theorem countB_dots (s : ByteArray) : Lib.countB s ⟨#[46]⟩ + 1 = (Adr.dots s.data.toList).length := Adr.count_dots _ _ (by omega)
/-- strings.Split by a dot. -/
theorem split_dot (s : ByteArray) (m : Int) (w : World) (hs : s.size < 4294967281) (hm : w.cell? ⟨3, 0, none⟩ = some (.int .i64 m)) :
    Calls Tryz.prog 82 #[.string s, .string ⟨#[46]⟩] w fun e w' => (∃ A c, e = .returned (.slice A (Adr.dots s.data.toList).length c) ∧ Txs w' A (Adr.dots s.data.toList)) ∧ Below w.heap.size w w' := by
  refine (Tryz.strings_Split s ⟨#[46]⟩ m w hs hm (by decide)).mono ?_
  rintro e w' ⟨e1, rfl⟩
  rw [countB_dots] at e1
  refine ⟨⟨_, _, e1, fun k hk => ⟨_, 0, rfl, ?_⟩⟩, (Below.refl _ _).alloc (Nat.le_refl _) _⟩
  rw [splitB_dots, World.cell?_alloc_new, Nat.zero_add, List.getElem?_toArray, List.getElem?_map, List.getElem?_eq_getElem hk, at_get _ _ hk]
  rfl

set_option maxRecDepth 100000 in
theorem plain1_any (S : ByteArray) (w : World) (hs : S.size < 4611686018427387904) : Calls Tryz.prog 86 #[.string S] w fun e w' => e = .returned (.bool (Adr.allB Adr.atomB S.data.toList)) ∧ w = w' := by
  have HA := Lib.hid (fun W : World => all_44 S W hs)
  generalize Adr.allB Adr.atomB S.data.toList = r at *
  go_enter Tryz.func86, Tryz.ntmps86
  go_wp2_with (go_at_call 74; refine (HA.out _).mono ?_; rintro e w' ⟨rfl, rfl⟩)
  go_ret
  exact ⟨rfl, rfl⟩

set_option maxRecDepth 100000 in
set_option maxHeartbeats 2000000 in
theorem parts_36 (S : ByteArray) (m : Int) (w : World) (hs : S.size < 4294967281) (hm : w.cell? ⟨3, 0, none⟩ = some (.int .i64 m)) : Calls Tryz.prog 71 #[.string S, .func (.func 72) #[] #[]] w fun e w' => e = .returned (.bool ((Adr.dots S.data.toList).all Adr.label)) ∧ Below w.heap.size w w' := by
  have HSP := Lib.hid (split_dot S m w hs hm)
  have HLN : Hid ((Adr.dots S.data.toList).length < 4294967290) := by
    have h1 := Adr.dots_len S.data.toList
    have h2 := Lib.size_eq S
    show _ < _
    omega
  have HBL : Hid (∀ x ∈ Adr.dots S.data.toList, x.length < 4294967281) := fun x hx => by
    have h1 := Adr.dots_mem_len S.data.toList x hx
    have h2 := Lib.size_eq S
    omega
  clear hm
  generalize Adr.dots S.data.toList = l at *
  obtain ⟨n, hn⟩ : ∃ n, n = l.length := ⟨_, rfl⟩
  have hnb : n < 4294967290 := by rw [hn]; exact HLN.out
  rw [← hn] at HSP
  have HN := Lib.hid hn
  clear hn
  go_enter Tryz.func71, Tryz.ntmps71
  go_wp2_with (go_at_call 82; refine HSP.out.mono ?_; rintro e w1 ⟨⟨A, c, rfl, hT⟩, hB⟩; have HT := Lib.hid hT; have HB := Lib.hid hB; clear hT hB)
  go_loop [10] (fun u => ∃ k : Nat, u = .int .i64 k ∧ k ≤ n ∧ Hid ((l.take k).all Adr.label = true)) (fun u => n - (intOf u).toNat)
  case atStart => exact ⟨0, rfl, by omega, rfl⟩
  case round =>
    obtain ⟨k, rfl, hk, HK⟩ := hrel
    by_cases hlt : k < n
    · have hltz : (k : Int) < (n : Int) := by omega
      have hkl : k < l.length := by rw [← HN.out]; exact hlt
      obtain ⟨b1, o1, rfl, f1⟩ := HT.out k hkl
      have HC := Lib.hid (fun W : World => label_any ⟨(at' l k).toArray⟩ W (by rw [size_mk, at_get l k hkl]; exact Nat.lt_trans (HBL.out _ (List.getElem_mem hkl)) (by omega)))
      rw [show (⟨(at' l k).toArray⟩ : ByteArray).data.toList = at' l k from rfl] at HC
      have hgk := at_get l k hkl
      cases hp : Adr.label (at' l k) with
      | true =>
        rw [hp] at HC
        have HR : Hid ((l.take (k + 1)).all Adr.label = true) := by
          show _ = _
          rw [List.take_add_one, List.getElem?_eq_getElem hkl, List.all_append, HK.out, Bool.true_and, ← hgk]
          simp [hp]
        clear hp hgk
        generalize at' l k = X at *
        go_wp2_with (go_at_call 72; refine (HC.out _).mono ?_; rintro e w' ⟨rfl, rfl⟩)
        go_round
        case rel => exact ⟨k + 1, by go_num, by omega, HR⟩
        case measure => simp [intOf]; omega
      | false =>
        rw [hp] at HC
        have HR : Hid (l.all Adr.label = false) := by
          show _ = _
          rw [List.all_eq_false]
          exact ⟨l[k], List.getElem_mem hkl, by rw [← hgk, hp]; exact Bool.false_ne_true⟩
        clear hp hgk
        generalize at' l k = X at *
        go_wp2_with (go_at_call 72; refine (HC.out _).mono ?_; rintro e w' ⟨rfl, rfl⟩)
        go_ret
        exact ⟨by rw [HR.out]; rfl, HB.out⟩
    · have hltz : ¬ (k : Int) < (n : Int) := by omega
      obtain rfl : k = n := by omega
      have HR : Hid (l.all Adr.label = true) := by have := HK.out; rw [HN.out, List.take_length] at this; exact this
      clear HK
      go_wp2
      go_ret
      exact ⟨by rw [HR.out]; rfl, HB.out⟩

set_option maxRecDepth 100000 in
set_option maxHeartbeats 2000000 in
theorem parts_43 (S : ByteArray) (m : Int) (w : World) (hs : S.size < 4294967281) (hm : w.cell? ⟨3, 0, none⟩ = some (.int .i64 m)) : Calls Tryz.prog 71 #[.string S, .func (.func 86) #[] #[]] w fun e w' => e = .returned (.bool ((Adr.dots S.data.toList).all (Adr.allB Adr.atomB))) ∧ Below w.heap.size w w' := by
  have HSP := Lib.hid (split_dot S m w hs hm)
  have HLN : Hid ((Adr.dots S.data.toList).length < 4294967290) := by
    have h1 := Adr.dots_len S.data.toList
    have h2 := Lib.size_eq S
    show _ < _
    omega
  have HBL : Hid (∀ x ∈ Adr.dots S.data.toList, x.length < 4294967281) := fun x hx => by
    have h1 := Adr.dots_mem_len S.data.toList x hx
    have h2 := Lib.size_eq S
    omega
  clear hm
  generalize Adr.dots S.data.toList = l at *
  obtain ⟨n, hn⟩ : ∃ n, n = l.length := ⟨_, rfl⟩
  have hnb : n < 4294967290 := by rw [hn]; exact HLN.out
  rw [← hn] at HSP
  have HN := Lib.hid hn
  clear hn
  go_enter Tryz.func71, Tryz.ntmps71
  go_wp2_with (go_at_call 82; refine HSP.out.mono ?_; rintro e w1 ⟨⟨A, c, rfl, hT⟩, hB⟩; have HT := Lib.hid hT; have HB := Lib.hid hB; clear hT hB)
  go_loop [10] (fun u => ∃ k : Nat, u = .int .i64 k ∧ k ≤ n ∧ Hid ((l.take k).all (Adr.allB Adr.atomB) = true)) (fun u => n - (intOf u).toNat)
  case atStart => exact ⟨0, rfl, by omega, rfl⟩
  case round =>
    obtain ⟨k, rfl, hk, HK⟩ := hrel
    by_cases hlt : k < n
    · have hltz : (k : Int) < (n : Int) := by omega
      have hkl : k < l.length := by rw [← HN.out]; exact hlt
      obtain ⟨b1, o1, rfl, f1⟩ := HT.out k hkl
      have HC := Lib.hid (fun W : World => plain1_any ⟨(at' l k).toArray⟩ W (by rw [size_mk, at_get l k hkl]; exact Nat.lt_trans (HBL.out _ (List.getElem_mem hkl)) (by omega)))
      rw [show (⟨(at' l k).toArray⟩ : ByteArray).data.toList = at' l k from rfl] at HC
      have hgk := at_get l k hkl
      cases hp : (Adr.allB Adr.atomB) (at' l k) with
      | true =>
        rw [hp] at HC
        have HR : Hid ((l.take (k + 1)).all (Adr.allB Adr.atomB) = true) := by
          show _ = _
          rw [List.take_add_one, List.getElem?_eq_getElem hkl, List.all_append, HK.out, Bool.true_and, ← hgk]
          simp [hp]
        clear hp hgk
        generalize at' l k = X at *
        go_wp2_with (go_at_call 86; refine (HC.out _).mono ?_; rintro e w' ⟨rfl, rfl⟩)
        go_round
        case rel => exact ⟨k + 1, by go_num, by omega, HR⟩
        case measure => simp [intOf]; omega
      | false =>
        rw [hp] at HC
        have HR : Hid (l.all (Adr.allB Adr.atomB) = false) := by
          show _ = _
          rw [List.all_eq_false]
          exact ⟨l[k], List.getElem_mem hkl, by rw [← hgk, hp]; exact Bool.false_ne_true⟩
        clear hp hgk
        generalize at' l k = X at *
        go_wp2_with (go_at_call 86; refine (HC.out _).mono ?_; rintro e w' ⟨rfl, rfl⟩)
        go_ret
        exact ⟨by rw [HR.out]; rfl, HB.out⟩
    · have hltz : ¬ (k : Int) < (n : Int) := by omega
      obtain rfl : k = n := by omega
      have HR : Hid (l.all (Adr.allB Adr.atomB) = true) := by have := HK.out; rw [HN.out, List.take_length] at this; exact this
      clear HK
      go_wp2
      go_ret
      exact ⟨by rw [HR.out]; rfl, HB.out⟩
end Go.Proofs.YtkchebbolldmbaaGreatDoor
