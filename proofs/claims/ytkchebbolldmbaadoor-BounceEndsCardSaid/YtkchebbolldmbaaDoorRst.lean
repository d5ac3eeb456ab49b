/-
  PROVED HERE: what Small of the answer computes. what split of the answer computes. what Domain of the answer computes. what Local and Plain of the answer compute. what May and Write of the answer compute. what Path of the answer computes.
-/
import Derived.Test.YtkchebbolldmbaaDoorWrt
import Derived.Deep.DeepMust
set_option linter.unusedVariables false
namespace Go.Proofs.YtkchebbolldmbaaDoor
open Go.RowKit

theorem cell_one_new (w : World) (v : Value) (t : TypeId) : ∀ j u, ([v] : List Value)[j]? = some u → (w.alloc (.cells #[v] t)).cell? ((⟨w.heap.size, 0, none⟩ : Addr).add j) = some u := by
  intro j u hj
  match j, hj with
  | 0, hj => simp at hj; subst hj; simp [Addr.add]
theorem sml_succ (t : List UInt8) (k : Nat) (h : k < t.length) : Adr.sml (t.take (k + 1)) = Adr.sml (t.take k) ++ [Adr.low t[k]] := by
  unfold Adr.sml
  rw [List.take_add_one, List.getElem?_eq_getElem h, List.map_append]
  rfl
/-- 'string(b)' of bytes that the call owns. -/
theorem back_own {w : World} {base : Nat} {v : Value} {l : List UInt8} {n : Nat} (h : w.ownsRow base 5 1 v n (Lib.byteCells l)) (hn : l.length = n) : (convert 74 9 v).run Tryd.prog w = .ok (.string ⟨l.toArray⟩) w := by
  subst hn
  rcases h.2 with ⟨h1, h0⟩ | ⟨g, c, cur, h1, _⟩
  · have : l = [] := List.length_eq_zero_iff.1 h0
    subst this
    subst h1
    exact run_convert_bytes_string w 74 9 5 none 0 0 Tryd.underlying74 Tryd.underlying5 Tryd.underlying9
  · subst h1
    refine run_convert_bytes_back w 74 9 5 ⟨g, 0, none⟩ c l Tryd.underlying74 Tryd.underlying5 Tryd.underlying9 (fun j hj => ?_)
    rw [add_off, Nat.zero_add, h.cellAt j (by omega)]
    unfold Lib.byteCells
    rw [List.getElem?_map, List.getElem?_eq_getElem hj]
    rfl

end Go.Proofs.YtkchebbolldmbaaDoor
set_option linter.unusedVariables false
namespace Go.Proofs.YtkchebbolldmbaaDoor
open Go.RowKit

theorem info9 : (Tryd.prog.info? 9).map (fun i => (i.zero, i.size, i.bytes)) = some (some (.string ⟨#[]⟩), 1, 16) := by kernel_rfl
/-- A row that the call itself has made, seen as a row of texts. -/
theorem own_txs {w : World} {base : Nat} {v : Value} {l : List (List UInt8)} {n : Nat} (h : w.ownsRow base 9 1 v n (l.map sV)) (hn : l.length = n) : ∃ A c, v = .slice A l.length c ∧ Txs w A l := by
  subst hn
  rcases h.2 with ⟨h1, h0⟩ | ⟨g, c, cur, h1, _⟩
  · exact ⟨none, 0, by rw [h1, h0], by rw [List.length_eq_zero_iff.1 h0]; exact txs_nil _ _⟩
  · subst h1
    refine ⟨_, _, rfl, fun k hk => ⟨g, 0, rfl, ?_⟩⟩
    rw [Nat.zero_add, h.cellAt k (by omega), List.getElem?_map, List.getElem?_eq_getElem hk, at_get l k hk]
    rfl

end Go.Proofs.YtkchebbolldmbaaDoor
set_option linter.unusedVariables false
namespace Adr
theorem lab_empty {t : List UInt8} (h : t.length < 1) : label t = false := by
  have : t = [] := List.length_eq_zero_iff.1 (by omega)
  subst this
  rfl
theorem lab_long {t : List UInt8} (h : 63 < t.length) : label t = false := by unfold label; rw [decide_eq_false (by omega), Bool.false_and]
theorem lab_head {t : List UInt8} (h : (t.headD 0 == 45) = true) : label t = false := by
  unfold label bne
  rw [h]
  simp
theorem lab_last {t : List UInt8} (h : (t.getLastD 0 == 45) = true) : label t = false := by
  unfold label bne
  rw [h]
  simp
theorem lab_bad {t : List UInt8} (j : Nat) (hj : j < t.length) (h : labB t[j] = false) : label t = false := by
  unfold label
  rw [all_stop labB t j hj h]
  simp
theorem lab_good {t : List UInt8} (h0 : 0 < t.length) (h1 : t.length ≤ 63) (h2 : (t.headD 0 == 45) = false) (h3 : (t.getLastD 0 == 45) = false) (h4 : t.all labB = true) : label t = true := by
  unfold label bne allB
  rw [h2, h3, h4, decide_eq_true h1]
  cases t with
  | nil => cases h0
  | cons c r => rfl
theorem dots_bad {p : List UInt8 → Bool} {l : List (List UInt8)} (k : Nat) (hk : k < l.length) (h : p l[k] = false) : l.all p = false := by
  rw [List.all_eq_false]
  exact ⟨l[k], List.getElem_mem hk, by rw [h]; exact Bool.false_ne_true⟩
theorem dots_more {p : List UInt8 → Bool} {l : List (List UInt8)} (k : Nat) (hk : k < l.length) (h0 : (l.take k).all p = true) (h : p l[k] = true) : (l.take (k + 1)).all p = true := by
  rw [List.take_add_one, List.getElem?_eq_getElem hk, List.all_append, h0, Bool.true_and]
  simp [h]
end Adr
namespace Go.Proofs.YtkchebbolldmbaaDoor
open Go.RowKit

end Go.Proofs.YtkchebbolldmbaaDoor
set_option linter.unusedVariables false
namespace Adr
theorem loc_bad {t : List UInt8} (j : Nat) (hj : j < t.length) (h : shownB t[j] = false) : localB t = false := by
  unfold localB
  rw [all_stop shownB t j hj h, Bool.and_false]
theorem loc_empty {t : List UInt8} (h : ¬ 1 ≤ t.length) : localB t = false := by
  have : t = [] := List.length_eq_zero_iff.1 (by omega)
  subst this
  rfl
theorem loc_long {t : List UInt8} (h : ¬ t.length ≤ 64) : localB t = false := by unfold localB; rw [decide_eq_false h, Bool.false_and]
theorem loc_good {t : List UInt8} (h0 : 1 ≤ t.length) (h1 : t.length ≤ 64) (h2 : t.all shownB = true) : localB t = true := by
  unfold localB
  rw [decide_eq_true h1, all_end _ _ h2]
  cases t with
  | nil => exact absurd h0 (by decide)
  | cons c r => rfl
theorem shown_lo {c : UInt8} (h : c.toNat < 32) : shownB c = false := by unfold shownB; rw [decide_eq_false (by omega), Bool.false_and]
theorem shown_hi {c : UInt8} (h : 126 < c.toNat) : shownB c = false := by unfold shownB; rw [decide_eq_false (p := c.toNat ≤ 126) (by omega), Bool.and_false]
theorem shown_ok {c : UInt8} (h : ¬ c.toNat < 32) (g : ¬ 126 < c.toNat) : shownB c = true := by unfold shownB; rw [decide_eq_true (by omega), decide_eq_true (by omega)]; rfl
end Adr
namespace Go.Proofs.YtkchebbolldmbaaDoor
open Go.RowKit

theorem plain_bad {t : List UInt8} (h : (Adr.dots t).all (Adr.allB Adr.atomB) = false) : Adr.plainB t = false := by unfold Adr.plainB; rw [h, Bool.and_false]
theorem plain_loc {t : List UInt8} (h : (Adr.dots t).all (Adr.allB Adr.atomB) = true) : Adr.plainB t = Adr.localB t := by unfold Adr.plainB; rw [h, Bool.and_true]
theorem allB_empty {p : UInt8 → Bool} {t : List UInt8} (h : t.length = 0) : Adr.allB p t = false := by
  have : t = [] := List.length_eq_zero_iff.1 h
  subst this
  rfl
theorem allB_good {p : UInt8 → Bool} {t : List UInt8} (h0 : t.length ≠ 0) (h : t.all p = true) : Adr.allB p t = true := by
  rw [Adr.all_end p t h]
  cases t with
  | nil => exact absurd rfl h0
  | cons c r => rfl

end Go.Proofs.YtkchebbolldmbaaDoor
set_option linter.unusedVariables false
namespace Go.Proofs.YtkchebbolldmbaaDoor
open Go.RowKit

theorem one_at (L : ByteArray) (k : Nat) (h : k < L.size) (h2 : k < L.data.toList.length) : L.extract k (k + 1) = ⟨#[L.data.toList[k]]⟩ := by
  have h3 := Lib.extract_data L k (k + 1)
  rw [show k + 1 - k = 1 from by omega, List.drop_eq_getElem_cons h2] at h3
  rw [← Lib.mk_data (L.extract k (k + 1)), h3]
  rfl
theorem one_beq (c d : UInt8) : ((⟨#[c]⟩ : ByteArray).toList == [d]) = (c == d) := by
  rw [ByteArray.toList_eq]
  show ([c] == [d]) = _
  simp
end Go.Proofs.YtkchebbolldmbaaDoor
set_option linter.unusedVariables false
namespace Go.Proofs.YtkchebbolldmbaaDoor
open Go.RowKit

end Go.Proofs.YtkchebbolldmbaaDoor
