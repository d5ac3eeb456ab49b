/-
  PROVED HERE: one rule more of another domain changes no domain's rule.
-/
import Derived.Test.YtocjjfjcepflnaaDoorGr
import Derived.Test.YtocjjfjcepflnaaDoorFits
import Derived.Test.YtocjjfjcepflnaaDoorOwn
set_option linter.unusedVariables false
namespace Go.Proofs.YtocjjfjcepflnaaDoor
open Go.RowKit
abbrev zz : List UInt8 := [48, 46, 48, 46, 48]
def moreF (f : Nat → Ru) (n : Nat) (i : Nat) : Ru := if i = n then ⟨zz, 3, 0⟩ else f i
theorem more_lt {f : Nat → Ru} {n i : Nat} (h : i < n) : moreF f n i = f i := if_neg (by omega)
theorem more_at (f : Nat → Ru) (n : Nat) : moreF f n n = ⟨zz, 3, 0⟩ := if_pos rfl
theorem more_ok {f : Nat → Ru} {n : Nat} (h : MayOk (moreF f n) (n + 1)) : MayOk f n :=
  ⟨by have := h.1; omega, fun i hi => by rw [← more_lt (f := f) (n := n) hi]; exact h.2.1 i (by omega), fun i j hij hj => by rw [← more_lt (f := f) (n := n) (i := i) (by omega), ← more_lt (f := f) (n := n) hj]; exact h.2.2 i j hij (by omega)⟩
theorem more_fnd {f : Nat → Ru} {n : Nat} (h : MayOk (moreF f n) (n + 1)) {s : List UInt8} (hs : s ≠ zz) : fndI (moreF f n) s (n + 1) = fndI f s n := by
  rcases fndI_cases f s n with ⟨e, g⟩ | ⟨k, e, hk, hd⟩
  · rw [e]
    refine fnd_no (fun j hj => ?_)
    by_cases q : j = n
    · subst q
      rw [more_at]
      exact fun e2 => hs e2.symm
    · rw [more_lt (by omega)]
      exact g j (by omega)
  · rw [e]
    exact tab_fnd h.2.2 (by omega) (by rw [more_lt hk]; exact hd)
theorem more_look {f : Nat → Ru} {n : Nat} (h : MayOk (moreF f n) (n + 1)) : ∀ (l : List (List UInt8)), zz ∉ l → lookE (moreF f n) (n + 1) l = lookE f n l
  | [], _ => rfl
  | s :: l, hl => by
    have h1 : s ≠ zz := fun e => hl (by rw [e]; exact List.mem_cons_self)
    unfold lookE
    rw [more_fnd h h1, more_look h l (fun e => hl (List.mem_cons_of_mem _ e))]
theorem more_rtI {f : Nat → Ru} {n : Nat} (h : MayOk (moreF f n) (n + 1)) {D : List UInt8} (hD : zz ∉ D :: Pln.aft D) : rtI (moreF f n) (n + 1) D = rtI f n D := by
  unfold rtI
  rw [more_look h _ hD, more_fnd h (s := [42]) (by decide)]
theorem more_rt {f : Nat → Ru} {n : Nat} (h : MayOk (moreF f n) (n + 1)) {T : List UInt8} (hT : zz ∉ Adr.sml T :: Pln.aft (Adr.sml T)) : rtB (moreF f n) (n + 1) T = rtB f n T ∧ rtR (moreF f n) (n + 1) T = rtR f n T := by
  have e : rtO (moreF f n) (n + 1) T = rtO f n T := by
    unfold rtO
    rw [more_rtI h hT, mayL_yes h, mayL_yes (more_ok h)]
  refine ⟨by unfold rtB; rw [e], ?_⟩
  unfold rtR
  rw [e]
  by_cases g : 0 ≤ rtO f n T
  · rw [if_pos g, if_pos g]
    refine more_lt ?_
    unfold rtO at g ⊢
    split
    · rename_i q
      rw [if_pos q] at g
      rcases rtI_cases f n (Adr.sml T) with e2 | ⟨k, e2, hk⟩
      · rw [e2] at g; omega
      · rw [e2]; exact hk
    · rename_i q
      rw [if_neg q] at g
      omega
  · rw [if_neg g, if_neg g]
theorem low_back {c d : UInt8} (h : Adr.low c = d) (hd : d = 48 ∨ d = 46) : c = d := by
  rcases hd with rfl | rfl
  · have := Adr.low_zero c
    rw [h] at this
    exact eq_of_beq (this ▸ rfl)
  · have := (Adr.low_facts c).2.1
    rw [h] at this
    exact eq_of_beq (this ▸ rfl)
theorem list5 {α : Type} {l : List α} (h : l.length = 5) : ∃ a b c d e, l = [a, b, c, d, e] := by
  match l, h with
  | [a, b, c, d, e], _ => exact ⟨a, b, c, d, e, rfl⟩
theorem sml_zz {t : List UInt8} (h : Adr.sml t = zz) : t = zz := by
  unfold Adr.sml at h
  have hl : t.length = 5 := by have := congrArg List.length h; simpa using this
  obtain ⟨a, b, c, d, e, rfl⟩ := list5 hl
  · simp only [List.map_cons, List.map_nil, List.cons.injEq, and_true] at h
    obtain ⟨h0, h1, h2, h3, h4⟩ := h
    rw [low_back h0 (.inl rfl), low_back h1 (.inr rfl), low_back h2 (.inl rfl), low_back h3 (.inr rfl), low_back h4 (.inl rfl)]
theorem zz_end {T : List UInt8} (h : zz ∈ Adr.sml T :: Pln.aft (Adr.sml T)) : 5 ≤ T.length ∧ T.drop (T.length - 5) = zz := by
  have hl : (Adr.sml T).length = T.length := by unfold Adr.sml; rw [List.length_map]
  have key : ∀ q, (Adr.sml T).drop q = Adr.sml (T.drop q) := fun q => by unfold Adr.sml; rw [List.map_drop]
  rcases List.mem_cons.1 h with e | e
  · have e2 := sml_zz e.symm
    rw [e2]
    decide
  · have hb := (Pln.aft_end _ _).2 e
    unfold Pln.endB at hb
    simp only [Bool.and_eq_true, decide_eq_true_eq, beq_iff_eq] at hb
    obtain ⟨h1, h2⟩ := hb
    rw [hl] at h1 h2
    have h1' : 5 < T.length := h1
    have h3 : (Adr.sml T).drop (T.length - 5) = zz := by
      have e5 : T.length - 5 = (T.length - zz.length - 1) + 1 := by show _ = T.length - 5 - 1 + 1; omega
      rw [e5, ← List.drop_drop, h2]
      rfl
    rw [key] at h3
    exact ⟨by omega, sml_zz h3⟩
/-- A row of rules, cell by cell. -/
theorem rus_cells {W : World} {a : Addr} {n : Nat} {f : Nat → Ru} (h : Rus W (some a) n f) : ∀ j u, (((List.range n).map f).flatMap ruL)[j]? = some u → W.cell? (a.add j) = some u := by
  intro j u hj
  have hlen := flat_length ruL 3 ruL_len ((List.range n).map f)
  rw [List.length_map, List.length_range] at hlen
  have hjl : j < n * 3 := by rw [← hlen]; exact (List.getElem?_eq_some_iff.1 hj).1
  have hk : j / 3 < n := by omega
  have e : j = (j / 3) * 3 + j % 3 := by omega
  obtain ⟨b, off, ea, ⟨c0, c1⟩, c2⟩ := h (j / 3) hk
  cases ea
  rw [e, flat_at ruL 3 ruL_len _ _ (by simpa using hk) _ (Nat.mod_lt _ (by decide))] at hj
  simp only [List.getElem_map, List.getElem_range] at hj
  rw [add_off]
  have h3 : j % 3 = 0 ∨ j % 3 = 1 ∨ j % 3 = 2 := by omega
  rcases h3 with q | q | q
  · rw [q] at hj
    have ee : off + j = off + j / 3 * 3 := by omega
    rw [ee, c0]; exact hj
  · rw [q] at hj
    have ee : off + j = off + j / 3 * 3 + 1 := by omega
    rw [ee, c1]; exact hj
  · rw [q] at hj
    have ee : off + j = off + j / 3 * 3 + 2 := by omega
    rw [ee, c2]; exact hj
theorem more_flat (f : Nat → Ru) (n : Nat) : ((List.range n).map f).flatMap ruL ++ ruL ⟨zz, 3, 0⟩ = ((List.range (n + 1)).map (moreF f n)).flatMap ruL := by
  rw [List.range_succ, List.map_append, List.flatMap_append, List.map_congr_left (g := f) (fun i hi => more_lt (List.mem_range.1 hi))]
  simp [more_at]
end Go.Proofs.YtocjjfjcepflnaaDoor
