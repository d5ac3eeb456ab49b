/-
  PROVED HERE: plain facts on the ends of a domain, parted at a dot, and on the rule that one has.
-/
import Derived.Test.YtocjjfjcepflnaaDoorMyL
set_option linter.unusedVariables false
namespace Pln
/-- What stands behind each dot. -/
def aft : List UInt8 → List (List UInt8)
  | [] => []
  | c :: r => if c = 46 then r :: aft r else aft r
def cutA (t : List UInt8) : List UInt8 := (Go.Lib.cut t [46]).2.1
def cutB (t : List UInt8) : Bool := (Go.Lib.cut t [46]).2.2
theorem cut_ix (t : List UInt8) : (Go.Lib.index t [46] = -1 ∧ aft t = []) ∨ (∃ i : Nat, Go.Lib.index t [46] = i ∧ i < t.length ∧ aft t = t.drop (i + 1) :: aft (t.drop (i + 1))) := by
  induction t with
  | nil => exact .inl ⟨rfl, rfl⟩
  | cons b r ih =>
    by_cases hb : b = 46
    · subst hb
      exact .inr ⟨0, by simp [Go.Lib.index, List.isPrefixOf], by simp, by simp [aft]⟩
    · have hp : ([46] : List UInt8).isPrefixOf (b :: r) = false := by simp [List.isPrefixOf, Ne.symm hb]
      have ha : aft (b :: r) = aft r := by rw [aft, if_neg hb]
      rcases ih with ⟨h1, h2⟩ | ⟨i, h1, h2, h3⟩
      · refine .inl ⟨?_, ha.trans h2⟩
        rw [Go.Lib.index, hp, h1]
        rfl
      · refine .inr ⟨i + 1, ?_, by simp; omega, ?_⟩
        · rw [Go.Lib.index, hp, h1]
          have : ((i : Int) == -1) = false := by rw [beq_eq_false_iff_ne]; omega
          simp [this]
        · rw [ha, h3]
          rfl
theorem cut_aft (t : List UInt8) : (cutB t = true ∧ aft t = cutA t :: aft (cutA t) ∧ (cutA t).length < t.length) ∨ (cutB t = false ∧ aft t = [] ∧ cutA t = []) := by
  rcases cut_ix t with ⟨h1, h2⟩ | ⟨i, h1, h2, h3⟩
  · right
    unfold cutB cutA Go.Lib.cut
    rw [if_neg (by rw [h1]; decide)]
    exact ⟨rfl, h2, rfl⟩
  · left
    have e : cutA t = t.drop (i + 1) := by
      unfold cutA Go.Lib.cut
      rw [if_pos (by rw [h1]; omega), h1]
      simp
    rw [e]
    refine ⟨?_, h3, ?_⟩
    · unfold cutB Go.Lib.cut
      rw [if_pos (by rw [h1]; omega)]
    · rw [List.length_drop]; omega
/-- Behind a place: what is still to be looked at. -/
theorem aft_drop (t : List UInt8) (i : Nat) (h : i < t.length) : aft (t.drop i) = if t[i] = 46 then t.drop (i + 1) :: aft (t.drop (i + 1)) else aft (t.drop (i + 1)) := by
  rw [List.drop_eq_getElem_cons h]
  rfl
end Pln
namespace Go.Proofs.YtocjjfjcepflnaaDoor
open Go.RowKit Go.Maps Go.ChangeMaps
/-- The first of the ends that has a rule. -/
def lookE (f : Nat → Ru) (n : Nat) : List (List UInt8) → Int
  | [] => -1
  | s :: l => if 0 ≤ fndI f s n then fndI f s n else lookE f n l
theorem fndI_cases (f : Nat → Ru) (t : List UInt8) (n : Nat) : (fndI f t n = -1 ∧ ∀ j, j < n → (f j).dm ≠ t) ∨ (∃ k : Nat, fndI f t n = k ∧ k < n ∧ (f k).dm = t) := by
  unfold fndI
  cases h : (List.range n).find? (fun i => (f i).dm == t) with
  | none =>
    rw [List.find?_eq_none] at h
    exact .inl ⟨rfl, fun j hj => by simpa using h j (List.mem_range.2 hj)⟩
  | some k =>
    have h1 := List.find?_some h
    have h2 := List.mem_of_find?_eq_some h
    exact .inr ⟨k, rfl, List.mem_range.1 h2, by simpa using h1⟩
theorem lookE_cases (f : Nat → Ru) (n : Nat) : ∀ l, lookE f n l = -1 ∨ ∃ k : Nat, lookE f n l = k ∧ k < n
  | [] => .inl rfl
  | s :: l => by
    unfold lookE
    rcases fndI_cases f s n with ⟨h, _⟩ | ⟨k, h, hk, _⟩
    · rw [h, if_neg (by decide)]
      exact lookE_cases f n l
    · rw [h, if_pos (by omega)]
      exact .inr ⟨k, rfl, hk⟩
/-- The rule that a domain in small letters has. -/
def rtI (f : Nat → Ru) (n : Nat) (d : List UInt8) : Int := if 0 ≤ lookE f n (d :: Pln.aft d) then lookE f n (d :: Pln.aft d) else fndI f [42] n
theorem rtI_cases (f : Nat → Ru) (n : Nat) (d : List UInt8) : rtI f n d = -1 ∨ ∃ k : Nat, rtI f n d = k ∧ k < n := by
  unfold rtI
  rcases lookE_cases f n (d :: Pln.aft d) with h | ⟨k, h, hk⟩
  · rw [h, if_neg (by decide)]
    rcases fndI_cases f [42] n with ⟨g, _⟩ | ⟨k, g, hk, _⟩
    · exact .inl g
    · exact .inr ⟨k, g, hk⟩
  · rw [h, if_pos (by omega)]
    exact .inr ⟨k, rfl, hk⟩
def ruZ : Ru := ⟨[], 0, 0⟩
/-- Is there one at all? -/
noncomputable def rtO (f : Nat → Ru) (n : Nat) (t : List UInt8) : Int := if Adr.domB t = true ∧ mayL f n = true then rtI f n (Adr.sml t) else -1
noncomputable def rtB (f : Nat → Ru) (n : Nat) (t : List UInt8) : Bool := decide (0 ≤ rtO f n t)
noncomputable def rtR (f : Nat → Ru) (n : Nat) (t : List UInt8) : Ru := if 0 ≤ rtO f n t then f (rtO f n t).toNat else ruZ
theorem rt_no {f : Nat → Ru} {n : Nat} {t : List UInt8} (h : rtO f n t = -1) : rtB f n t = false ∧ rtR f n t = ruZ := by
  unfold rtB rtR
  rw [h]
  exact ⟨rfl, rfl⟩
theorem rt_yes {f : Nat → Ru} {n k : Nat} {t : List UInt8} (h : rtO f n t = k) : rtB f n t = true ∧ rtR f n t = f k := by
  unfold rtB rtR
  rw [h, if_pos (by omega)]
  exact ⟨decide_eq_true (by omega), rfl⟩
theorem zero26 (w : World) : (zeroValue 26).run Tryd.prog w = .ok (.agg (ruA ruZ)) w := by kernel_rfl
/-- What a look-up in a table gives. -/
theorem look_yes {f : Nat → Ru} {n b k : Nat} {t : List UInt8} {W : World} (h : W.ownsMap Tryd.prog 9 ruR b n (tab f n)) (hd : Dst f n) (hk : k < n) (ht : (f k).dm = t) (hl : t.length ≤ 4294967296) :
    (Instr.lookup 67 (.map (some b)) (.string ⟨t.toArray⟩) true).run Tryd.prog W = .ok (.tuple #[.agg (ruA (f k)), .bool true]) W := by
  obtain ⟨v, ps, h1, h2⟩ := h.look_ok law9 Tryd.underlying67 (zero26 W) (ruR_mk ruZ) (key9 t hl)
  obtain ⟨i, g1, g2, g3⟩ := tab_at f t n ⟨k, hk, ht⟩
  have hik : i = k := dst_one hd g1 hk (g2.trans ht.symm)
  subst hik
  rw [(tab_has f t n).2 ⟨i, hk, ht⟩] at h1
  obtain ⟨x, e1, e2⟩ := ruR_inv v _ h2
  rw [g3] at e2
  have e3 : f i = x := ruD_inj (congrArg Prod.fst e2)
  rw [h1, e1, e3]
theorem look_no {f : Nat → Ru} {n b : Nat} {t : List UInt8} {W : World} (h : W.ownsMap Tryd.prog 9 ruR b n (tab f n)) (ht : ∀ j, j < n → (f j).dm ≠ t) (hl : t.length ≤ 4294967296) :
    (Instr.lookup 67 (.map (some b)) (.string ⟨t.toArray⟩) true).run Tryd.prog W = .ok (.tuple #[.agg (ruA ruZ), .bool false]) W := by
  obtain ⟨v, ps, h1, h2⟩ := h.look_ok law9 Tryd.underlying67 (zero26 W) (ruR_mk ruZ) (key9 t hl)
  have hf : Maps.has (tab f n) (.string t) = false := by
    cases hh : Maps.has (tab f n) (.string t) with
    | false => rfl
    | true =>
      obtain ⟨i, g1, g2⟩ := (tab_has f t n).1 hh
      exact absurd g2 (ht i g1)
  rw [hf] at h1
  rw [atKey_of_not_has hf] at h2
  obtain ⟨x, e1, e2⟩ := ruR_inv v _ h2
  have e3 : ruZ = x := ruD_inj (congrArg Prod.fst e2)
  rw [h1, e1, e3]
/-- strings.Cut at a dot. -/
theorem cut_any (d : List UInt8) (m : Int) (w : World) (hs : d.length < 4294967281) (hm : w.cell? ⟨0, 0, none⟩ = some (.int .i64 m)) :
    Calls Tryd.prog 32 #[.string ⟨d.toArray⟩, .string ⟨#[46]⟩] w fun e w' => (∃ a, e = .returned (.tuple #[.string a, .string ⟨(Pln.cutA d).toArray⟩, .bool (Pln.cutB d)])) ∧ Below w.heap.size w w' := by
  refine (Tryd.strings_Cut ⟨d.toArray⟩ ⟨#[46]⟩ m w (by rw [size_mk]; exact hs) hm).mono ?_
  rintro e w' ⟨rfl, q, rfl⟩
  exact ⟨⟨_, rfl⟩, below_drewN (Below.refl _ _) q⟩
end Go.Proofs.YtocjjfjcepflnaaDoor
