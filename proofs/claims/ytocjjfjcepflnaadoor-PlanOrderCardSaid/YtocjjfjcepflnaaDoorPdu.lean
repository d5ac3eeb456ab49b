/-
  PROVED HERE: plain facts on what is due, by places; laws for a step of a region that draws its order.
-/
import Derived.Test.YtocjjfjcepflnaaDoorAhd
import Derived.Test.YtocjjfjcepflnaaDoorOwn
import Derived.Deep.AppendLies
set_option linter.unusedVariables false
namespace Stb
theorem ins_map {α β : Type} (lt : β → β → Bool) (φ : α → β) (x : α) : ∀ l : List α, ins lt (φ x) (l.map φ) = (ins (fun a b => lt (φ a) (φ b)) x l).map φ
  | [] => rfl
  | y :: ys => by
    rw [List.map_cons, ins_cons, ins_cons]
    split
    · rfl
    · rw [ins_map lt φ x ys]; rfl
theorem isort_map {α β : Type} (lt : β → β → Bool) (φ : α → β) (l : List α) : isort lt (l.map φ) = (isort (fun a b => lt (φ a) (φ b)) l).map φ := by
  have key : ∀ (l acc : List α), (l.map φ).foldl (fun acc x => ins lt x acc) (acc.map φ) = (l.foldl (fun acc x => ins (fun a b => lt (φ a) (φ b)) x acc) acc).map φ := by
    intro l
    induction l with
    | nil => intro acc; rfl
    | cons x l ih =>
      intro acc
      rw [List.map_cons, List.foldl_cons, List.foldl_cons, ins_map, ih]
  exact key l []
/-- Set in from behind. -/
theorem ins_back {α : Type} {lt : α → α → Bool} (h : Swo lt) (x : α) (L : List α) (hs : Sorted lt L) (k : Nat) (hk : k ≤ L.length) (h1 : ∀ hk1 : k < L.length, lt x L[k] = true) (h2 : ∀ (h0 : 0 < k), lt x (L[k - 1]'(by omega)) = false) : ins lt x L = L.take k ++ x :: L.drop k := by
  conv => lhs; rw [← List.take_append_drop k L]
  refine ins_at x _ _ (fun y hy => ?_) (fun y hy => ?_)
  · cases hk0 : k with
    | zero => rw [hk0] at hy; simp at hy
    | succ q =>
      obtain ⟨j, hj, rfl⟩ := List.getElem_of_mem hy
      rw [List.length_take] at hj
      have hjq : j ≤ q := by omega
      have hl := h2 (by omega)
      rw [List.getElem_take]
      cases hlt : lt x L[j] with
      | false => rfl
      | true =>
        have he : L[k - 1]'(by omega) = L[q]'(by omega) := by congr 1; omega
        rw [he] at hl
        by_cases hjq2 : j = q
        · subst hjq2; rw [hl] at hlt; cases hlt
        · have hp := List.pairwise_iff_getElem.1 hs j q (by omega) (by omega) (by omega)
          have := h.lt_of_lt_of_not hlt hp
          rw [hl] at this
          cases this
  · rw [List.head?_drop] at hy
    have hk1 := (List.getElem?_eq_some_iff.1 hy)
    obtain ⟨hk2, e⟩ := hk1
    rw [← e]
    exact h1 hk2
end Stb
namespace Go.Proofs.YtocjjfjcepflnaaDoor
open Go.RowKit Go.Shelf Go.Lib Go.Sort
section
variable (F : Nat → En) (G : Nat → Nat → To3) (nw : Nat) (h : Nat → UInt64) (now : Int)
def Qw (i : Nat) : UInt64 := if i < nw then h i else 0
def ltI (i j : Nat) : Bool := ltOf cmpDw (dwOf (F i) (Qw nw h i)) (dwOf (F j) (Qw nw h j))
theorem ltI_swo : Stb.Swo (ltI F nw h) := ⟨fun i => dw_swo.irr _, fun i j k => dw_swo.tr _ _ _, fun i j k => dw_swo.neg _ _ _⟩
def pdB (i : Nat) : Bool := !decide (now < (F i).next) && wtB (F i).n (G i)
/-- The places of what is due, in order. -/
def lstI (k : Nat) : List Nat := Stb.isort (ltI F nw h) ((List.range k).filter (pdB F G now))
theorem dueO_is (i : Nat) : dueO F G nw h now i = if pdB F G now i = true then some (dwOf (F i) (Qw nw h i)) else none := by
  unfold dueO pdB dwOf Qw
  by_cases h1 : now < (F i).next
  · rw [if_pos h1]; simp [h1]
  · rw [if_neg h1]
    cases wtB (F i).n (G i) <;> simp [h1]
theorem dueT_map (k : Nat) : dueT F G nw h now k = ((List.range k).filter (pdB F G now)).map fun i => dwOf (F i) (Qw nw h i) := by
  unfold dueT
  generalize List.range k = l
  induction l with
  | nil => rfl
  | cons a l ih =>
    rw [List.filterMap_cons, dueO_is]
    cases hp : pdB F G now a with
    | true => rw [if_pos rfl, List.filter_cons_of_pos hp, List.map_cons, ← ih]
    | false => rw [if_neg Bool.false_ne_true, List.filter_cons_of_neg (by rw [hp]; exact Bool.false_ne_true), ← ih]
theorem dueR_ids (k : Nat) : (dueR F G nw h now k).map (fun x => Value.int .u64 x.id) = (lstI F G nw h now k).map (fun i => Value.int .u64 (F i).id) := by
  unfold dueR lstI
  rw [dueT_map, Stb.isort_map, List.map_map]
  rfl
theorem lstI_len (k : Nat) : (lstI F G nw h now k).length = (dueT F G nw h now k).length := by
  unfold lstI
  rw [Stb.length_isort, dueT_map, List.length_map]
theorem lstI_lt (k i : Nat) (hi : i ∈ lstI F G nw h now k) : i < k := by
  have h1 := (Stb.isort_perm (lt := ltI F nw h) ((List.range k).filter (pdB F G now))).mem_iff.1 hi
  exact List.mem_range.1 (List.mem_filter.1 h1).1
theorem lstI_no (k : Nat) (hp : pdB F G now k = false) : lstI F G nw h now (k + 1) = lstI F G nw h now k := by
  unfold lstI
  rw [List.range_succ, List.filter_append, List.filter_cons_of_neg (by rw [hp]; exact Bool.false_ne_true), List.filter_nil, List.append_nil]
theorem lstI_yes (k : Nat) (hp : pdB F G now k = true) : lstI F G nw h now (k + 1) = Stb.ins (ltI F nw h) k (lstI F G nw h now k) := by
  unfold lstI
  rw [List.range_succ, List.filter_append, List.filter_cons_of_pos hp, List.filter_nil, Stb.isort_snoc]
theorem lstI_step (k j : Nat) (hp : pdB F G now k = true) (hj : j ≤ (lstI F G nw h now k).length) (h1 : j < (lstI F G nw h now k).length → ltI F nw h k ((lstI F G nw h now k).getD j 0) = true) (h2 : 0 < j → ltI F nw h k ((lstI F G nw h now k).getD (j - 1) 0) = false) :
    lstI F G nw h now (k + 1) = (lstI F G nw h now k).take j ++ k :: (lstI F G nw h now k).drop j := by
  rw [lstI_yes F G nw h now k hp]
  have e : ∀ q (hq : q < (lstI F G nw h now k).length), (lstI F G nw h now k).getD q 0 = (lstI F G nw h now k)[q] := fun q hq => by
    rw [List.getD_eq_getElem?_getD, List.getElem?_eq_getElem hq]; rfl
  refine Stb.ins_back (ltI_swo F nw h) k _ (Stb.sorted_isort (ltI_swo F nw h) _) j hj (fun hk => ?_) (fun h0 => ?_)
  · have q := h1 hk; rw [e j hk] at q; exact q
  · have q := h2 h0; rw [e (j - 1) (by omega)] at q; exact q
end
def dvL (x : En) (q : UInt64) : List Value := (dvA x q).toList
theorem dvL_len (x : En) (q : UInt64) : (dvL x q).length = 11 := rfl
theorem dvL_one (x : En) (q : UInt64) : ∀ v ∈ dvL x q, v.oneCell' = true := by
  intro v hv
  unfold dvL at hv
  simp only [List.mem_cons, List.not_mem_nil, or_false] at hv
  rcases hv with rfl | rfl | rfl | rfl | rfl | rfl | rfl | rfl | rfl | rfl | rfl <;> rfl
theorem info80 : (Tryd.prog.info? 80).map (fun i => (i.zero, i.size, i.bytes)) = some (some (.agg #[.int .u64 0, .string ⟨#[]⟩, .int .u64 0, .int .u64 0, .string ⟨#[]⟩, .string ⟨#[]⟩, .slice none 0 0, .int .u64 0, .int .u64 0, .int .i64 0, .int .u64 0]), 11, 128) := by kernel_rfl
theorem flat_drop {α : Type} (g : α → List Value) (c : Nat) (hc : ∀ x, (g x).length = c) : ∀ (l : List α) (k : Nat), (l.drop k).flatMap g = (l.flatMap g).drop (k * c)
  | l, 0 => by simp
  | [], k + 1 => by simp
  | x :: l, k + 1 => by
    have e : (k + 1) * c = c + k * c := by rw [Nat.succ_mul]; omega
    rw [List.drop_succ_cons, flat_drop g c hc l k, List.flatMap_cons, e, ← List.drop_drop, List.drop_left' (hc x)]
theorem flat_take {α : Type} (g : α → List Value) (c : Nat) (hc : ∀ x, (g x).length = c) : ∀ (l : List α) (k : Nat), (l.take k).flatMap g = (l.flatMap g).take (k * c)
  | l, 0 => by simp
  | [], k + 1 => by simp
  | x :: l, k + 1 => by
    have e : (k + 1) * c = c + k * c := by rw [Nat.succ_mul]; omega
    rw [List.take_succ_cons, List.flatMap_cons, List.flatMap_cons, flat_take g c hc l k, e, List.take_add, List.take_left' (hc x), List.drop_left' (hc x)]
/-- At a step of a region that draws its order. -/
theorem step_append_at {P : Program} {w : World} {ops : Array Oper} {o : Oper} {a : Act} {K : Act → World → Prop} {Q : Exit → Act → World → Prop} {E : Prop} (hgd : o.guard = none) (s x : Operand) (t : TypeId)
    (ho : o.op = .call { callee := .builtin .append, args := #[s, x], argTypes := #[t, t] })
    (base : Nat) (e : TypeId) (i : TypeInfo) (z : Value) (size bytes : Nat) (ht : P.underlying t = some (.slice e)) (hi : P.info? e = some i) (hz : i.zero = some z)
    (hsize : i.size = size) (hby : i.bytes = bytes) (hzs : z.cells.size = size) (hsz : 0 < size)
    (v : Value) (n : Nat) (xs : List Value) (hs : a.eval s = v) (hown : w.ownsRow base e size v n xs)
    (ad : Addr) (m c : Nat) (news : List Value) (hx : a.eval x = .slice (some ad) m c) (hl : news.length = m * size) (hnews : ∀ j u, news[j]? = some u → w.cell? (ad.add j) = some u) (h1 : ∀ u ∈ news, u.oneCell' = true)
    (h63 : n + m ≤ maxLen) (hbytes : (n + m) * bytes ≤ 140737488355328) (hbase : base ≤ w.heap.size)
    (h : ∀ v' w', w'.ownsRow base e size v' (n + m) (xs ++ news) → w.grownBy w' v.ownBlock → (v'.ownBlock = v.ownBlock ∨ v'.ownBlock = some w.heap.size) → K (a.put o.dst v') w') :
    if Region.wanted o (yielded ops a.tmps) = true then Oper.wp P o a w K Q else E := by
  have hw : Region.wanted o (yielded ops a.tmps) = true := by simp [Region.wanted, hgd]
  rw [if_pos hw]
  obtain ⟨v', w', hr, h2, h3, h4, h5⟩ := run_append_own_at (P := P) w base t o.type e i z size bytes ht hi hz hsize hby hzs hsz v n xs hown ad m c news hl hnews h1 h63 hbytes hbase
  unfold Oper.wp execOp
  simp only [ho, resolve, invoke, builtin, Sem.run_bind, Sem.run_pure, Result.andThen_ok, List.map_toArray, List.map_cons, List.map_nil, hs, hx, hr]
  exact h v' w' h2 h3 h5
end Go.Proofs.YtocjjfjcepflnaaDoor
