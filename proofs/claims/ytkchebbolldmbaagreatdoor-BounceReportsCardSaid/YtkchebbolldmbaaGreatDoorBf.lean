/-
  PROVED HERE: what Failed of the program computes.
-/
import Derived.Test.YtkchebbolldmbaaGreatDoorBc
import Derived.Test.YtkchebbolldmbaaGreatDoorEq
import Derived.Laws.AppendOwnNone
set_option linter.unusedVariables false
namespace Bnc
open Go.Lib in
/-- Whom a line says that failed. -/
def fd1 (s : List UInt8) : List (List UInt8 × List UInt8) :=
  if hasPrefix s fin = true then
    match Adr.rdP (60 :: (trimPrefix s fin ++ [62])) with
    | some (l, d, []) => if Adr.mayB l d = true ∧ Adr.wrt l d = trimPrefix s fin then [(l, d)] else []
    | _ => []
  else []
/-- Whom a text says that failed. -/
def fds (t : List UInt8) : List (List UInt8 × List UInt8) := (lns t).flatMap fd1
end Bnc
namespace Go.Proofs.YtkchebbolldmbaaGreatDoor
open Go.RowKit
theorem parse_form (T : List UInt8) : ∃ l d, ∃ e : Int, parseV T = .tuple #[bxV l d, .int .i64 e] ∧ l.length < 4294967281 ∧ d.length < 4294967281 ∧ (e = 0 → Adr.rdP T = some (l, d, [])) ∧ (e ≠ 0 → ∀ l' d', Adr.rdP T ≠ some (l', d', [])) := by
  cases h : Adr.rdP T with
  | none => exact ⟨[], [], 2, parse_none h, by decide, by decide, fun e => absurd e (by decide), fun _ l' d' e => by cases e⟩
  | some p =>
    obtain ⟨l, d, r⟩ := p
    cases r with
    | nil =>
      have hb : l.length < 4294967281 ∧ d.length < 4294967281 := by
        rcases Adr.rdP_may h with ⟨rfl, rfl⟩ | hy
        · exact ⟨by decide, by decide⟩
        · obtain ⟨h1, h2⟩ := Adr.may_len hy
          exact ⟨by omega, by omega⟩
      exact ⟨l, d, 0, parse_some h, hb.1, hb.2, fun _ => rfl, fun e => absurd rfl e⟩
    | cons x r => exact ⟨[], [], 2, parse_more h, by decide, by decide, fun e => absurd e (by decide), fun _ l' d' e => by cases e⟩
theorem write_form (l d : List UInt8) : ∃ q, ∃ f : Int, wrtV l d = .tuple #[sV q, .int .i64 f] ∧ q.length ≤ 400 ∧ (f = 0 → Adr.mayB l d = true ∧ q = Adr.wrt l d) ∧ (f ≠ 0 → Adr.mayB l d = false) := by
  unfold wrtV
  cases h : Adr.mayB l d with
  | true => exact ⟨Adr.wrt l d, 0, by rw [if_pos rfl], wrt_len h, fun _ => ⟨rfl, rfl⟩, fun e => absurd rfl e⟩
  | false => exact ⟨[], 2, by rw [if_neg Bool.false_ne_true]; rfl, by decide, fun e => absurd e (by decide), fun _ => rfl⟩
theorem fd1_no {s : List UInt8} (h : Go.Lib.hasPrefix s Bnc.fin = false) : Bnc.fd1 s = [] := by unfold Bnc.fd1; rw [if_neg (by rw [h]; exact Bool.false_ne_true)]
theorem fd1_bad {s : List UInt8} (h : ∀ l d, Adr.rdP (60 :: (Go.Lib.trimPrefix s Bnc.fin ++ [62])) ≠ some (l, d, [])) : Bnc.fd1 s = [] := by
  unfold Bnc.fd1
  split
  · split
    · rename_i l d e
      exact absurd e (h l d)
    · rfl
  · rfl
theorem fd1_at {s l d : List UInt8} (h0 : Go.Lib.hasPrefix s Bnc.fin = true) (h : Adr.rdP (60 :: (Go.Lib.trimPrefix s Bnc.fin ++ [62])) = some (l, d, [])) : Bnc.fd1 s = if Adr.mayB l d = true ∧ Adr.wrt l d = Go.Lib.trimPrefix s Bnc.fin then [(l, d)] else [] := by
  unfold Bnc.fd1
  rw [if_pos h0, h]
/-- A row of the program's boxes of the call's own. -/
def Aow (W : World) (base : Nat) (v : Value) (l : List Bxp) : Prop := W.ownsRow base 29 2 v l.length (l.flatMap bxL)
theorem aow_below {W W1 : World} {base : Nat} {v : Value} {l : List Bxp} (h : Aow W base v l) (g : Below W.heap.size W W1) : Aow W1 base v l := by
  refine ⟨h.1, ?_⟩
  rcases h.2 with e | ⟨q, cc, cu, e, h1, h2, h3⟩
  · exact Or.inl e
  · exact Or.inr ⟨q, cc, cu, e, h1, (g.block q (Array.getElem?_eq_some_iff.1 h2).1).trans h2, h3⟩
theorem flat_le {α β : Type} (L : List α) (φ : α → List β) (h : ∀ x ∈ L, (φ x).length ≤ 1) (k : Nat) : ((L.take k).flatMap φ).length ≤ k := by
  induction k with
  | zero => simp
  | succ k ih =>
    by_cases hk : k < L.length
    · rw [take_flat L φ k hk, List.length_append]
      have := h L[k] (List.getElem_mem hk)
      omega
    · rw [List.take_of_length_le (by omega)]
      rw [List.take_of_length_le (by omega)] at ih
      omega
theorem aow_mono {W : World} {base b2 : Nat} {v : Value} {l : List Bxp} (h : Aow W base v l) (g : b2 ≤ base) : Aow W b2 v l := by
  refine ⟨h.1, ?_⟩
  rcases h.2 with e | ⟨q, cc, cu, e, h1, h2, h3⟩
  · exact Or.inl e
  · exact Or.inr ⟨q, cc, cu, e, Nat.le_trans g h1, h2, h3⟩
theorem info24 : (Tryz.prog.info? 29).map (fun i => (i.zero, i.size, i.bytes)) = some (some (.agg #[.string ⟨#[]⟩, .string ⟨#[]⟩]), 2, 32) := by kernel_rfl

set_option maxRecDepth 100000 in
set_option maxHeartbeats 4000000 in
theorem failed1_any (s : ByteArray) (m : Int) (w : World) (hs : s.size < 4294967200) (hm : w.cell? ⟨3, 0, none⟩ = some (.int .i64 m)) :
    Calls Tryz.prog 46 #[.string s] w fun e w' => (∃ v, e = .returned v ∧ Aow w' w.heap.size v (Bnc.fd1 s.data.toList)) ∧ Below w.heap.size w w' := by
  have HC := Lib.hid (Tryz.strings_CutPrefix s ⟨#[70, 105, 110, 97, 108, 45, 82, 101, 99, 105, 112, 105, 101, 110, 116, 58, 32, 114, 102, 99, 56, 50, 50, 59, 32]⟩ w)
  have hfin : (⟨#[70, 105, 110, 97, 108, 45, 82, 101, 99, 105, 112, 105, 101, 110, 116, 58, 32, 114, 102, 99, 56, 50, 50, 59, 32]⟩ : ByteArray).data.toList = Bnc.fin := rfl
  rw [hfin] at HC
  clear hfin
  have hz : (Go.Lib.trimPrefix s.data.toList Bnc.fin).length ≤ s.size := by
    have := Lib.size_eq s
    unfold Go.Lib.trimPrefix
    split
    · rw [List.length_drop]; omega
    · omega
  have HNO := Lib.hid (@fd1_no s.data.toList)
  have HBAD := Lib.hid (@fd1_bad s.data.toList)
  have HAT := Lib.hid (fun l d => @fd1_at s.data.toList l d)
  generalize Bnc.fd1 s.data.toList = R at *
  generalize Go.Lib.trimPrefix s.data.toList Bnc.fin = z at *
  generalize Go.Lib.hasPrefix s.data.toList Bnc.fin = is at *
  have HP := Lib.hid (parse_any (60 :: (z ++ [62])) m w (by simp only [List.length_cons, List.length_append, List.length_nil]; omega) hm)
  obtain ⟨l, d, e, hpv, hl, hd, he0, he1⟩ := parse_form (60 :: (z ++ [62]))
  rw [hpv] at HP
  have HW := Lib.hid (fun (W : World) (h : At m w W) => write_any l d m W hl hd h.cell)
  obtain ⟨q, f, hwv, hql, hf0, hf1⟩ := write_form l d
  rw [hwv] at HW
  have HA := Lib.hid (at_refl hm)
  have HE0 := Lib.hid he0
  have HE1 := Lib.hid he1
  have HF0 := Lib.hid hf0
  have HF1 := Lib.hid hf1
  clear he0 he1 hf0 hf1 hpv hwv hm hl hd
  have e1 : (⟨#[60]⟩ : ByteArray) ++ ⟨z.toArray⟩ ++ ⟨#[62]⟩ = ⟨(60 :: (z ++ [62])).toArray⟩ := by
    have h1 : (⟨#[60]⟩ : ByteArray) ++ ⟨z.toArray⟩ = ⟨([60] ++ z).toArray⟩ := mk_append [60] z
    have h2 : (⟨([60] ++ z).toArray⟩ : ByteArray) ++ ⟨#[62]⟩ = ⟨(([60] ++ z) ++ [62]).toArray⟩ := mk_append ([60] ++ z) [62]
    rw [h1, h2]; rfl
  rw [← e1] at HP
  clear e1
  unfold bxV sV at *
  have hqz := str_bne q z
  go_enter Tryz.func46, Tryz.ntmps46
  go_wp2_with fail
  refine HC.out.mono ?_
  rintro e' w1 ⟨rfl, h1⟩
  obtain rfl := h1.symm
  clear h1
  go_wp2_with fail
  refine HP.out.mono ?_
  rintro e' w2 ⟨rfl, hb⟩
  have HA2 := Lib.hid (HA.out.next hb)
  clear hb
  go_wp2_with fail
  have HBX := Lib.hid (bx_new HA2.out l d)
  refine (HW.out _ HBX.out.at').mono ?_
  rintro e' w3 ⟨rfl, hb⟩
  have HBX3 := Lib.hid (bx_next HBX.out hb)
  obtain ⟨⟨c0, _⟩, c1, _⟩ := bx_cells HBX3.out
  have HB3 : Hid (Below w.heap.size w w3) := HBX3.out.at'.below
  have hs3 := HB3.out.size
  clear hb HBX HC HP HA HA2 HW hql hz
  cases is with
  | false =>
    have HR := Lib.hid (HNO.out rfl)
    clear HNO HBAD HAT HE0 HE1 HF0 HF1 hqz
    go_wp2_with fail
    go_ret
    exact ⟨⟨_, rfl, by rw [HR.out]; exact ⟨rfl, Or.inl ⟨rfl, rfl⟩⟩⟩, HB3.out⟩
  | true =>
  by_cases he : e = 0
  case neg =>
    have HR := Lib.hid (HBAD.out (HE1.out he))
    have he2 : (e != 0) = true := bne_iff_ne.2 he
    clear HNO HBAD HAT HE0 HE1 HF0 HF1 hqz he
    go_wp2_with fail
    go_ret
    exact ⟨⟨_, rfl, by rw [HR.out]; exact ⟨rfl, Or.inl ⟨rfl, rfl⟩⟩⟩, HB3.out⟩
  have HRR := Lib.hid (HAT.out l d rfl (HE0.out he))
  subst he
  by_cases hf : f = 0
  case neg =>
    have hy := HF1.out hf
    have HR : Hid (R = []) := by show _ = _; rw [HRR.out, if_neg (fun h => by rw [hy] at h; exact Bool.noConfusion h.1)]
    have hf2 : (f != 0) = true := bne_iff_ne.2 hf
    clear HNO HBAD HAT HE0 HE1 HF0 HF1 HRR hqz hf hy
    go_wp2_with fail
    go_ret
    exact ⟨⟨_, rfl, by rw [HR.out]; exact ⟨rfl, Or.inl ⟨rfl, rfl⟩⟩⟩, HB3.out⟩
  obtain ⟨hy, hqe⟩ := HF0.out hf
  subst hf
  by_cases hq2 : q = z
  case neg =>
    have HR : Hid (R = []) := by show _ = _; rw [HRR.out, if_neg (fun h => hq2 (hqe.trans h.2))]
    have hq3 : (q == z) = false := beq_false_of_ne hq2
    clear HNO HBAD HAT HE0 HE1 HF0 HF1 HRR hqz hy hq2 hqe
    go_wp2_with fail
    go_ret
    exact ⟨⟨_, rfl, by rw [HR.out]; exact ⟨rfl, Or.inl ⟨rfl, rfl⟩⟩⟩, HB3.out⟩
  have HR : Hid (R = [(l, d)]) := by show _ = _; rw [HRR.out, if_pos ⟨hy, hqe.symm.trans hq2⟩]
  have hq3 : (q == z) = true := beq_iff_eq.2 hq2
  clear HNO HBAD HAT HE0 HE1 HF0 HF1 HRR hqz hy hq2 hqe
  go_wp2_with fail
  go_ret
  refine ⟨⟨_, rfl, ?_⟩, HB3.out.alloc hs3 _⟩
  rw [HR.out]
  unfold Aow
  exact World.ownsRow_lit w3 #[.string ⟨l.toArray⟩, .string ⟨d.toArray⟩] 1 hs3 (by unfold maxLen; omega) rfl

set_option maxRecDepth 100000 in
set_option maxHeartbeats 4000000 in
theorem mapped_failed (A : Option Addr) (c : Nat) (L : List (List UInt8)) (m : Int) (w : World) (hB : Txs w A L) (hl : ∀ x ∈ L, x.length < 4294967200) (hf1 : ∀ x ∈ L, (Bnc.fd1 x).length ≤ 1) (hn : L.length ≤ 4294967281) (hm : w.cell? ⟨3, 0, none⟩ = some (.int .i64 m)) :
    Calls Tryz.prog 44 #[.slice A L.length c, .func (.func 46) #[] #[]] w fun e w' => (∃ v, e = .returned v ∧ Aow w' w.heap.size v (L.flatMap Bnc.fd1)) ∧ Below w.heap.size w w' := by
  obtain ⟨i0, hi0, hz0, hz1, hz2⟩ := info_parts info24
  have HBO := Lib.hid hB
  have HL := Lib.hid hl
  have HF1 := Lib.hid hf1
  have HM := Lib.hid hm
  have HO0 : Hid (Aow w w.heap.size (.slice none 0 0) ((L.take 0).flatMap Bnc.fd1)) := ⟨rfl, Or.inl ⟨rfl, rfl⟩⟩
  have HB0 : Hid (Below w.heap.size w w) := Below.refl _ _
  have HCN : Hid (∀ k, ((L.take k).flatMap Bnc.fd1).length ≤ k) := fun k => flat_le L Bnc.fd1 hf1 k
  clear hB hl hm hf1
  go_enter Tryz.func44, Tryz.ntmps44
  go_wp2_with fail
  go_loopw [10, 5] (fun u v wr => ∃ k : Nat, u = .int .i64 k ∧ k ≤ L.length ∧ Hid (Aow wr w.heap.size v ((L.take k).flatMap Bnc.fd1)) ∧ Hid (Below w.heap.size w wr)) (fun u _ _ => L.length - (intOf u).toNat)
  case atStart => exact ⟨0, rfl, by omega, HO0, HB0⟩
  case round =>
    clear HO0 HB0
    obtain ⟨k, rfl, hk, HO, HB⟩ := hrel
    by_cases hlt : k < L.length
    · have hltz : (k : Int) < (L.length : Int) := by omega
      obtain ⟨b, off, rfl, t0'⟩ := HBO.out k hlt
      have t0 : wr.cell? ⟨b, off + k, none⟩ = some (.string ⟨(at' L k).toArray⟩) := by rw [HB.out.cell (World.block_lt_of_cell? _ _ t0')]; exact t0'
      have hsz := HB.out.size
      have e0 := at_get L k hlt
      have h1 := HL.out L[k] (List.getElem_mem hlt)
      have h2 := HF1.out L[k] (List.getElem_mem hlt)
      have HF := Lib.hid (take_flat L Bnc.fd1 k hlt)
      rw [← e0] at h1 h2 HF
      have hcnt := HCN.out k
      have hm1 : wr.cell? ⟨3, 0, none⟩ = some (.int .i64 m) := by rw [HB.out.cell (World.block_lt_of_cell? _ _ HM.out)]; exact HM.out
      have HC := Lib.hid (failed1_any ⟨(at' L k).toArray⟩ m wr (by rw [size_mk]; exact h1) hm1)
      simp only [] at HC
      clear t0' e0 h1 hm1
      generalize at' L k = x at *
      generalize Bnc.fd1 x = Q at *
      generalize (L.take k).flatMap Bnc.fd1 = P0 at *
      go_wp2_with fail
      refine HC.out.mono ?_
      rintro e w2 ⟨⟨v2, rfl, ho⟩, hb⟩
      have HB3 := Lib.hid hb
      have hs2 := hb.size
      have HO2 : Hid (Aow w2 w.heap.size u5 P0) := aow_below HO.out hb
      have HBB := Lib.hid (HB.out.trans (hb.mono hsz))
      rcases ho.2 with ⟨rfl, h0⟩ | ⟨g2, cc2, cu, rfl, hg2, hh2, hcc, _, _, hcu⟩
      · have hQ : Q = [] := List.length_eq_zero_iff.1 h0
        subst hQ
        clear ho hb h0
        have HT5 : Hid (Aow w2 w.heap.size u5 ((L.take (k + 1)).flatMap Bnc.fd1)) := by
          show Aow _ _ _ _
          rw [HF.out, List.append_nil]
          exact HO2.out
        have HB5 := HBB
        have HO3 : Hid (w2.ownsRow w.heap.size 29 2 u5 P0.length (P0.flatMap bxL)) := HO2.out
        go_wp2_with (at_builtin; go_must (refine wpList_append_own_none rfl (.tmp 14) (.tmp 17) 41 rfl w.heap.size 29 i0 2 Tryz.underlying41 hi0 _ P0.length (P0.flatMap bxL) rfl HO3.out rfl ?_))
        go_wp2
        go_roundw
        case rel => exact ⟨k + 1, by go_num, by omega, HT5, HB5.out⟩
        case measure => simp [intOf]; omega
      · have F2 := Lib.hid (fun j u (hu : (Q.flatMap bxL)[j]? = some u) => ho.cells rfl j u hu)
        have hql := flat_len Q
        clear ho hb hh2 hcc hcu
        go_wp2_with (at_builtin; go_must (refine wpList_append_own _ rfl (.tmp 14) (.tmp 17) 41 rfl w.heap.size 29 i0 (.agg #[.string ⟨#[]⟩, .string ⟨#[]⟩]) 2 32 Tryz.underlying41 hi0 hz0 hz1 hz2 rfl (by decide) _ _ _ rfl HO2.out ⟨g2, 0, none⟩ Q.length cc2 (Q.flatMap bxL) rfl hql ?x1 ?x2 ?x3 ?x4 ?x5 ?_))
        case x1 => intro j u hu; exact F2.out j u hu
        case x2 => intro u hu; obtain ⟨p, _, hp⟩ := List.mem_flatMap.1 hu; unfold bxL at hp; simp only [List.mem_cons, List.not_mem_nil, or_false] at hp; rcases hp with rfl | rfl <;> rfl
        case x3 => unfold maxLen; omega
        case x4 => omega
        case x5 => omega
        intro v' w5 hown hgrow _
        have HT5 : Hid (Aow w5 w.heap.size v' ((L.take (k + 1)).flatMap Bnc.fd1)) := by
          show Aow _ _ _ _
          rw [HF.out]
          unfold Aow
          rw [List.length_append, List.flatMap_append]
          exact hown
        have HB5 := Lib.hid (HBB.out.grown hgrow (by omega) (fun q hq => (HO2.out.lt q hq).1))
        clear hown hgrow
        go_wp2
        go_roundw
        case rel => exact ⟨k + 1, by go_num, by omega, HT5, HB5.out⟩
        case measure => simp [intOf]; omega
    · have hltz : ¬ (k : Int) < (L.length : Int) := by omega
      obtain rfl : k = L.length := by omega
      rw [List.take_length] at HO
      go_wp2_with fail
      go_ret
      exact ⟨⟨_, rfl, HO.out⟩, HB.out⟩
theorem fd1_len (s : List UInt8) : (Bnc.fd1 s).length ≤ 1 := by
  unfold Bnc.fd1
  split
  · split
    · split
      · exact Nat.le_refl _
      · exact Nat.zero_le _
    · exact Nat.zero_le _
  · exact Nat.zero_le _

set_option maxRecDepth 100000 in
set_option maxHeartbeats 2000000 in
theorem failedT_any (s : ByteArray) (m : Int) (w : World) (hs : s.size < 4294967200) (hm : w.cell? ⟨3, 0, none⟩ = some (.int .i64 m)) :
    Calls Tryz.prog 18 #[.string s] w fun e w' => (∃ v, e = .returned v ∧ Aow w' w.heap.size v (Bnc.fds s.data.toList)) ∧ Below w.heap.size w w' := by
  have HS := Lib.hid (lines_any s m w (by omega) hm)
  have hsz := Lib.size_eq s
  have hlen := Bnc.lns_len s.data.toList
  have hLl : (Bnc.lns s.data.toList).length ≤ 4294967200 := by omega
  have HX : Hid (∀ x ∈ Bnc.lns s.data.toList, x.length < 4294967200) := fun x hx => by
    have := Bnc.lns_mem_len s.data.toList x hx
    omega
  have HF : Hid (Bnc.fds s.data.toList = (Bnc.lns s.data.toList).flatMap Bnc.fd1) := rfl
  have HM := Lib.hid hm
  clear hlen hsz hm
  generalize Bnc.fds s.data.toList = R at *
  generalize Bnc.lns s.data.toList = L at *
  go_enter Tryz.func18, Tryz.ntmps18
  go_wp2_with fail
  refine HS.out.mono ?_
  rintro e w1 ⟨⟨v, rfl, ho⟩, hb⟩
  obtain ⟨A, c, rfl, hcap, ht⟩ := tow_txs ho
  have hs1 := hb.size
  have HMP := Lib.hid (mapped_failed A c L m w1 ht HX.out (fun x _ => fd1_len x) (by omega) (by rw [hb.cell (World.block_lt_of_cell? _ _ HM.out)]; exact HM.out))
  have HB := Lib.hid hb
  clear ho hb HS ht
  go_wp2_with fail
  refine HMP.out.mono ?_
  rintro e w2 ⟨⟨v, rfl, ho⟩, hb⟩
  have HB2 := Lib.hid (HB.out.trans (hb.mono hs1))
  have HO : Hid (Aow w2 w.heap.size v R) := by
    show Aow _ _ _ _
    rw [HF.out]
    exact aow_mono ho hs1
  clear ho hb
  go_wp2_with fail
  go_ret
  exact ⟨⟨_, rfl, HO.out⟩, HB2.out⟩
end Go.Proofs.YtkchebbolldmbaaGreatDoor
