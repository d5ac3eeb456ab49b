/-
  PROVED HERE: what named, status and mapped (over mailboxes) of the program compute.
-/
import Derived.Test.YtkchebbolldmbaaGreatDoorBe
import Derived.Test.YtkchebbolldmbaaGreatDoorPlnB
set_option linter.unusedVariables false
namespace Bnc
def fin : List UInt8 := [70, 105, 110, 97, 108, 45, 82, 101, 99, 105, 112, 105, 101, 110, 116, 58, 32, 114, 102, 99, 56, 50, 50, 59, 32]
def act : List UInt8 := [65, 99, 116, 105, 111, 110, 58, 32, 102, 97, 105, 108, 101, 100]
def sta : List UInt8 := [83, 116, 97, 116, 117, 115, 58, 32, 53, 46, 48, 46, 48]
def nm (p : List UInt8 × List UInt8) : List (List UInt8) := [60 :: (Adr.wrt p.1 p.2 ++ [62])]
def stl (p : List UInt8 × List UInt8) : List (List UInt8) := [[], fin ++ Adr.wrt p.1 p.2, act, sta]
end Bnc
namespace Go.Proofs.YtkchebbolldmbaaGreatDoor
open Go.RowKit
theorem may_some {l d : List UInt8} (h : Adr.mayB l d = true) : ¬ (l = [] ∧ d = []) := fun e => Adr.local_ne (Adr.may_parts h).2.2 e.1
theorem path_may {l d : List UInt8} (h : Adr.mayB l d = true) : pathV l d = .tuple #[sV (60 :: (Adr.wrt l d ++ [62])), .int .i64 0] := by unfold pathV; rw [if_neg (may_some h), if_pos h]
theorem write_may {l d : List UInt8} (h : Adr.mayB l d = true) : wrtV l d = .tuple #[sV (Adr.wrt l d), .int .i64 0] := by unfold wrtV; rw [if_pos h]

set_option maxRecDepth 100000 in
set_option maxHeartbeats 2000000 in
theorem named_any (p : Bxp) (m : Int) (w : World) (hl : p.1.length < 4294967281) (hd : p.2.length < 4294967281) (hm : w.cell? ⟨3, 0, none⟩ = some (.int .i64 m)) (hy : Adr.mayB p.1 p.2 = true) :
    Calls Tryz.prog 38 #[bxV p.1 p.2] w fun e w' => (∃ v, e = .returned v ∧ Tow w' w.heap.size v (Bnc.nm p)) ∧ Below w.heap.size w w' := by
  obtain ⟨l, d⟩ := p
  have HA := at_alloc hm (.cells #[.string ⟨l.toArray⟩, .string ⟨d.toArray⟩] 54)
  have HP := path_any l d m (w.alloc (.cells #[.string ⟨l.toArray⟩, .string ⟨d.toArray⟩] 54)) hl hd HA.cell
  rw [path_may hy] at HP
  have HPP := Lib.hid HP
  have hlen := wrt_len hy
  have HW : Hid (Bnc.nm (l, d) = [60 :: (Adr.wrt l d ++ [62])]) := rfl
  generalize Adr.wrt l d = z at *
  generalize Bnc.nm (l, d) = L at *
  obtain ⟨c1, c2⟩ := cell_two w (.string ⟨l.toArray⟩) (.string ⟨d.toArray⟩) 54
  have hb0 : Hid (Below w.heap.size w (w.alloc (.cells #[.string ⟨l.toArray⟩, .string ⟨d.toArray⟩] 54))) := (Below.refl _ _).alloc (Nat.le_refl _) _
  clear hm HA HP hy
  unfold bxV at *
  generalize 60 :: (z ++ [62]) = q at *
  go_enter Tryz.func38, Tryz.ntmps38
  go_wp2_with fail
  refine HPP.out.mono ?_
  rintro e w1 ⟨rfl, hb⟩
  have hs1 := hb0.out.size
  have HB := Lib.hid (hb0.out.trans (hb.mono hs1))
  have hsz := HB.out.size
  clear hb
  unfold sV
  go_wp2_with fail
  go_ret
  refine ⟨⟨_, rfl, ?_⟩, HB.out.alloc hsz _⟩
  rw [HW.out]
  exact World.ownsRow_lit w1 #[.string ⟨q.toArray⟩] 1 hsz (by unfold maxLen; omega) rfl

set_option maxRecDepth 100000 in
set_option maxHeartbeats 2000000 in
theorem status_any (p : Bxp) (m : Int) (w : World) (hl : p.1.length < 4294967281) (hd : p.2.length < 4294967281) (hm : w.cell? ⟨3, 0, none⟩ = some (.int .i64 m)) (hy : Adr.mayB p.1 p.2 = true) :
    Calls Tryz.prog 39 #[bxV p.1 p.2] w fun e w' => (∃ v, e = .returned v ∧ Tow w' w.heap.size v (Bnc.stl p)) ∧ Below w.heap.size w w' := by
  obtain ⟨l, d⟩ := p
  have HA := at_alloc hm (.cells #[.string ⟨l.toArray⟩, .string ⟨d.toArray⟩] 54)
  have HP := write_any l d m (w.alloc (.cells #[.string ⟨l.toArray⟩, .string ⟨d.toArray⟩] 54)) hl hd HA.cell
  rw [write_may hy] at HP
  have HPP := Lib.hid HP
  have hlen := wrt_len hy
  have HW : Hid (Bnc.stl (l, d) = [[], Bnc.fin ++ Adr.wrt l d, Bnc.act, Bnc.sta]) := rfl
  generalize Adr.wrt l d = z at *
  generalize Bnc.stl (l, d) = L at *
  obtain ⟨c1, c2⟩ := cell_two w (.string ⟨l.toArray⟩) (.string ⟨d.toArray⟩) 54
  have hb0 : Hid (Below w.heap.size w (w.alloc (.cells #[.string ⟨l.toArray⟩, .string ⟨d.toArray⟩] 54))) := (Below.refl _ _).alloc (Nat.le_refl _) _
  clear hm HA HP hy
  unfold bxV at *
  go_enter Tryz.func39, Tryz.ntmps39
  go_wp2_with fail
  refine HPP.out.mono ?_
  rintro e w1 ⟨rfl, hb⟩
  have hs1 := hb0.out.size
  have HB := Lib.hid (hb0.out.trans (hb.mono hs1))
  have hsz := HB.out.size
  clear hb
  unfold sV
  go_wp2_with fail
  go_ret
  refine ⟨⟨_, rfl, ?_⟩, HB.out.alloc hsz _⟩
  rw [HW.out]
  have e : (⟨#[70, 105, 110, 97, 108, 45, 82, 101, 99, 105, 112, 105, 101, 110, 116, 58, 32, 114, 102, 99, 56, 50, 50, 59, 32]⟩ : ByteArray) ++ ⟨z.toArray⟩ = ⟨(Bnc.fin ++ z).toArray⟩ := mk_append Bnc.fin z
  rw [e]
  exact World.ownsRow_lit w1 #[.string ⟨#[]⟩, .string ⟨(Bnc.fin ++ z).toArray⟩, .string ⟨Bnc.act.toArray⟩, .string ⟨Bnc.sta.toArray⟩] 4 hsz (by unfold maxLen; omega) rfl
theorem info9b : (Tryz.prog.info? 9).map (fun i => (i.zero, i.size, i.bytes)) = some (some (.string ⟨#[]⟩), 1, 16) := info9
theorem take_flat {α β : Type} (l : List α) (φ : α → List β) (k : Nat) (hk : k < l.length) : (l.take (k + 1)).flatMap φ = (l.take k).flatMap φ ++ φ l[k] := by
  rw [List.take_succ_eq_append_getElem hk, List.flatMap_append, List.flatMap_cons, List.flatMap_nil, List.append_nil]
theorem flat_cnt {α β : Type} (l : List α) (φ : α → List β) (c : Nat) (h : ∀ x, (φ x).length = c) : (l.flatMap φ).length = l.length * c := by
  induction l with
  | nil => simp
  | cons x l ih => rw [List.flatMap_cons, List.length_append, h, ih, List.length_cons, Nat.succ_mul, Nat.add_comm]

set_option maxRecDepth 100000 in
set_option maxHeartbeats 4000000 in
theorem mapped_named (A : Option Addr) (c : Nat) (l : List Bxp) (m : Int) (w : World) (hB : Bos w A l) (hl : ∀ p ∈ l, p.1.length < 4294967281 ∧ p.2.length < 4294967281 ∧ Adr.mayB p.1 p.2 = true) (hn : l.length ≤ 1000000) (hm : w.cell? ⟨3, 0, none⟩ = some (.int .i64 m)) :
    Calls Tryz.prog 37 #[.slice A l.length c, .func (.func 38) #[] #[]] w fun e w' => (∃ v, e = .returned v ∧ Tow w' w.heap.size v (l.flatMap Bnc.nm)) ∧ Below w.heap.size w w' := by
  obtain ⟨i0, hi0, hz0, hz1, hz2⟩ := info_parts info9
  have HBO := Lib.hid hB
  have HL := Lib.hid hl
  have HM := Lib.hid hm
  have HO0 : Hid (Tow w w.heap.size (.slice none 0 0) ((l.take 0).flatMap Bnc.nm)) := ⟨rfl, Or.inl ⟨rfl, rfl⟩⟩
  have HB0 : Hid (Below w.heap.size w w) := Below.refl _ _
  clear hB hl hm
  go_enter Tryz.func37, Tryz.ntmps37
  go_wp2_with fail
  go_loopw [10, 5] (fun u v wr => ∃ k : Nat, u = .int .i64 k ∧ k ≤ l.length ∧ Hid (Tow wr w.heap.size v ((l.take k).flatMap Bnc.nm)) ∧ Hid (Below w.heap.size w wr)) (fun u _ _ => l.length - (intOf u).toNat)
  case atStart => exact ⟨0, rfl, by omega, HO0, HB0⟩
  case round =>
    clear HO0 HB0
    obtain ⟨k, rfl, hk, HO, HB⟩ := hrel
    by_cases hlt : k < l.length
    · have hltz : (k : Int) < (l.length : Int) := by omega
      have HB2 := Lib.hid (bos_below HBO.out HB.out)
      obtain ⟨b, off, rfl, t0, t1⟩ := HB2.out k hlt
      have hsz := HB.out.size
      obtain ⟨h1, h2, h3⟩ := HL.out l[k] (List.getElem_mem hlt)
      have HF := Lib.hid (take_flat l Bnc.nm k hlt)
      have hcnt : ((l.take k).flatMap Bnc.nm).length = (l.take k).length * 1 := flat_cnt _ _ 1 (fun _ => rfl)
      rw [List.length_take] at hcnt
      have hm1 : (wr.alloc (.cells #[.string ⟨l[k].1.toArray⟩, .string ⟨l[k].2.toArray⟩] 54)).cell? ⟨3, 0, none⟩ = some (.int .i64 m) := (at_alloc (by rw [HB.out.cell (World.block_lt_of_cell? _ _ HM.out)]; exact HM.out) _).cell
      have HC := Lib.hid (named_any l[k] m (wr.alloc (.cells #[.string ⟨l[k].1.toArray⟩, .string ⟨l[k].2.toArray⟩] 54)) h1 h2 hm1 h3)
      obtain ⟨c1, c2⟩ := cell_two wr (.string ⟨l[k].1.toArray⟩) (.string ⟨l[k].2.toArray⟩) 54
      have hb1 : Hid (Below wr.heap.size wr (wr.alloc (.cells #[.string ⟨l[k].1.toArray⟩, .string ⟨l[k].2.toArray⟩] 54))) := (Below.refl _ _).alloc (Nat.le_refl _) _
      have hcn : (Bnc.nm l[k]).length = 1 := rfl
      unfold bxV at HC
      clear h1 h2 h3 hm1
      generalize l[k] = p at *
      obtain ⟨x, y⟩ := p
      simp only [] at *
      generalize Bnc.nm (x, y) = Q at *
      go_wp2_with fail
      refine HC.out.mono ?_
      rintro e w2 ⟨⟨v2, rfl, ho⟩, hb⟩
      have hs1 := hb1.out.size
      have HB3 := Lib.hid (hb1.out.trans (hb.mono hs1))
      have hs2 := HB3.out.size
      have HO2 : Hid (Tow w2 w.heap.size u5 ((l.take k).flatMap Bnc.nm)) := tow_below HO.out HB3.out
      obtain ⟨a2, cc2, rfl, hcc, F2⟩ := own_form ho
      obtain ⟨g2, rfl, gl2, f2⟩ := F2 (by omega)
      clear ho hb F2
      rw [hcn]
      go_wp2_with (at_builtin; go_must (refine wpList_append_own _ rfl (.tmp 14) (.tmp 17) 47 rfl w.heap.size 9 i0 (.string ⟨#[]⟩) 1 16 Tryz.underlying47 hi0 hz0 hz1 hz2 rfl (by decide) _ _ _ rfl HO2.out ⟨g2, 0, none⟩ 1 cc2 (Q.map sV) rfl (by rw [List.length_map, hcn]) ?x1 ?x2 ?x3 ?x4 ?x5 ?_))
      case x1 => intro j u hu; rw [add_off, Nat.zero_add]; exact f2 j u hu
      case x2 => intro u hu; obtain ⟨q, _, rfl⟩ := List.mem_map.1 hu; rfl
      case x3 => unfold maxLen; omega
      case x4 => omega
      case x5 => omega
      intro v' w5 hown hgrow _
      have HT5 : Hid (Tow w5 w.heap.size v' ((l.take (k + 1)).flatMap Bnc.nm)) := by
        show Tow _ _ _ _
        rw [HF.out]
        unfold Tow
        rw [List.length_append, List.map_append, hcn, hcnt, Nat.min_eq_left (by omega)]
        first | exact hown | (rw [Nat.mul_one]; exact hown)
      have HB5 := Lib.hid ((HB.out.trans (HB3.out.mono hsz)).grown hgrow (by omega) (fun q hq => (HO2.out.lt q hq).1))
      clear hown hgrow HO HB HO2 HB2 HB3 HC
      go_wp2
      go_roundw
      case rel => exact ⟨k + 1, by go_num, by omega, HT5, HB5.out⟩
      case measure => simp [intOf]; omega
    · have hltz : ¬ (k : Int) < (l.length : Int) := by omega
      obtain rfl : k = l.length := by omega
      rw [List.take_length] at HO
      go_wp2_with fail
      go_ret
      exact ⟨⟨_, rfl, HO.out⟩, HB.out⟩

set_option maxRecDepth 100000 in
set_option maxHeartbeats 4000000 in
theorem mapped_status (A : Option Addr) (c : Nat) (l : List Bxp) (m : Int) (w : World) (hB : Bos w A l) (hl : ∀ p ∈ l, p.1.length < 4294967281 ∧ p.2.length < 4294967281 ∧ Adr.mayB p.1 p.2 = true) (hn : l.length ≤ 1000000) (hm : w.cell? ⟨3, 0, none⟩ = some (.int .i64 m)) :
    Calls Tryz.prog 37 #[.slice A l.length c, .func (.func 39) #[] #[]] w fun e w' => (∃ v, e = .returned v ∧ Tow w' w.heap.size v (l.flatMap Bnc.stl)) ∧ Below w.heap.size w w' := by
  obtain ⟨i0, hi0, hz0, hz1, hz2⟩ := info_parts info9
  have HBO := Lib.hid hB
  have HL := Lib.hid hl
  have HM := Lib.hid hm
  have HO0 : Hid (Tow w w.heap.size (.slice none 0 0) ((l.take 0).flatMap Bnc.stl)) := ⟨rfl, Or.inl ⟨rfl, rfl⟩⟩
  have HB0 : Hid (Below w.heap.size w w) := Below.refl _ _
  clear hB hl hm
  go_enter Tryz.func37, Tryz.ntmps37
  go_wp2_with fail
  go_loopw [10, 5] (fun u v wr => ∃ k : Nat, u = .int .i64 k ∧ k ≤ l.length ∧ Hid (Tow wr w.heap.size v ((l.take k).flatMap Bnc.stl)) ∧ Hid (Below w.heap.size w wr)) (fun u _ _ => l.length - (intOf u).toNat)
  case atStart => exact ⟨0, rfl, by omega, HO0, HB0⟩
  case round =>
    clear HO0 HB0
    obtain ⟨k, rfl, hk, HO, HB⟩ := hrel
    by_cases hlt : k < l.length
    · have hltz : (k : Int) < (l.length : Int) := by omega
      have HB2 := Lib.hid (bos_below HBO.out HB.out)
      obtain ⟨b, off, rfl, t0, t1⟩ := HB2.out k hlt
      have hsz := HB.out.size
      obtain ⟨h1, h2, h3⟩ := HL.out l[k] (List.getElem_mem hlt)
      have HF := Lib.hid (take_flat l Bnc.stl k hlt)
      have hcnt : ((l.take k).flatMap Bnc.stl).length = (l.take k).length * 4 := flat_cnt _ _ 4 (fun _ => rfl)
      rw [List.length_take] at hcnt
      have hm1 : (wr.alloc (.cells #[.string ⟨l[k].1.toArray⟩, .string ⟨l[k].2.toArray⟩] 54)).cell? ⟨3, 0, none⟩ = some (.int .i64 m) := (at_alloc (by rw [HB.out.cell (World.block_lt_of_cell? _ _ HM.out)]; exact HM.out) _).cell
      have HC := Lib.hid (status_any l[k] m (wr.alloc (.cells #[.string ⟨l[k].1.toArray⟩, .string ⟨l[k].2.toArray⟩] 54)) h1 h2 hm1 h3)
      obtain ⟨c1, c2⟩ := cell_two wr (.string ⟨l[k].1.toArray⟩) (.string ⟨l[k].2.toArray⟩) 54
      have hb1 : Hid (Below wr.heap.size wr (wr.alloc (.cells #[.string ⟨l[k].1.toArray⟩, .string ⟨l[k].2.toArray⟩] 54))) := (Below.refl _ _).alloc (Nat.le_refl _) _
      have hcn : (Bnc.stl l[k]).length = 4 := rfl
      unfold bxV at HC
      clear h1 h2 h3 hm1
      generalize l[k] = p at *
      obtain ⟨x, y⟩ := p
      simp only [] at *
      generalize Bnc.stl (x, y) = Q at *
      go_wp2_with fail
      refine HC.out.mono ?_
      rintro e w2 ⟨⟨v2, rfl, ho⟩, hb⟩
      have hs1 := hb1.out.size
      have HB3 := Lib.hid (hb1.out.trans (hb.mono hs1))
      have hs2 := HB3.out.size
      have HO2 : Hid (Tow w2 w.heap.size u5 ((l.take k).flatMap Bnc.stl)) := tow_below HO.out HB3.out
      obtain ⟨a2, cc2, rfl, hcc, F2⟩ := own_form ho
      obtain ⟨g2, rfl, gl2, f2⟩ := F2 (by omega)
      clear ho hb F2
      rw [hcn]
      go_wp2_with (at_builtin; go_must (refine wpList_append_own _ rfl (.tmp 14) (.tmp 17) 47 rfl w.heap.size 9 i0 (.string ⟨#[]⟩) 1 16 Tryz.underlying47 hi0 hz0 hz1 hz2 rfl (by decide) _ _ _ rfl HO2.out ⟨g2, 0, none⟩ 4 cc2 (Q.map sV) rfl (by rw [List.length_map, hcn]) ?x1 ?x2 ?x3 ?x4 ?x5 ?_))
      case x1 => intro j u hu; rw [add_off, Nat.zero_add]; exact f2 j u hu
      case x2 => intro u hu; obtain ⟨q, _, rfl⟩ := List.mem_map.1 hu; rfl
      case x3 => unfold maxLen; omega
      case x4 => omega
      case x5 => omega
      intro v' w5 hown hgrow _
      have HT5 : Hid (Tow w5 w.heap.size v' ((l.take (k + 1)).flatMap Bnc.stl)) := by
        show Tow _ _ _ _
        rw [HF.out]
        unfold Tow
        rw [List.length_append, List.map_append, hcn, hcnt, Nat.min_eq_left (by omega)]
        first | exact hown | (rw [Nat.mul_one]; exact hown)
      have HB5 := Lib.hid ((HB.out.trans (HB3.out.mono hsz)).grown hgrow (by omega) (fun q hq => (HO2.out.lt q hq).1))
      clear hown hgrow HO HB HO2 HB2 HB3 HC
      go_wp2
      go_roundw
      case rel => exact ⟨k + 1, by go_num, by omega, HT5, HB5.out⟩
      case measure => simp [intOf]; omega
    · have hltz : ¬ (k : Int) < (l.length : Int) := by omega
      obtain rfl : k = l.length := by omega
      rw [List.take_length] at HO
      go_wp2_with fail
      go_ret
      exact ⟨⟨_, rfl, HO.out⟩, HB.out⟩
end Go.Proofs.YtkchebbolldmbaaGreatDoor
