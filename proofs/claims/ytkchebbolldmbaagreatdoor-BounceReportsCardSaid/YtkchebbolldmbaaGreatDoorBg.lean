/-
  PROVED HERE: boxes held against each other; what slices.ContainsFunc (with Report's closure) and Entry of the program compute.
-/
import Derived.Test.YtkchebbolldmbaaGreatDoorBf
set_option linter.unusedVariables false
namespace Go.Proofs.YtkchebbolldmbaaGreatDoor
open Go.RowKit
theorem held24 : Tryz.prog.stoodInHeld 29 = false := by kernel_rfl
theorem guard24 : Tryz.prog.eqGuardType Tryz.prog.depth 29 = false := by kernel_rfl
theorem eq24 (a b c d : ByteArray) (w : World) (k : Nat) : (Op.equalIn (k + 2) 29 (.agg #[.string a, .string b]) (.agg #[.string c, .string d])).run Tryz.prog w = .ok ((a.toList == c.toList) && (b.toList == d.toList)) w := by
  rw [run_equalIn_struct w (k + 1) 29 _ _ (by simp [Program.fieldsOf, Tryz.underlying29]) held24]
  simp [Program.fieldsOf, Tryz.underlying29, Op.eqFields, go_sem]
  by_cases h1 : a.toList = c.toList <;> by_cases h2 : b.toList = d.toList <;> simp [h1, h2]
theorem eql24 (a b c d : ByteArray) (w : World) : (binOp .eql 29 (.agg #[.string a, .string b]) (.agg #[.string c, .string d])).run Tryz.prog w = .ok (.bool ((a.toList == c.toList) && (b.toList == d.toList))) w := by
  rw [run_eql_struct, eq24 a b c d w 9998]; rfl
theorem neq24 (a b c d : ByteArray) (w : World) : (binOp .neq 29 (.agg #[.string a, .string b]) (.agg #[.string c, .string d])).run Tryz.prog w = .ok (.bool (!((a.toList == c.toList) && (b.toList == d.toList)))) w := by
  rw [run_neq_struct, eq24 a b c d w 9998]; rfl
theorem gua24 (op : BinOp) (x y : Operand) (xs ys : Array Value) (w : World) : (eqGuard op 29 x y (.agg xs) (.agg ys)).run Tryz.prog w = .ok () w := run_eqGuard_agg w op 29 x y xs ys guard24
/-- May it not be? -/
def bad (p : Bxp) : Bool := !Adr.mayB p.1 p.2

set_option maxRecDepth 100000 in
set_option maxHeartbeats 2000000 in
theorem bad_any (p : Bxp) (m : Int) (w : World) (hl : p.1.length < 4294967281) (hd : p.2.length < 4294967281) (hm : w.cell? ⟨3, 0, none⟩ = some (.int .i64 m)) :
    Calls Tryz.prog 33 #[bxV p.1 p.2] w fun e w' => e = .returned (.bool (bad p)) ∧ Below w.heap.size w w' := by
  obtain ⟨l, d⟩ := p
  have HA := at_alloc hm (.cells #[.string ⟨l.toArray⟩, .string ⟨d.toArray⟩] 54)
  have HP := Lib.hid (may_any l d m (w.alloc (.cells #[.string ⟨l.toArray⟩, .string ⟨d.toArray⟩] 54)) hl hd HA.cell)
  have HV : Hid (bad (l, d) = !Adr.mayB l d) := rfl
  generalize bad (l, d) = r at *
  generalize Adr.mayB l d = b at *
  obtain ⟨c1, c2⟩ := cell_two w (.string ⟨l.toArray⟩) (.string ⟨d.toArray⟩) 54
  have hb0 : Hid (Below w.heap.size w (w.alloc (.cells #[.string ⟨l.toArray⟩, .string ⟨d.toArray⟩] 54))) := (Below.refl _ _).alloc (Nat.le_refl _) _
  clear hm HA
  unfold bxV at *
  go_enter Tryz.func33, Tryz.ntmps33
  go_wp2_with fail
  refine HP.out.mono ?_
  rintro e w1 ⟨rfl, hb⟩
  have HB := Lib.hid (hb0.out.trans (hb.mono hb0.out.size))
  clear hb
  go_wp2_with fail
  go_ret
  exact ⟨by rw [HV.out]; rfl, HB.out⟩
theorem any_more {l : List Bxp} {k : Nat} (hk : k < l.length) (h : (l.take k).any bad = false) (h2 : bad l[k] = false) : (l.take (k + 1)).any bad = false := by
  rw [List.take_succ_eq_append_getElem hk, List.any_append, h, List.any_cons, h2]; rfl
theorem any_hit {l : List Bxp} {k : Nat} (hk : k < l.length) (h2 : bad l[k] = true) : l.any bad = true := List.any_eq_true.2 ⟨_, List.getElem_mem hk, h2⟩

set_option maxRecDepth 100000 in
set_option maxHeartbeats 4000000 in
theorem index_bad (A : Option Addr) (c : Nat) (l : List Bxp) (m : Int) (w : World) (hB : Bos w A l) (hl : ∀ p ∈ l, p.1.length < 4294967281 ∧ p.2.length < 4294967281) (hn : l.length ≤ 1000000) (hm : w.cell? ⟨3, 0, none⟩ = some (.int .i64 m)) :
    Calls Tryz.prog 55 #[.slice A l.length c, .func (.func 33) #[] #[]] w fun e w' => (∃ k : Int, e = .returned (.int .i64 k) ∧ decide (0 ≤ k) = l.any bad) ∧ Below w.heap.size w w' := by
  have HBO := Lib.hid hB
  have HL := Lib.hid hl
  have HM := Lib.hid hm
  have H0 : Hid ((l.take 0).any bad = false) := rfl
  have HB0 : Hid (Below w.heap.size w w) := Below.refl _ _
  clear hB hl hm
  go_enter Tryz.func55, Tryz.ntmps55
  go_wp2_with fail
  go_loopw [8] (fun u wr => ∃ k : Nat, u = .int .i64 k ∧ k ≤ l.length ∧ Hid ((l.take k).any bad = false) ∧ Hid (Below w.heap.size w wr)) (fun u _ => l.length - (intOf u).toNat)
  case atStart => exact ⟨0, rfl, by omega, H0, HB0⟩
  case round =>
    clear H0 HB0
    obtain ⟨k, rfl, hk, HK, HB⟩ := hrel
    by_cases hlt : k < l.length
    · have hltz : (k : Int) < (l.length : Int) := by omega
      have HB2 := Lib.hid (bos_below HBO.out HB.out)
      obtain ⟨b, off, rfl, t0, t1⟩ := HB2.out k hlt
      have hsz := HB.out.size
      obtain ⟨h1, h2⟩ := HL.out l[k] (List.getElem_mem hlt)
      have HC := Lib.hid (bad_any l[k] m wr h1 h2 (by rw [HB.out.cell (World.block_lt_of_cell? _ _ HM.out)]; exact HM.out))
      have HMORE := Lib.hid (any_more hlt HK.out)
      have HHIT := Lib.hid (@any_hit l k hlt)
      unfold bxV at HC
      clear h1 h2
      generalize l[k] = p at *
      obtain ⟨x, y⟩ := p
      simp only [] at *
      generalize bad (x, y) = r at *
      go_wp2_with fail
      refine HC.out.mono ?_
      rintro e w2 ⟨rfl, hb⟩
      have HB3 := Lib.hid (HB.out.trans (hb.mono hsz))
      clear hb HC
      cases r with
      | true =>
        have HT := Lib.hid (HHIT.out rfl)
        go_wp2_with fail
        go_ret
        exact ⟨⟨_, rfl, by rw [HT.out]; exact decide_eq_true (by omega)⟩, HB3.out⟩
      | false =>
        have HN := Lib.hid (HMORE.out rfl)
        go_wp2_with fail
        go_roundw
        case rel => exact ⟨k + 1, by go_num, by omega, HN, HB3.out⟩
        case measure => simp [intOf]; omega
    · have hltz : ¬ (k : Int) < (l.length : Int) := by omega
      obtain rfl : k = l.length := by omega
      rw [List.take_length] at HK
      go_wp2_with fail
      go_ret
      exact ⟨⟨_, rfl, by rw [HK.out]; rfl⟩, HB.out⟩

set_option maxRecDepth 100000 in
set_option maxHeartbeats 2000000 in
theorem contains_bad (A : Option Addr) (c : Nat) (l : List Bxp) (m : Int) (w : World) (hB : Bos w A l) (hl : ∀ p ∈ l, p.1.length < 4294967281 ∧ p.2.length < 4294967281) (hn : l.length ≤ 1000000) (hm : w.cell? ⟨3, 0, none⟩ = some (.int .i64 m)) :
    Calls Tryz.prog 32 #[.slice A l.length c, .func (.func 33) #[] #[]] w fun e w' => e = .returned (.bool (l.any bad)) ∧ Below w.heap.size w w' := by
  have HI := Lib.hid (index_bad A c l m w hB hl hn hm)
  generalize l.any bad = r at *
  generalize l.length = n at *
  clear hB hl hm hn
  go_enter Tryz.func32, Tryz.ntmps32
  go_wp2_with fail
  refine HI.out.mono ?_
  rintro e w1 ⟨⟨k, rfl, hk⟩, hb⟩
  have HB := Lib.hid hb
  have HK := Lib.hid hk
  clear hb hk
  go_wp2_with fail
  go_ret
  exact ⟨by rw [← HK.out]; rfl, HB.out⟩
end Go.Proofs.YtkchebbolldmbaaGreatDoor
