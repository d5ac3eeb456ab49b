/-
  PROVED HERE: what Report of the program computes.
-/
import Derived.Test.YtkchebbolldmbaaGreatDoorBg
set_option linter.unusedVariables false
namespace Bnc
def r0 : List UInt8 := [70, 114, 111, 109, 58, 32, 60, 62]
def t1 : List UInt8 := [84, 111, 58, 32]
def r2 : List UInt8 := [83, 117, 98, 106, 101, 99, 116, 58, 32, 85, 110, 100, 101, 108, 105, 118, 101, 114, 101, 100, 32, 109, 97, 105, 108]
def r3 : List UInt8 := [67, 111, 110, 116, 101, 110, 116, 45, 84, 121, 112, 101, 58, 32, 109, 117, 108, 116, 105, 112, 97, 114, 116, 47, 114, 101, 112, 111, 114, 116, 59, 32, 114, 101, 112, 111, 114, 116, 45, 116, 121, 112, 101, 61, 100, 101, 108, 105, 118, 101, 114, 121, 45, 115, 116, 97, 116, 117, 115, 59, 32, 98, 111, 117, 110, 100, 97, 114, 121, 61, 34, 61, 34]
def r5 : List UInt8 := [45, 45, 61]
def r6 : List UInt8 := [67, 111, 110, 116, 101, 110, 116, 45, 84, 121, 112, 101, 58, 32, 116, 101, 120, 116, 47, 112, 108, 97, 105, 110]
def r8 : List UInt8 := [78, 111, 116, 32, 100, 101, 108, 105, 118, 101, 114, 101, 100, 58]
def s2 : List UInt8 := [67, 111, 110, 116, 101, 110, 116, 45, 84, 121, 112, 101, 58, 32, 109, 101, 115, 115, 97, 103, 101, 47, 100, 101, 108, 105, 118, 101, 114, 121, 45, 115, 116, 97, 116, 117, 115]
def s4 : List UInt8 := [82, 101, 112, 111, 114, 116, 105, 110, 103, 45, 77, 84, 65, 58, 32, 100, 110, 115, 59, 32]
def r9 : List UInt8 := [45, 45, 61, 45, 45]
abbrev Bp := List UInt8 × List UInt8
def sec1 (fl fd : List UInt8) : List (List UInt8) := [r0, t1 ++ (60 :: (Adr.wrt fl fd ++ [62])), r2, r3, [], r5, r6, [], r8]
def sec3 (h : List UInt8) : List (List UInt8) := [r5, s2, [], s4 ++ shw h]
def secs (h fl fd : List UInt8) (l : List Bp) : List (List (List UInt8)) := [sec1 fl fd, l.flatMap nm, sec3 h, l.flatMap stl, [r9]]
def repL (h fl fd : List UInt8) (l : List Bp) : List (List UInt8) := (secs h fl fd l).flatten
def rep (h fl fd : List UInt8) (l : List Bp) : List UInt8 := Lin.joi (repL h fl fd l)
theorem joi_le : ∀ (L : List (List UInt8)) (c : Nat), (∀ x ∈ L, x.length ≤ c) → (Lin.joi L).length ≤ L.length * (c + 2)
  | [], c, _ => by simp [Lin.joi]
  | x :: L, c, h => by
    have h1 := h x (List.mem_cons_self ..)
    have h2 := joi_le L c (fun y hy => h y (List.mem_cons_of_mem _ hy))
    rw [Lin.joi, List.length_append, List.length_append, List.length_cons, Nat.succ_mul]
    have : Lin.E.length = 2 := rfl
    omega
theorem repL_len (h fl fd : List UInt8) (l : List Bp) : (repL h fl fd l).length = 14 + 5 * l.length := by
  have e1 : (l.flatMap nm).length = l.length * 1 := Go.Proofs.YtkchebbolldmbaaGreatDoor.flat_cnt l nm 1 (fun _ => rfl)
  have e2 : (l.flatMap stl).length = l.length * 4 := Go.Proofs.YtkchebbolldmbaaGreatDoor.flat_cnt l stl 4 (fun _ => rfl)
  unfold repL secs
  simp only [List.flatten_cons, List.flatten_nil, List.length_append, e1, e2, List.length_nil]
  show 9 + (l.length * 1 + (4 + (l.length * 4 + (1 + 0)))) = _
  omega
theorem repL_mem (h fl fd : List UInt8) (l : List Bp) (hy : Adr.mayB fl fd = true) (hl : ∀ p ∈ l, Adr.mayB p.1 p.2 = true) : ∀ x ∈ repL h fl fd l, x.length ≤ 500 := by
  intro x hx
  have h1 := Go.Proofs.YtkchebbolldmbaaGreatDoor.wrt_len hy
  have h2 := shw_len2 h
  unfold repL secs at hx
  simp only [List.flatten_cons, List.flatten_nil, List.mem_append, List.not_mem_nil, or_false] at hx
  rcases hx with hx | hx | hx | hx | hx
  · unfold sec1 at hx
    simp only [List.mem_cons, List.not_mem_nil, or_false] at hx
    rcases hx with rfl | rfl | rfl | rfl | rfl | rfl | rfl | rfl | rfl
    · decide
    · simp only [List.length_append, List.length_cons, List.length_nil]
      have : t1.length = 4 := rfl
      omega
    all_goals decide
  · obtain ⟨p, hp, hq⟩ := List.mem_flatMap.1 hx
    have h3 := Go.Proofs.YtkchebbolldmbaaGreatDoor.wrt_len (hl p hp)
    unfold nm at hq
    simp only [List.mem_cons, List.not_mem_nil, or_false] at hq
    rw [hq]
    simp only [List.length_append, List.length_cons, List.length_nil]
    omega
  · unfold sec3 at hx
    simp only [List.mem_cons, List.not_mem_nil, or_false] at hx
    rcases hx with rfl | rfl | rfl | rfl
    · decide
    · decide
    · decide
    · rw [List.length_append]
      have : s4.length = 20 := rfl
      omega
  · obtain ⟨p, hp, hq⟩ := List.mem_flatMap.1 hx
    have h3 := Go.Proofs.YtkchebbolldmbaaGreatDoor.wrt_len (hl p hp)
    unfold stl at hq
    simp only [List.mem_cons, List.not_mem_nil, or_false] at hq
    rcases hq with rfl | rfl | rfl | rfl
    · decide
    · rw [List.length_append]
      have : fin.length = 25 := rfl
      omega
    · decide
    · decide
  · simp only [List.mem_cons, List.not_mem_nil, or_false] at hx
    rw [hx]
    decide
end Bnc
namespace Go.Proofs.YtkchebbolldmbaaGreatDoor
open Go.RowKit
/-- What Report answers. -/
def repV (h fl fd : List UInt8) (l : List Bxp) : Value :=
  if (fl = [] ∧ fd = []) ∨ l = [] then .tuple #[.string ⟨#[]⟩, .int .i64 10]
  else if Adr.mayB fl fd = true ∧ l.any bad = false then .tuple #[sV (Bnc.rep h fl fd l), .int .i64 0]
  else .tuple #[.string ⟨#[]⟩, .int .i64 2]
theorem any_may {l : List Bxp} (h : l.any bad = false) : ∀ p ∈ l, Adr.mayB p.1 p.2 = true := fun p hp => by
  have h2 : bad p = false := by
    cases hb : bad p with
    | false => rfl
    | true => rw [List.any_eq_true.2 ⟨p, hp, hb⟩] at h; cases h
  unfold bad at h2
  simpa using h2
theorem tow_mono {W : World} {base b2 : Nat} {v : Value} {l : List (List UInt8)} (h : Tow W base v l) (g : b2 ≤ base) : Tow W b2 v l := by
  refine ⟨h.1, ?_⟩
  rcases h.2 with e | ⟨q, cc, cu, e, h1, h2, h3⟩
  · exact Or.inl e
  · exact Or.inr ⟨q, cc, cu, e, Nat.le_trans g h1, h2, h3⟩
theorem tow_row {W : World} {base : Nat} {v : Value} {L : List (List UInt8)} (h : Tow W base v L) (h0 : 0 < L.length) : ∃ g c, v = .slice (some ⟨g, 0, none⟩) L.length c ∧ ∀ j u, (L.map sV)[j]? = some u → W.cell? ⟨g, j, none⟩ = some u := by
  obtain ⟨a, c, e, hle, F⟩ := own_form h
  obtain ⟨g, rfl, _, f⟩ := F h0
  exact ⟨g, c, e, f⟩
theorem fls_mem {g : Nat → To3} {n : Nat} {p : Bxp} (h : p ∈ fls g n) : ∃ k, k < n ∧ p = ((g k).lo, (g k).dm) := by
  unfold fls at h
  obtain ⟨k, hk, rfl⟩ := List.mem_map.1 h
  exact ⟨k, List.mem_range.1 (List.mem_filter.1 hk).1, rfl⟩

set_option maxRecDepth 100000 in
set_option maxHeartbeats 8000000 in
theorem report_any (host : ByteArray) (x : En) (g : Nat → To3) (m : Int) (w : World) (hT : Tos w x.A x.n g) (hn : x.n ≤ 1000) (hfl : x.fl.length < 4294967281) (hfd : x.fd.length < 4294967281) (hto : ∀ k, k < x.n → (g k).lo.length < 4294967281 ∧ (g k).dm.length < 4294967281) (hh : host.size < 4611686018427387904) (hm : w.cell? ⟨3, 0, none⟩ = some (.int .i64 m)) :
    Calls Tryz.prog 12 #[.string host, .agg (enA x)] w fun e w' => e = .returned (repV host.data.toList x.fl x.fd (fls g x.n)) ∧ Below w.heap.size w w' := by
  have HL0 : Hid (∀ p ∈ fls g x.n, p.1.length < 4294967281 ∧ p.2.length < 4294967281) := fun p hp => by
    obtain ⟨k, hk, rfl⟩ := fls_mem hp
    exact hto k hk
  have hln := fls_len g x.n
  have hb0 : Hid (Below w.heap.size w (w.alloc (.cells (enA x) 32))) := (Below.refl _ _).alloc (Nat.le_refl _) _
  have HF := Lib.hid (failed_any x g (w.alloc (.cells (enA x) 32)) (tos_below hT hb0.out) (by omega))
  have HM := Lib.hid hm
  have cc : ∀ j u, (enA x)[j]? = some u → (w.alloc (.cells (enA x) 32)).cell? ⟨w.heap.size, j, none⟩ = some u := fun j u hu => by rw [World.cell?_alloc_new]; exact hu
  have c0 := cc 0 _ rfl
  have c1 := cc 1 _ rfl
  have c2 := cc 2 _ rfl
  have c3 := cc 3 _ rfl
  have c4 := cc 4 _ rfl
  have c5 := cc 5 _ rfl
  have c6 := cc 6 _ rfl
  have c7 := cc 7 _ rfl
  have c8 := cc 8 _ rfl
  have c9 := cc 9 _ rfl
  have HEQ := Lib.hid eql24
  have HGU := Lib.hid gua24
  clear cc hT hto hm
  obtain ⟨id, dom, ep, ct, fl, fd, A, n, c, born, next, tries⟩ := x
  unfold enA at *
  simp only [] at *
  generalize fls g n = l at *
  have HR : Hid (repV host.data.toList fl fd l = if (fl = [] ∧ fd = []) ∨ l = [] then .tuple #[.string ⟨#[]⟩, .int .i64 10] else if Adr.mayB fl fd = true ∧ l.any bad = false then .tuple #[sV (Bnc.rep host.data.toList fl fd l), .int .i64 0] else .tuple #[.string ⟨#[]⟩, .int .i64 2]) := rfl
  generalize repV host.data.toList fl fd l = R at *
  go_enter Tryz.func12, Tryz.ntmps12
  go_wp2_with fail
  refine HF.out.mono ?_
  rintro e w1 ⟨⟨v, rfl, ho⟩, hb1⟩
  obtain ⟨A1, cp, rfl, hbo⟩ := bow_bos ho
  have HB1 := Lib.hid (hb0.out.trans (hb1.mono hb0.out.size))
  have HBO := Lib.hid hbo
  have hk1 : ∀ j u, (w.alloc (.cells #[.int .u64 id, .string ⟨dom.toArray⟩, .int .u64 ep, .int .u64 ct, .string ⟨fl.toArray⟩, .string ⟨fd.toArray⟩, .slice A n c, .int .u64 born, .int .u64 next, .int .i64 tries] 32)).cell? ⟨w.heap.size, j, none⟩ = some u → w1.cell? ⟨w.heap.size, j, none⟩ = some u := fun j u hu => by rw [hb1.cell (World.block_lt_of_cell? _ _ hu)]; exact hu
  have d4 := hk1 _ _ c4
  have d5 := hk1 _ _ c5
  clear hk1 ho hb1 hbo hb0 HF c0 c1 c2 c3 c4 c5 c6 c7 c8 c9
  obtain ⟨bE, hbE⟩ : ∃ bE, bE = decide (fl = [] ∧ fd = []) := ⟨_, rfl⟩
  have ev : ∀ W, (binOp .eql 29 (.agg #[.string ⟨fl.toArray⟩, .string ⟨fd.toArray⟩]) (.agg #[.string ⟨#[]⟩, .string ⟨#[]⟩])).run Tryz.prog W = .ok (.bool bE) W := fun W => by
    rw [HEQ.out, hbE]
    have e1 : ((⟨fl.toArray⟩ : ByteArray).toList == (⟨#[]⟩ : ByteArray).toList) = decide (fl = []) := (str_beq fl []).trans (by rw [Bool.eq_iff_iff]; simp)
    have e2 : ((⟨fd.toArray⟩ : ByteArray).toList == (⟨#[]⟩ : ByteArray).toList) = decide (fd = []) := (str_beq fd []).trans (by rw [Bool.eq_iff_iff]; simp)
    rw [e1, e2, Bool.decide_and]
  have gv := HGU.out
  by_cases h1 : (fl = [] ∧ fd = []) ∨ l = []
  · have HR2 : Hid (R = .tuple #[.string ⟨#[]⟩, .int .i64 10]) := by show _ = _; rw [HR.out, if_pos h1]
    clear HR
    by_cases h2 : fl = [] ∧ fd = []
    · rw [decide_eq_true h2] at hbE
      subst hbE
      clear h1 h2
      go_wp2_with fail
      go_ret2
      exact ⟨by rw [HR2.out]; rfl, HB1.out⟩
    · rw [decide_eq_false h2] at hbE
      subst hbE
      have hle : l = [] := h1.resolve_left h2
      subst hle
      clear h1 h2
      go_wp2_with fail
      go_ret2
      exact ⟨by rw [HR2.out]; rfl, HB1.out⟩
  rw [if_neg h1] at HR
  have h2 : ¬ (fl = [] ∧ fd = []) := fun e => h1 (Or.inl e)
  have h3 : 0 < l.length := List.length_pos_iff.2 (fun e => h1 (Or.inr e))
  rw [decide_eq_false h2] at hbE
  subst hbE
  have hl0 : ((l.length : Int) == 0) = false := beq_false_of_ne (by omega)
  have H2 := Lib.hid h2
  clear h1 h2
  go_wp2_with fail
  refine (mailbox_any fl fd _).mono ?_
  rintro e w2 ⟨rfl, hb2⟩
  have hs1 := HB1.out.size
  have HB2 := Lib.hid (HB1.out.trans (hb2.mono hs1))
  have HP := path_any fl fd m w2 hfl hfd (by rw [HB2.out.cell (World.block_lt_of_cell? _ _ HM.out)]; exact HM.out)
  have hpv : pathV fl fd = if Adr.mayB fl fd = true then .tuple #[sV (60 :: (Adr.wrt fl fd ++ [62])), .int .i64 0] else .tuple #[.string ⟨#[]⟩, .int .i64 2] := by unfold pathV; rw [if_neg H2.out]
  rw [hpv] at HP
  have HBO2 := Lib.hid (bos_below HBO.out hb2)
  clear hpv ev gv hb2
  cases hy : Adr.mayB fl fd with
  | false =>
    rw [hy, if_neg Bool.false_ne_true] at HP
    have HR2 : Hid (R = .tuple #[.string ⟨#[]⟩, .int .i64 2]) := by show _ = _; rw [HR.out, if_neg (fun h => by rw [hy] at h; exact Bool.noConfusion h.1)]
    have HPP := Lib.hid HP
    clear HR HP
    unfold bxV at *
    go_wp2_with fail
    refine HPP.out.mono ?_
    rintro e w3 ⟨rfl, hb3⟩
    have HB3 := Lib.hid (HB2.out.trans (hb3.mono HB2.out.size))
    clear hb3
    go_wp2_with fail
    go_ret2
    exact ⟨by rw [HR2.out]; rfl, HB3.out⟩
  | true =>
  rw [hy, if_pos rfl] at HP
  have HPP := Lib.hid HP
  clear HP
  unfold bxV at *
  go_wp2_with fail
  refine HPP.out.mono ?_
  rintro e w3 ⟨rfl, hb3⟩
  have HB3 := Lib.hid (HB2.out.trans (hb3.mono HB2.out.size))
  have HBO3 := Lib.hid (bos_below HBO2.out hb3)
  have HC := Lib.hid (contains_bad A1 cp l m w3 HBO3.out HL0.out (by omega) (by rw [HB3.out.cell (World.block_lt_of_cell? _ _ HM.out)]; exact HM.out))
  clear hb3 HPP HBO HBO2
  go_wp2_with fail
  refine HC.out.mono ?_
  rintro e w4 ⟨rfl, hb4⟩
  have HB4 := Lib.hid (HB3.out.trans (hb4.mono HB3.out.size))
  have HBO4 := Lib.hid (bos_below HBO3.out hb4)
  clear hb4 HC HBO3
  cases hany : l.any bad with
  | true =>
    have HR2 : Hid (R = .tuple #[.string ⟨#[]⟩, .int .i64 2]) := by show _ = _; rw [HR.out, if_neg (fun h => by rw [hany] at h; exact Bool.noConfusion h.2)]
    clear HR
    go_wp2_with fail
    go_ret2
    exact ⟨by rw [HR2.out]; rfl, HB4.out⟩
  | false =>
  have HR2 : Hid (R = .tuple #[sV (Bnc.rep host.data.toList fl fd l), .int .i64 0]) := by show _ = _; rw [HR.out, if_pos ⟨hy, hany⟩]
  have HAM := Lib.hid (any_may hany)
  have hJ := Bnc.joi_le (Bnc.repL host.data.toList fl fd l) 500 (Bnc.repL_mem host.data.toList fl fd l hy HAM.out)
  rw [Bnc.repL_len] at hJ
  have hs4 := HB4.out.size
  have hk2 := Bnc.shw_len2 host.data.toList
  have hSH := Lib.hid (shown_any host · hh)
  have hPl : (60 :: (Adr.wrt fl fd ++ [62])).length ≤ 402 := by
    have := wrt_len hy
    simp only [List.length_cons, List.length_append, List.length_nil]
    omega
  have e2 : (l.flatMap Bnc.nm).length = l.length * 1 := flat_cnt l Bnc.nm 1 (fun _ => rfl)
  have e4 : (l.flatMap Bnc.stl).length = l.length * 4 := flat_cnt l Bnc.stl 4 (fun _ => rfl)
  have HS1 : Hid (Bnc.sec1 fl fd = [Bnc.r0, Bnc.t1 ++ (60 :: (Adr.wrt fl fd ++ [62])), Bnc.r2, Bnc.r3, [], Bnc.r5, Bnc.r6, [], Bnc.r8]) := rfl
  have HS3 : Hid (Bnc.sec3 host.data.toList = [Bnc.r5, Bnc.s2, [], Bnc.s4 ++ Bnc.shw host.data.toList]) := rfl
  have HREP : Hid (Bnc.rep host.data.toList fl fd l = Lin.joi ([Bnc.sec1 fl fd, l.flatMap Bnc.nm, Bnc.sec3 host.data.toList, l.flatMap Bnc.stl, [Bnc.r9]].flatten)) := rfl
  have HRL : Hid (Bnc.repL host.data.toList fl fd l = [Bnc.sec1 fl fd, l.flatMap Bnc.nm, Bnc.sec3 host.data.toList, l.flatMap Bnc.stl, [Bnc.r9]].flatten) := rfl
  have hfl5 := Bnc.repL_len host.data.toList fl fd l
  have HMN := Lib.hid (mapped_named A1 cp l m)
  have HMS := Lib.hid (mapped_status A1 cp l m)
  rw [HRL.out] at hJ hfl5
  have hl1 : (Bnc.sec1 fl fd).length = 9 := rfl
  have hl3 : (Bnc.sec3 host.data.toList).length = 4 := rfl
  generalize 60 :: (Adr.wrt fl fd ++ [62]) = P at *
  generalize Bnc.sec1 fl fd = S1 at *
  generalize Bnc.sec3 host.data.toList = S3 at *
  generalize Bnc.shw host.data.toList = sh at *
  generalize l.flatMap Bnc.nm = S2 at *
  generalize l.flatMap Bnc.stl = S4 at *
  generalize Bnc.rep host.data.toList fl fd l = rp at *
  clear HR hany HRL
  unfold sV
  go_wp2_with fail
  generalize hW5 : World.alloc w4 _ = W5
  have T1 : Hid (Tow W5 w.heap.size (.slice (some ⟨w4.heap.size, 0, none⟩) 9 9) S1) := by
    show Tow _ _ _ _
    have eP : (⟨#[84, 111, 58, 32]⟩ : ByteArray) ++ ⟨P.toArray⟩ = ⟨(Bnc.t1 ++ P).toArray⟩ := mk_append Bnc.t1 P
    rw [← hW5, eP, HS1.out]
    exact World.ownsRow_lit w4 (([Bnc.r0, Bnc.t1 ++ P, Bnc.r2, Bnc.r3, [], Bnc.r5, Bnc.r6, [], Bnc.r8].map sV).toArray) 9 hs4 (by unfold maxLen; omega) rfl
  have HB5 : Hid (Below w4.heap.size w4 W5) := by
    show Below _ _ _
    rw [← hW5]
    exact (Below.refl _ _).alloc (Nat.le_refl _) _
  have HBO5 := Lib.hid (bos_below HBO4.out HB5.out)
  have HB5w := Lib.hid (HB4.out.trans (HB5.out.mono hs4))
  have hs5 := HB5w.out.size
  clear hW5 HBO4 HB5
  refine (HMN.out W5 HBO5.out (fun p hp => ⟨(HL0.out p hp).1, (HL0.out p hp).2, HAM.out p hp⟩) (by omega) (by rw [HB5w.out.cell (World.block_lt_of_cell? _ _ HM.out)]; exact HM.out)).mono ?_
  rintro e w6 ⟨⟨v6, rfl, ho6⟩, hb6⟩
  have T1a := Lib.hid (tow_below T1.out hb6)
  have T2 := Lib.hid (tow_mono ho6 hs5)
  have HBO6 := Lib.hid (bos_below HBO5.out hb6)
  have HB6 := Lib.hid (HB5w.out.trans (hb6.mono hs5))
  have hs6 := HB6.out.size
  clear ho6 hb6 T1 HBO5 HB5w
  go_wp2_with fail
  refine (hSH.out w6).mono ?_
  rintro e w7 ⟨rfl, hb7⟩
  have T1b := Lib.hid (tow_below T1a.out hb7)
  have T2b := Lib.hid (tow_below T2.out hb7)
  have HBO7 := Lib.hid (bos_below HBO6.out hb7)
  have HB7 := Lib.hid (HB6.out.trans (hb7.mono hs6))
  have hs7 := HB7.out.size
  clear hb7 T1a T2 HBO6 HB6
  go_wp2_with fail
  generalize hW8 : World.alloc w7 _ = W8
  have T3 : Hid (Tow W8 w.heap.size (.slice (some ⟨w7.heap.size, 0, none⟩) 4 4) S3) := by
    show Tow _ _ _ _
    have eP : (⟨#[82, 101, 112, 111, 114, 116, 105, 110, 103, 45, 77, 84, 65, 58, 32, 100, 110, 115, 59, 32]⟩ : ByteArray) ++ ⟨sh.toArray⟩ = ⟨(Bnc.s4 ++ sh).toArray⟩ := mk_append Bnc.s4 sh
    rw [← hW8, eP, HS3.out]
    exact World.ownsRow_lit w7 (([Bnc.r5, Bnc.s2, [], Bnc.s4 ++ sh].map sV).toArray) 4 hs7 (by unfold maxLen; omega) rfl
  have HB8 : Hid (Below w7.heap.size w7 W8) := by
    show Below _ _ _
    rw [← hW8]
    exact (Below.refl _ _).alloc (Nat.le_refl _) _
  have HBO8 := Lib.hid (bos_below HBO7.out HB8.out)
  have HB8w := Lib.hid (HB7.out.trans (HB8.out.mono hs7))
  have T1c := Lib.hid (tow_below T1b.out HB8.out)
  have T2c := Lib.hid (tow_below T2b.out HB8.out)
  have hs8 := HB8w.out.size
  clear hW8 HBO7 HB8 T1b T2b
  refine (HMS.out W8 HBO8.out (fun p hp => ⟨(HL0.out p hp).1, (HL0.out p hp).2, HAM.out p hp⟩) (by omega) (by rw [HB8w.out.cell (World.block_lt_of_cell? _ _ HM.out)]; exact HM.out)).mono ?_
  rintro e w9 ⟨⟨v9, rfl, ho9⟩, hb9⟩
  have T4 := Lib.hid (tow_mono ho9 hs8)
  have T1d := Lib.hid (tow_below T1c.out hb9)
  have T2d := Lib.hid (tow_below T2c.out hb9)
  have T3d := Lib.hid (tow_below T3.out hb9)
  have HB9 := Lib.hid (HB8w.out.trans (hb9.mono hs8))
  have hs9 := HB9.out.size
  clear ho9 hb9 T1c T2c T3 HBO8 HB8w
  obtain ⟨g2, q2, rfl, f2⟩ := tow_row T2d.out (by omega)
  obtain ⟨g4, q4, rfl, f4⟩ := tow_row T4.out (by omega)
  obtain ⟨g1, q1, ev1, f1⟩ := tow_row T1d.out (by omega)
  obtain ⟨g3, q3, ev3, f3⟩ := tow_row T3d.out (by omega)
  have F1 := Lib.hid f1
  have F2 := Lib.hid f2
  have F3 := Lib.hid f3
  have F4 := Lib.hid f4
  have EV1 := Lib.hid ev1
  have EV3 := Lib.hid ev3
  clear f1 f2 f3 f4 ev1 ev3 T1d T2d T3d T4
  go_wp2_with fail
  generalize hW11 : World.alloc (World.alloc w9 _) _ = W11
  have HB11 : Hid (Below w9.heap.size w9 W11) := by
    show Below _ _ _
    rw [← hW11]
    exact ((Below.refl _ _).alloc (Nat.le_refl _) _).alloc (by simp only [World.size_alloc]; omega) _
  have key : ∀ (g j : Nat) (u : Value), w9.cell? ⟨g, j, none⟩ = some u → W11.cell? ⟨g, j, none⟩ = some u := fun g j u hu => by rw [HB11.out.cell (World.block_lt_of_cell? _ _ hu)]; exact hu
  have row : ∀ (k : Nat) (u : Value), (#[.slice (some ⟨w4.heap.size, 0, none⟩) 9 9, .slice (some ⟨g2, 0, none⟩) l.length q2, .slice (some ⟨w7.heap.size, 0, none⟩) 4 4, .slice (some ⟨g4, 0, none⟩) (l.length * 4) q4, .slice (some ⟨w9.heap.size, 0, none⟩) 1 1] : Array Value)[k]? = some u → W11.cell? ⟨w9.heap.size + 1, 0 + k, none⟩ = some u := fun k u hu => by
    rw [← hW11, Nat.zero_add]
    have e : w9.heap.size + 1 = (w9.alloc (.cells #[.string ⟨#[45, 45, 61, 45, 45]⟩] 9)).heap.size := by simp
    rw [e, World.cell?_alloc_new]
    exact hu
  have last : W11.cell? ⟨w9.heap.size, 0, none⟩ = some (sV Bnc.r9) := by
    rw [← hW11]
    have e := ((Below.refl (w9.alloc (.cells #[.string ⟨#[45, 45, 61, 45, 45]⟩] 9)).heap.size (w9.alloc (.cells #[.string ⟨#[45, 45, 61, 45, 45]⟩] 9))).alloc (Nat.le_refl _) (.cells #[.slice (some ⟨w4.heap.size, 0, none⟩) 9 9, .slice (some ⟨g2, 0, none⟩) l.length q2, .slice (some ⟨w7.heap.size, 0, none⟩) 4 4, .slice (some ⟨g4, 0, none⟩) (l.length * 4) q4, .slice (some ⟨w9.heap.size, 0, none⟩) 1 1] 47)).cell (p := ⟨w9.heap.size, 0, none⟩) (by simp)
    rw [e, World.cell?_alloc_new]
    rfl
  have E1 := EV1.out
  have E3 := EV3.out
  have HRW : Hid (Rws W11 (some ⟨w9.heap.size + 1, 0, none⟩) [S1, S2, S3, S4, [Bnc.r9]]) := by
    intro k hk
    match k, hk with
    | 0, _ => exact ⟨_, 0, g1, q1, rfl, (row 0 _ rfl).trans (congrArg some E1), fun j u hu => key _ _ _ (F1.out j u hu)⟩
    | 1, _ => exact ⟨_, 0, g2, q2, rfl, (row 1 _ rfl).trans (congrArg (fun z : Nat => some (Value.slice (some ⟨g2, 0, none⟩) z q2)) (show l.length = S2.length by omega)), fun j u hu => key _ _ _ (F2.out j u hu)⟩
    | 2, _ => exact ⟨_, 0, g3, q3, rfl, (row 2 _ rfl).trans (congrArg some E3), fun j u hu => key _ _ _ (F3.out j u hu)⟩
    | 3, _ => exact ⟨_, 0, g4, q4, rfl, (row 3 _ rfl).trans (congrArg (fun z : Nat => some (Value.slice (some ⟨g4, 0, none⟩) z q4)) (show l.length * 4 = S4.length by omega)), fun j u hu => key _ _ _ (F4.out j u hu)⟩
    | 4, _ => exact ⟨_, 0, w9.heap.size, 1, rfl, row 4 _ rfl, fun j u hu => by
        cases j with
        | zero => cases hu; exact last
        | succ j => cases hu⟩
  have HB11w := Lib.hid (HB9.out.trans (HB11.out.mono hs9))
  have hs11 := HB11w.out.size
  have HCC := Lib.hid (concat_any (some ⟨w9.heap.size + 1, 0, none⟩) 5 [S1, S2, S3, S4, [Bnc.r9]] W11 HRW.out (by show 5 ≤ 1000; omega) (by omega) (by omega))
  clear hW11 key row last E1 E3 EV1 EV3 F1 F2 F3 F4 HRW HB11 HB9
  generalize [S1, S2, S3, S4, [Bnc.r9]].flatten = L at *
  refine HCC.out.mono ?_
  rintro e w12 ⟨⟨v12, rfl, ho⟩, hb⟩
  obtain ⟨A12, c12, rfl, _, ht⟩ := tow_txs ho
  have HB12 := Lib.hid (HB11w.out.trans (hb.mono hs11))
  have HJ := Lib.hid (join_any A12 c12 L.length L w12 rfl ht (by omega) (by omega))
  clear ho hb ht HCC
  rw [← HREP.out] at HJ
  clear hJ hfl5 e2 e4 hl1 hl3 hPl hk2 HREP HAM HL0 hSH HMN HMS
  go_wp2_with fail
  refine HJ.out.mono ?_
  rintro e w13 ⟨rfl, hb⟩
  have HB13 := Lib.hid (HB12.out.trans (hb.mono HB12.out.size))
  clear hb HJ
  unfold sV at HR2
  go_wp2_with fail
  go_ret2
  refine ⟨?_, HB13.out⟩
  rw [HR2.out]
  exact congrArg Ending.returned (congrArg Value.tuple rfl)
end Go.Proofs.YtkchebbolldmbaaGreatDoor
