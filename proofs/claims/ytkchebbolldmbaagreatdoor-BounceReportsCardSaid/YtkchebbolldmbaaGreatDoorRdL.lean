/-
  PROVED HERE: what local and route of the program's reader of paths compute.
-/
import Derived.Test.YtkchebbolldmbaaGreatDoorRdQ
set_option linter.unusedVariables false
namespace Adr
/-- A byte that must stand next. -/
def tk (c : UInt8) (T : List UInt8) : Option (List UInt8) := if atB c T = true then some T.tail else none
theorem tk_no {c : UInt8} {T : List UInt8} (h : atB c T = false) : tk c T = none := by unfold tk; simp [h]
theorem tk_yes {c : UInt8} {T : List UInt8} (h : atB c T = true) : tk c T = some T.tail := by unfold tk; simp [h]
theorem at_cons {c : UInt8} {T : List UInt8} (h : atB c T = true) : T = c :: T.tail := by
  cases T with
  | nil => cases h
  | cons x r => rw [eq_of_beq h]; rfl
/-- A local part that stands next. -/
def rdL (T : List UInt8) : Option (List UInt8 × List UInt8) :=
  if atB 34 T = true then rdQ T.tail else if plainB (T.takeWhile inL) = true then some (T.takeWhile inL, T.dropWhile inL) else none
def rl : Nat → List UInt8 → Option (List UInt8)
  | 0, _ => none
  | f + 1, T => (tk 64 T).bind fun r => (rdD r).bind fun p => if atB 44 p.2 = true then rl f p.2.tail else tk 58 p.2
theorem rl_fuel : ∀ (f : Nat) (T : List UInt8), T.length < f → rl f T = rl (T.length + 1) T
  | 0, T, h => by omega
  | f + 1, T, h => by
    unfold rl
    cases h1 : tk 64 T with
    | none => rfl
    | some r =>
      simp only [Option.bind_some]
      cases h2 : rdD r with
      | none => rfl
      | some p =>
        simp only [Option.bind_some]
        obtain ⟨x, u⟩ := p
        have hu := rdD_len h2
        have hr : r.length < T.length := by
          unfold tk at h1
          split at h1
          · rename_i h3
            cases h1
            rw [at_cons h3]
            simp
          · cases h1
        split
        · rename_i h3
          have h4 : atB 44 u = true := h3
          have ht : u.tail.length < u.length := by rw [at_cons h4]; simp
          rw [rl_fuel f u.tail (by omega)]
          by_cases hz : T.length = 0
          · omega
          · obtain ⟨n, hn⟩ : ∃ n, T.length = n + 1 := ⟨T.length - 1, by omega⟩
            rw [hn, rl_fuel (n + 1) u.tail (by omega)]
        · rfl
/-- Domains of a route, up to its end. -/
def rdRl (T : List UInt8) : Option (List UInt8) := rl (T.length + 1) T
theorem rdRl_eq (T : List UInt8) : rdRl T = (tk 64 T).bind fun r => (rdD r).bind fun p => if atB 44 p.2 = true then rdRl p.2.tail else tk 58 p.2 := by
  unfold rdRl
  rw [rl]
  cases h1 : tk 64 T with
  | none => rfl
  | some r =>
    simp only [Option.bind_some]
    cases h2 : rdD r with
    | none => rfl
    | some p =>
      simp only [Option.bind_some]
      obtain ⟨x, u⟩ := p
      have hu := rdD_len h2
      have hr : r.length < T.length := by
        unfold tk at h1
        split at h1
        · rename_i h3
          cases h1
          rw [at_cons h3]
          simp
        · cases h1
      split
      · rename_i h3
        have h4 : atB 44 u = true := h3
        have ht : u.tail.length < u.length := by rw [at_cons h4]; simp
        exact rl_fuel _ u.tail (by omega)
      · rfl
/-- A route, if there is one. -/
def rdR (T : List UInt8) : Option (List UInt8) := if atB 64 T = true then rdRl T else some T
end Adr
namespace Go.Proofs.YtkchebbolldmbaaGreatDoor
open Go.RowKit
variable {m : Int} {w wr : World} {b : Nat} {T : List UInt8}
/-- How a method of the reader ends that passes bytes over or panics. -/
def Rt (m : Int) (w : World) (b : Nat) (o : Option (List UInt8)) (e : Ending) (w' : World) : Prop :=
  match o with
  | none => e = .panicked pnc ∧ Av b m w w'
  | some r => e = .returned (.tuple #[]) ∧ Rr m w b w' r
theorem rt_no {o : Option (List UInt8)} {w1 : World} (h : o = none) (g : Av b m w w1) : Rt m w b o (.panicked pnc) w1 := by subst h; exact ⟨rfl, g⟩
theorem rt_yes {o : Option (List UInt8)} {r : List UInt8} {w1 : World} (h : o = some r) (g : Rr m w b w1 r) : Rt m w b o (.returned (.tuple #[])) w1 := by subst h; exact ⟨rfl, g⟩
theorem take_any (h0 : 3 < w.heap.size) (h : Rr m w b wr T) (c : UInt8) (v : Int) (hv : v = (c.toNat : Int)) (q : Bool) (hq : Adr.atB c T = q) :
    Calls Tryz.prog 100 #[.pointer (some ⟨b, 0, none⟩), .int .u8 v] wr fun e w' => if q = true then e = .returned (.tuple #[]) ∧ Rr m w b w' T.tail else e = .panicked pnc ∧ Av b m w w' := by
  cases q with
  | true =>
    rw [Adr.at_cons hq] at h
    exact take_yes h0 c _ h v hv
  | false => exact take_no c h hq v hv

set_option maxRecDepth 100000 in
set_option maxHeartbeats 4000000 in
theorem rdL_any (h0 : 3 < w.heap.size) (h : Rr m w b wr T) (hs : T.length < 4294967281) : Calls Tryz.prog 103 #[.pointer (some ⟨b, 0, none⟩)] wr fun e w' => Rs m w b (Adr.rdL T) e w' := by
  unfold Adr.rdL
  cases hq : Adr.atB 34 T with
  | true =>
    have HA := Lib.hid (at_c h 34 34 true rfl hq)
    have hT := Adr.at_cons hq
    have h2 := h
    rw [hT] at h2
    have HQ := Lib.hid (rdQ_any h0 T.tail h2 (by rw [hT] at hs; simp only [List.length_cons] at hs; omega))
    rw [if_pos rfl]
    clear h h2 hT hq
    generalize Adr.rdQ T.tail = o at *
    go_enter Tryz.func103, Tryz.ntmps103
    go_wp2_with fail
    refine HA.out.mono ?_
    rintro e w' ⟨rfl, rfl⟩
    go_wp2_with fail
    cases o with
    | none =>
      refine HQ.out.mono ?_
      rintro e w1 ⟨rfl, h1⟩
      exact ⟨rfl, rfl, h1⟩
    | some p =>
      obtain ⟨x, r⟩ := p
      refine HQ.out.mono ?_
      rintro e w1 ⟨rfl, h1⟩
      have H1 := Lib.hid h1
      clear h1 HQ
      go_wp2_with fail
      go_ret
      exact ⟨rfl, H1.out⟩
  | false =>
    have HA := Lib.hid (at_c h 34 34 false rfl hq)
    have HR := Lib.hid (run_61 h0 h (by omega))
    have hl := Adr.takeWhile_len Adr.inL T
    have HP := Lib.hid (fun (W : World) (h : Av b m w W) => plain_any ⟨(T.takeWhile Adr.inL).toArray⟩ m W (by rw [size_mk]; omega) h.cell)
    rw [show (⟨(T.takeWhile Adr.inL).toArray⟩ : ByteArray).data.toList = T.takeWhile Adr.inL from rfl] at HP
    rw [if_neg (by decide)]
    clear h hq
    generalize T.takeWhile Adr.inL = t at *
    generalize T.dropWhile Adr.inL = u at *
    unfold sV at HR
    cases hp : Adr.plainB t with
    | false =>
      rw [hp] at HP
      rw [if_neg (by decide)]
      clear hp
      go_enter Tryz.func103, Tryz.ntmps103
      go_wp2_with (first
        | (go_at_call 101; refine HA.out.mono ?_; rintro e w' ⟨rfl, rfl⟩)
        | (go_at_call 117; refine HR.out.mono ?_; rintro e w1 ⟨rfl, h1⟩; have H1 := Lib.hid h1; clear h1)
        | (go_at_call 66; refine (HP.out _ H1.out.at').mono ?_; rintro e w2 ⟨rfl, h2⟩; have H2 := Lib.hid (rr_grown H1.out h2); clear h2)
        | (go_at_call 115; refine (must_no _).mono ?_; rintro e w' ⟨rfl, rfl⟩))
      exact ⟨rfl, rfl, H2.out.at'⟩
    | true =>
      rw [hp] at HP
      rw [if_pos rfl]
      clear hp
      go_enter Tryz.func103, Tryz.ntmps103
      go_wp2_with (first
        | (go_at_call 101; refine HA.out.mono ?_; rintro e w' ⟨rfl, rfl⟩)
        | (go_at_call 117; refine HR.out.mono ?_; rintro e w1 ⟨rfl, h1⟩; have H1 := Lib.hid h1; clear h1)
        | (go_at_call 66; refine (HP.out _ H1.out.at').mono ?_; rintro e w2 ⟨rfl, h2⟩; have H2 := Lib.hid (rr_grown H1.out h2); clear h2)
        | (go_at_call 115; refine (must_yes _).mono ?_; rintro e w' ⟨rfl, rfl⟩))
      go_ret
      exact ⟨rfl, H2.out⟩

set_option maxRecDepth 100000 in
set_option maxHeartbeats 4000000 in
theorem rdR_any (h0 : 3 < w.heap.size) (h : Rr m w b wr T) (hs : T.length < 4294967281) : Calls Tryz.prog 102 #[.pointer (some ⟨b, 0, none⟩)] wr fun e w' => Rt m w b (Adr.rdR T) e w' := by
  unfold Adr.rdR
  cases hq : Adr.atB 64 T with
  | false =>
    have HA := Lib.hid (at_c h 64 64 false rfl hq)
    have HR := Lib.hid h
    rw [if_neg (by decide)]
    clear h hq
    go_enter Tryz.func102, Tryz.ntmps102
    go_wp2_with (go_at_call 101; refine HA.out.mono ?_; rintro e w' ⟨rfl, rfl⟩)
    refine bodyPost_ret (results_none rfl _ _ _) rfl ?_
    exact ⟨rfl, HR.out⟩
  | true =>
    have HA := Lib.hid (at_c h 64 64 true rfl hq)
    have HR := Lib.hid h
    rw [if_pos rfl]
    clear h hq
    go_enter Tryz.func102, Tryz.ntmps102
    go_wp2_with (go_at_call 101; refine HA.out.mono ?_; rintro e w' ⟨rfl, rfl⟩)
    go_loopw [6] (fun _ wr => ∃ U : List UInt8, Hid (Rr m w b wr U) ∧ Hid (Adr.rdRl U = Adr.rdRl T) ∧ U.length ≤ T.length) (fun _ wr => lenAt b wr)
    case atStart => exact ⟨T, HR, rfl, Nat.le_refl _⟩
    case round =>
      obtain ⟨U, HU, HE, hul⟩ := hrel
      have HLN := Lib.hid (lenAt_rr HU.out)
      have heq := Adr.rdRl_eq U
      rw [HE.out] at heq
      cases h64 : Adr.atB 64 U with
      | false =>
        have HN : Hid (Adr.rdRl T = none) := by show _ = _; rw [heq, Adr.tk_no h64]; rfl
        have HTK := Lib.hid (take_any h0 HU.out 64 64 rfl false h64)
        clear heq h64
        go_wp2_with fail
        refine HTK.out.mono ?_
        rintro e w1 ⟨rfl, h1⟩
        exact ⟨rfl, rt_no HN.out h1⟩
      | true =>
        rw [Adr.tk_yes h64, Option.bind_some] at heq
        have HTK := Lib.hid (take_any h0 HU.out 64 64 rfl true h64)
        have htl : U.tail.length < U.length := by rw [Adr.at_cons h64]; simp
        clear h64
        generalize U.tail = r at *
        have HDD := Lib.hid (fun (W : World) (h : Rr m w b W r) => rdD_any h0 h (by omega))
        cases hd : Adr.rdD r with
        | none =>
          rw [hd] at HDD heq
          have HN : Hid (Adr.rdRl T = none) := heq
          clear heq hd
          go_wp2_with fail
          refine HTK.out.mono ?_
          rintro e w1 ⟨rfl, h1⟩
          have H1 := Lib.hid h1
          clear h1
          go_wp2_with fail
          refine (HDD.out _ H1.out).mono ?_
          rintro e w2 ⟨rfl, h2⟩
          exact ⟨rfl, rt_no HN.out h2⟩
        | some p =>
          obtain ⟨x, u⟩ := p
          have hlu := Adr.rdD_len hd
          rw [hd, Option.bind_some] at heq
          rw [hd] at HDD
          simp only at heq
          cases h44 : Adr.atB 44 u with
          | true =>
            rw [h44, if_pos rfl] at heq
            have HE2 : Hid (Adr.rdRl u.tail = Adr.rdRl T) := heq.symm
            have htu : u.tail.length < u.length := by rw [Adr.at_cons h44]; simp
            have HA2 := Lib.hid (fun (W : World) (h : Rr m w b W u) => at_c h 44 44 true rfl h44)
            have HT2 := Lib.hid (fun (W : World) (h : Rr m w b W u) => take_any h0 h 44 44 rfl true h44)
            clear heq hd h44
            go_wp2_with fail
            refine HTK.out.mono ?_
            rintro e w1 ⟨rfl, h1⟩
            have H1 := Lib.hid h1
            clear h1
            go_wp2_with fail
            refine (HDD.out _ H1.out).mono ?_
            rintro e w2 ⟨rfl, h2⟩
            have H2 := Lib.hid h2
            clear h2
            go_wp2_with fail
            refine (HA2.out _ H2.out).mono ?_
            rintro e w' ⟨rfl, rfl⟩
            go_wp2_with fail
            refine (HT2.out _ H2.out).mono ?_
            rintro e w3 ⟨rfl, h3⟩
            have H3 := Lib.hid h3
            clear h3
            go_wp2_with fail
            go_roundw
            case rel => exact ⟨u.tail, H3, HE2, by omega⟩
            case measure => rw [lenAt_rr H3.out, HLN.out]; omega
          | false =>
            rw [h44, if_neg (by decide)] at heq
            have HA2 := Lib.hid (fun (W : World) (h : Rr m w b W u) => at_c h 44 44 false rfl h44)
            cases h58 : Adr.atB 58 u with
            | true =>
              have HN : Hid (Adr.rdRl T = some u.tail) := by show _ = _; rw [heq, Adr.tk_yes h58]
              have HT2 := Lib.hid (fun (W : World) (h : Rr m w b W u) => take_any h0 h 58 58 rfl true h58)
              clear heq hd h44 h58
              go_wp2_with fail
              refine HTK.out.mono ?_
              rintro e w1 ⟨rfl, h1⟩
              have H1 := Lib.hid h1
              clear h1
              go_wp2_with fail
              refine (HDD.out _ H1.out).mono ?_
              rintro e w2 ⟨rfl, h2⟩
              have H2 := Lib.hid h2
              clear h2
              go_wp2_with fail
              refine (HA2.out _ H2.out).mono ?_
              rintro e w' ⟨rfl, rfl⟩
              go_wp2_with fail
              refine (HT2.out _ H2.out).mono ?_
              rintro e w3 ⟨rfl, h3⟩
              have H3 := Lib.hid h3
              clear h3
              go_wp2_with fail
              go_end0
              exact rt_yes HN.out H3.out
            | false =>
              have HN : Hid (Adr.rdRl T = none) := by show _ = _; rw [heq, Adr.tk_no h58]
              have HT2 := Lib.hid (fun (W : World) (h : Rr m w b W u) => take_any h0 h 58 58 rfl false h58)
              clear heq hd h44 h58
              go_wp2_with fail
              refine HTK.out.mono ?_
              rintro e w1 ⟨rfl, h1⟩
              have H1 := Lib.hid h1
              clear h1
              go_wp2_with fail
              refine (HDD.out _ H1.out).mono ?_
              rintro e w2 ⟨rfl, h2⟩
              have H2 := Lib.hid h2
              clear h2
              go_wp2_with fail
              refine (HA2.out _ H2.out).mono ?_
              rintro e w' ⟨rfl, rfl⟩
              go_wp2_with fail
              refine (HT2.out _ H2.out).mono ?_
              rintro e w3 ⟨rfl, h3⟩
              exact ⟨rfl, rt_no HN.out h3⟩
end Go.Proofs.YtkchebbolldmbaaGreatDoor
