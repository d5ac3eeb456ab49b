/-
  PROVED HERE: what domain of the program's reader of paths computes.
-/
import Derived.Test.YtkchebbolldmbaaGreatDoorRun
set_option linter.unusedVariables false
namespace Adr
/-- A domain that stands next, small, and what is left. -/
def rdD (T : List UInt8) : Option (List UInt8 × List UInt8) := if domB (T.takeWhile inD) = true then some (sml (T.takeWhile inD), T.dropWhile inD) else none
theorem takeWhile_len (p : UInt8 → Bool) (T : List UInt8) : (T.takeWhile p).length ≤ T.length := by
  induction T with
  | nil => exact Nat.le_refl _
  | cons c T ih =>
    rw [List.takeWhile_cons]
    split
    · simp only [List.length_cons]; omega
    · exact Nat.zero_le _
theorem dropWhile_len (p : UInt8 → Bool) (T : List UInt8) : (T.dropWhile p).length ≤ T.length := by
  induction T with
  | nil => exact Nat.le_refl _
  | cons c T ih =>
    rw [List.dropWhile_cons]
    split
    · simp only [List.length_cons]; omega
    · exact Nat.le_refl _
theorem rdD_len {T d r : List UInt8} (h : rdD T = some (d, r)) : r.length ≤ T.length := by
  unfold rdD at h
  split at h
  · cases h; exact dropWhile_len _ _
  · cases h
end Adr
namespace Go.Proofs.YtkchebbolldmbaaGreatDoor
open Go.RowKit
variable {m : Int} {w wr : World} {b : Nat} {T : List UInt8}
/-- How a method of the reader ends that reads a text or panics. -/
def Rs (m : Int) (w : World) (b : Nat) (o : Option (List UInt8 × List UInt8)) (e : Ending) (w' : World) : Prop :=
  match o with
  | none => e = .panicked pnc ∧ Av b m w w'
  | some (x, r) => e = .returned (sV x) ∧ Rr m w b w' r

set_option maxRecDepth 100000 in
set_option maxHeartbeats 4000000 in
theorem rdD_any (h0 : 3 < w.heap.size) (h : Rr m w b wr T) (hs : T.length < 4294967281) : Calls Tryz.prog 104 #[.pointer (some ⟨b, 0, none⟩)] wr fun e w' => Rs m w b (Adr.rdD T) e w' := by
  have HR := Lib.hid (run_62 h0 h (by omega))
  have hl := Adr.takeWhile_len Adr.inD T
  have HD := Lib.hid (fun (W : World) (h : Av b m w W) => domain_any ⟨(T.takeWhile Adr.inD).toArray⟩ m W (by rw [size_mk]; omega) h.cell)
  rw [show (⟨(T.takeWhile Adr.inD).toArray⟩ : ByteArray).data.toList = T.takeWhile Adr.inD from rfl] at HD
  unfold Adr.rdD
  generalize T.takeWhile Adr.inD = t at *
  generalize T.dropWhile Adr.inD = u at *
  unfold sV at HR
  clear h
  cases hd : Adr.domB t with
  | false =>
    rw [dom_no hd] at HD
    rw [if_neg (by decide)]
    clear hd
    go_enter Tryz.func104, Tryz.ntmps104
    go_wp2_with (first
      | (go_at_call 117; refine HR.out.mono ?_; rintro e w1 ⟨rfl, h1⟩; have H1 := Lib.hid h1; clear h1)
      | (go_at_call 56; refine (HD.out _ H1.out.at').mono ?_; rintro e w2 ⟨rfl, h2⟩; have H2 := Lib.hid (rr_grown H1.out h2); clear h2)
      | (go_at_call 115; refine (must_no _).mono ?_; rintro e w' ⟨rfl, rfl⟩))
    exact ⟨rfl, rfl, H2.out.at'⟩
  | true =>
    rw [dom_yes hd] at HD
    rw [if_pos rfl]
    unfold sV at HD
    clear hd
    generalize Adr.sml t = sd at *
    go_enter Tryz.func104, Tryz.ntmps104
    go_wp2_with (first
      | (go_at_call 117; refine HR.out.mono ?_; rintro e w1 ⟨rfl, h1⟩; have H1 := Lib.hid h1; clear h1)
      | (go_at_call 56; refine (HD.out _ H1.out.at').mono ?_; rintro e w2 ⟨rfl, h2⟩; have H2 := Lib.hid (rr_grown H1.out h2); clear h2)
      | (go_at_call 115; refine (must_yes _).mono ?_; rintro e w' ⟨rfl, rfl⟩))
    go_ret
    exact ⟨rfl, H2.out⟩
end Go.Proofs.YtkchebbolldmbaaGreatDoor
