/-
  PROVED HERE: the library's insertion sort (slices.insertionSortCmpFunc), under a comparing closure that may lay blocks. Turned from a worked proof of the kit (SlSortCmp/Insertion1).
-/
import Derived.Test.YtocjjfjcepflnaaDoorKa
import Derived.Sort.WalkA
import Derived.Sort.WalkB2
import Derived.Sort.WalkB12
namespace Go.Proofs.YtocjjfjcepflnaaDoor
open Go.Shelf Go.RowKit Go.Lib Go.Sort
variable {α : Type} [Inhabited α] {P : Program} {kc : Nat}

set_option maxHeartbeats 16000000 in
set_option maxRecDepth 1000000 in
/-- The library's insertion sort, from a world of the sort's to a world of the sort's. -/
theorem insertion_s (E : Env P kc) (enc : α → List Value) (cf : α → α → Int) (g : Nat) (cb : Array Value) (blk off cap a b : Nat) (d0 d : Array α) (w0 w : World)
    (eg : ∀ args w, (callFunc g args).run P w = .ok (.enter g args) w) (hcmp : CmpLays P g cb enc kc cf blk off d0.size w0) (R : RowK enc kc w0 blk off d0) (hs : d0.size = d.size) (S : SWK enc kc w0 blk off d w) (hab : a ≤ b) (hb : b ≤ d.size) (hsz : d.size < 4611686018427387904) :
    Calls P 60 #[.slice (some ⟨blk, off, none⟩) d.size cap, .int .i64 a, .int .i64 b, .func (.func g) #[] cb] w fun e w' => e = .returned (.tuple #[]) ∧ SWK enc kc w0 blk off (Sort.insertionSort (ltOf cf) d a b) w' := by
  have mixed := E.mixed; have t0 := E.t0; have a0 := E.a0; have z0 := E.z0; have v0 := E.v0; have t3 := E.t3; have a3 := E.a3; have z3 := E.z3; have v3 := E.v3; have t4 := E.t4; have a4 := E.a4; have z4 := E.z4; have v4 := E.v4
  have t72 := E.t72; have a72 := E.a72; have z72 := E.z72; have v72 := E.v72; have t77 := E.t77; have a77 := E.a77; have z77 := E.z77; have v77 := E.v77; have aE := E.aE; have zE := E.zE
  have u72 := run_underlying E.t72
  have t95 := E.t95; have a95 := E.a95; have z95 := E.z95; have v95 := E.v95; have u95 := run_underlying E.t95; have u3 := run_underlying E.t3
  have g77 := E.e77; have g70 := E.e70; have g61 := E.e61; have g60 := E.e60; have g51 := E.e51
  have EE : Aside (Env P kc) := E
  clear E
  have HC : Aside _ := hcmp
  have S0 : Aside (SWK enc kc w0 blk off d w) := S
  clear S
  clear hcmp
  have F := EE.out.f60
  go_enter F, Tryd.ntmps60
  go_wp2
  go_loopg [8] (b - a) (fun g1 vi wr => ∃ (i : Nat) (dk : Array α), vi = .int .i64 i ∧ a < i ∧ i ≤ b + 1 ∧ b + 1 - i ≤ g1 + 1 ∧ dk.size = d.size ∧ Aside (SWK enc kc w0 blk off dk wr) ∧ Hid (insOuter (ltOf cf) a b i dk = insOuter (ltOf cf) a b (a + 1) d))
  case atStart => exact ⟨a + 1, d, by go_num, by omega, by omega, by omega, rfl, S0, rfl⟩
  case round =>
    clear S0
    obtain ⟨i, dk, rfl, hai, hib, hg1, hsk, S1, HO⟩ := hrel
    by_cases hlt : i < b
    · have hltz : (i : Int) < (b : Int) := by omega
      go_wp2
      -- the inner loop
      go_loopg [9] i (fun g2 vj wr2 => ∃ (j : Nat) (dj : Array α), vj = .int .i64 j ∧ a ≤ j ∧ j ≤ i ∧ j ≤ g2 ∧ dj.size = d.size ∧ Aside (SWK enc kc w0 blk off dj wr2) ∧ Hid (insInner (ltOf cf) a j dj = insInner (ltOf cf) a i dk))
      case atStart => exact ⟨i, dk, rfl, by omega, Nat.le_refl _, Nat.le_refl _, hsk, S1, rfl⟩
      case round =>
        clear S1
        obtain ⟨j, dj, rfl, haj, hji, hg2, hsj, SJ, HI⟩ := hrel
        have out : (j ≤ a ∨ (ltOf cf) dj[j]! dj[j - 1]! = false) → Hid (insOuter (ltOf cf) a b (i + 1) dj = insOuter (ltOf cf) a b (a + 1) d) := fun hs => by
          show _ = _
          rw [← HO.out, insOuter_go _ _ _ _ _ hlt, ← HI.out, insInner_stop _ _ _ _ hs]
        have OUT : Aside _ := out
        clear out
        by_cases hja : a < j
        · have hjaz : (a : Int) < (j : Int) := by omega
          obtain ⟨jp, hjp⟩ : ∃ q, q + 1 = j := ⟨j - 1, by omega⟩
          have zjp : (j : Int) = (jp : Int) + 1 := by omega
          have hjad : decide ((jp : Int) + 1 > (a : Int)) = true := decide_eq_true (by omega)
          have hjaz' : (a : Int) < (jp : Int) + 1 := by omega
          cases hlv : (ltOf cf) dj[j]! dj[j - 1]! with
          | true =>
            obtain ⟨iN1193, hiN1193⟩ : ∃ q, q = j := ⟨_, rfl⟩
            obtain ⟨jN1193, hjN1193⟩ : ∃ q, q = j - 1 := ⟨_, rfl⟩
            have ea1193 : ((jp : Int) + 1).toNat = iN1193 := by omega
            have pa1193 : (0 : Int) ≤ (jp : Int) + 1 := by omega
            have ba1193 : (jp : Int) + 1 < (d.size : Int) := by omega
            have ra1193 : IntKind.i64.wrap ((jp : Int) + 1) = (jp : Int) + 1 := by rw [IntKind.wrap_i64]; omega
            have ec1193 : ((jp : Int)).toNat = jN1193 := by omega
            have pc1193 : (0 : Int) ≤ (jp : Int) := by omega
            have bc1193 : (jp : Int) < (d.size : Int) := by omega
            have rc1193 : IntKind.i64.wrap ((jp : Int)) = (jp : Int) := by rw [IntKind.wrap_i64]; omega
            obtain ⟨x1193, hx1193⟩ : ∃ x, x = dj[j]! := ⟨_, rfl⟩
            obtain ⟨y1193, hy1193⟩ : ∃ x, x = dj[j - 1]! := ⟨_, rfl⟩
            have l1193a := SJ.out.ld R (by omega) P (j) (by omega)
            have l1193b := SJ.out.ld R (by omega) P (j - 1) (by omega)
            rw [← hx1193, ← hiN1193] at l1193a
            rw [← hy1193, ← hjN1193] at l1193b
            have hc1193 := SJ.out.cmp HC.out (by omega) x1193 y1193
            have hv1193 : cf x1193 y1193 < 0 := by rw [hx1193, hy1193]; exact of_decide_eq_true hlv
            have hd1193 : decide (cf x1193 y1193 < 0) = true := decide_eq_true hv1193
            clear hx1193 hy1193 hiN1193 hjN1193
            go_wp2_with fail
            go_quiet_grown (first | (go_at_fn g; refine Calls.grown_of (hc1193 _ _)))
            have S2 : Aside (SWK enc kc w0 blk off dj (grow (wr.drewN nq) osq)) := SJ.out.grown nq osq
            clear l1193a l1193b hc1193 SJ
            generalize grow (wr.drewN nq) osq = w2 at S2 ⊢
            clear nq osq
            clear ea1193 ec1193
            go_wp2_with fail
            obtain ⟨iN1194, hiN1194⟩ : ∃ q, q = j := ⟨_, rfl⟩
            obtain ⟨jN1194, hjN1194⟩ : ∃ q, q = j - 1 := ⟨_, rfl⟩
            have ea1194 : ((jp : Int) + 1).toNat = iN1194 := by omega
            have pa1194 : (0 : Int) ≤ (jp : Int) + 1 := by omega
            have ba1194 : (jp : Int) + 1 < (d.size : Int) := by omega
            have ra1194 : IntKind.i64.wrap ((jp : Int) + 1) = (jp : Int) + 1 := by rw [IntKind.wrap_i64]; omega
            have ec1194 : ((jp : Int)).toNat = jN1194 := by omega
            have pc1194 : (0 : Int) ≤ (jp : Int) := by omega
            have bc1194 : (jp : Int) < (d.size : Int) := by omega
            have rc1194 : IntKind.i64.wrap ((jp : Int)) = (jp : Int) := by rw [IntKind.wrap_i64]; omega
            obtain ⟨x1194, hx1194⟩ : ∃ x, x = dj[j]! := ⟨_, rfl⟩
            obtain ⟨y1194, hy1194⟩ : ∃ x, x = dj[j - 1]! := ⟨_, rfl⟩
            have S3 : Aside (SWK enc kc w0 blk off (swp dj (j) (j - 1)) ((w2.drew.setCells blk (off + iN1194 * kc) (enc y1194)).setCells blk (off + jN1194 * kc) (enc x1194))) := by rw [hiN1194, hjN1194, hx1194, hy1194]; exact S2.out.swapped R (j) (j - 1) (by omega) (by omega)
            have l1 := S2.out.ld1 R (by omega) P (j) (by omega)
            have l2 := S2.out.ld1 R (by omega) P (j - 1) (by omega)
            have s1 := S2.out.st1 R (by omega) P (j) (by omega) y1194
            have s2 := S2.out.st2 R (by omega) P (j) (j - 1) (by omega) (by omega) y1194 x1194
            have hsX : (enc x1194).length = kc := R.hk _
            have hsY : (enc y1194).length = kc := R.hk _
            rw [← hx1194, ← hiN1194] at l1
            rw [← hy1194, ← hjN1194] at l2
            rw [← hiN1194] at s1
            rw [← hjN1194, ← hiN1194] at s2
            obtain ⟨cX, hcX⟩ : ∃ c, c = enc x1194 := ⟨_, rfl⟩
            obtain ⟨cY, hcY⟩ : ∃ c, c = enc y1194 := ⟨_, rfl⟩
            rw [← hcX] at l1 hsX
            rw [← hcY] at l2 hsY s1
            rw [← hcX, ← hcY] at s2 S3
            clear S2 hx1194 hy1194 hiN1194 hjN1194 hcX hcY
            go_wp2_with fail
            go_big_region_o
            clear l1 l2 s1 s2
            generalize ((w2.drew.setCells blk (off + iN1194 * kc) cY).setCells blk (off + jN1194 * kc) cX) = w3 at S3 ⊢
            clear ea1194 ec1194
            go_wp2
            go_roundg (j - 1)
            case measure => omega
            case rel => exact ⟨j - 1, swp dj j (j - 1), by first | rfl | go_num | (congr 1; omega), by omega, by omega, Nat.le_refl _, by rw [size_swp]; exact hsj, S3, (show Hid _ from by rw [← HI.out, insInner_go (ltOf cf) a j dj hja hlv]; exact rfl)⟩
          | false =>
            obtain ⟨iN1195, hiN1195⟩ : ∃ q, q = j := ⟨_, rfl⟩
            obtain ⟨jN1195, hjN1195⟩ : ∃ q, q = j - 1 := ⟨_, rfl⟩
            have ea1195 : ((jp : Int) + 1).toNat = iN1195 := by omega
            have pa1195 : (0 : Int) ≤ (jp : Int) + 1 := by omega
            have ba1195 : (jp : Int) + 1 < (d.size : Int) := by omega
            have ra1195 : IntKind.i64.wrap ((jp : Int) + 1) = (jp : Int) + 1 := by rw [IntKind.wrap_i64]; omega
            have ec1195 : ((jp : Int)).toNat = jN1195 := by omega
            have pc1195 : (0 : Int) ≤ (jp : Int) := by omega
            have bc1195 : (jp : Int) < (d.size : Int) := by omega
            have rc1195 : IntKind.i64.wrap ((jp : Int)) = (jp : Int) := by rw [IntKind.wrap_i64]; omega
            obtain ⟨x1195, hx1195⟩ : ∃ x, x = dj[j]! := ⟨_, rfl⟩
            obtain ⟨y1195, hy1195⟩ : ∃ x, x = dj[j - 1]! := ⟨_, rfl⟩
            have l1195a := SJ.out.ld R (by omega) P (j) (by omega)
            have l1195b := SJ.out.ld R (by omega) P (j - 1) (by omega)
            rw [← hx1195, ← hiN1195] at l1195a
            rw [← hy1195, ← hjN1195] at l1195b
            have hc1195 := SJ.out.cmp HC.out (by omega) x1195 y1195
            have hv1195 : ¬ cf x1195 y1195 < 0 := by rw [hx1195, hy1195]; exact of_decide_eq_false hlv
            have hd1195 : decide (cf x1195 y1195 < 0) = false := decide_eq_false hv1195
            clear hx1195 hy1195 hiN1195 hjN1195
            go_wp2_with fail
            go_quiet_grown (first | (go_at_fn g; refine Calls.grown_of (hc1195 _ _)))
            have S2 : Aside (SWK enc kc w0 blk off dj (grow (wr.drewN nq) osq)) := SJ.out.grown nq osq
            clear l1195a l1195b hc1195 SJ
            generalize grow (wr.drewN nq) osq = w2 at S2 ⊢
            clear nq osq
            clear ea1195 ec1195
            go_wp2
            go_roundg (b - (i + 1))
            case measure => omega
            case rel => exact ⟨i + 1, dj, by go_num, by omega, by omega, by omega, hsj, S2, OUT.out (Or.inr hlv)⟩
        · -- j = a: out of the inner loop (the guard is false: 'cmp' is not called)
          have hjaz : decide ((j : Int) > (a : Int)) = false := decide_eq_false (by omega)
          have hjaz' : ¬ (a : Int) < (j : Int) := by omega
          go_wp2_with fail
          go_big_region_o
          have S2 : Aside (SWK enc kc w0 blk off dj wr.drew) := SJ.out.drew
          clear SJ
          generalize wr.drew = w2 at S2 ⊢
          go_wp2
          go_roundg (b - (i + 1))
          case measure => omega
          case rel => exact ⟨i + 1, dj, by go_num, by omega, by omega, by omega, hsj, S2, OUT.out (Or.inl (by omega))⟩
    · -- the outer loop is at its end
      have hltz : ¬ (i : Int) < (b : Int) := by omega
      go_wp2
      go_end0
      exact ⟨rfl, by unfold Sort.insertionSort; rw [← HO.out, insOuter_stop _ _ _ _ _ hlt]; exact S1.out⟩

end Go.Proofs.YtocjjfjcepflnaaDoor
