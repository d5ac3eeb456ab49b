/-
  PROVED HERE: what the library's swapRangeCmpFunc does to a row of structs, over whatever program has its text.
-/
import Derived.Test.YtocjjfjcepflnaaDoorStb
import Derived.Test.YtocjjfjcepflnaaDoorCp2
import Derived.Shelf.SlSortCmp.KitK
import Derived.Deep.LoopGhost
import Derived.BigRegion
namespace Go.Proofs.YtocjjfjcepflnaaDoor
open Go.Shelf Go.RowKit Go.Lib Go.Sort
variable {α : Type} [Inhabited α] {P : Program} {kc : Nat}
/-- What a walk through the library's stable sort wants of a program: its texts, and its types. -/
structure Env (P : Program) (kc : Nat) : Prop where
  mixed : P.follows Departure.mixedOrders = true
  f77 : P.funcs[77]? = some Tryd.f77
  f70 : P.funcs[70]? = some Tryd.f70
  f61 : P.funcs[61]? = some Tryd.f61
  f60 : P.funcs[60]? = some Tryd.f60
  f51 : P.funcs[51]? = some Tryd.f51
  f37 : P.funcs[37]? = some Tryd.f37
  e77 : ∀ args w, (callFunc 77 args).run P w = .ok (.enter 77 args) w
  e70 : ∀ args w, (callFunc 70 args).run P w = .ok (.enter 70 args) w
  e61 : ∀ args w, (callFunc 61 args).run P w = .ok (.enter 61 args) w
  e60 : ∀ args w, (callFunc 60 args).run P w = .ok (.enter 60 args) w
  e51 : ∀ args w, (callFunc 51 args).run P w = .ok (.enter 51 args) w
  t0 : P.underlying 0 = some (TypeDesc.tuple #[])
  a0 : ∀ (w : World), Sem.run P (isAgg 0) w = Result.ok false w
  z0 : ∀ (w : World), Sem.run P (Go.sizeOf 0) w = Result.ok 1 w
  v0 : ∀ (w : World), Sem.run P (zeroValue 0) w = Result.ok (Value.tuple #[]) w
  t3 : P.underlying 3 = some (TypeDesc.int IntKind.i64)
  a3 : ∀ (w : World), Sem.run P (isAgg 3) w = Result.ok false w
  z3 : ∀ (w : World), Sem.run P (Go.sizeOf 3) w = Result.ok 1 w
  v3 : ∀ (w : World), Sem.run P (zeroValue 3) w = Result.ok (Value.int IntKind.i64 0) w
  t4 : P.underlying 4 = some TypeDesc.bool
  a4 : ∀ (w : World), Sem.run P (isAgg 4) w = Result.ok false w
  z4 : ∀ (w : World), Sem.run P (Go.sizeOf 4) w = Result.ok 1 w
  v4 : ∀ (w : World), Sem.run P (zeroValue 4) w = Result.ok (Value.bool false) w
  t72 : P.underlying 72 = some (TypeDesc.slice 75)
  a72 : ∀ (w : World), Sem.run P (isAgg 72) w = Result.ok false w
  z72 : ∀ (w : World), Sem.run P (Go.sizeOf 72) w = Result.ok 1 w
  v72 : ∀ (w : World), Sem.run P (zeroValue 72) w = Result.ok (Value.slice none 0 0) w
  t77 : P.underlying 77 = some (TypeDesc.func #[75, 75] #[3] false)
  a77 : ∀ (w : World), Sem.run P (isAgg 77) w = Result.ok false w
  z77 : ∀ (w : World), Sem.run P (Go.sizeOf 77) w = Result.ok 1 w
  v77 : ∀ (w : World), Sem.run P (zeroValue 77) w = Result.ok Value.nilFunc w
  t95 : P.underlying 95 = some (TypeDesc.int IntKind.u64)
  a95 : ∀ (w : World), Sem.run P (isAgg 95) w = Result.ok false w
  z95 : ∀ (w : World), Sem.run P (Go.sizeOf 95) w = Result.ok 1 w
  v95 : ∀ (w : World), Sem.run P (zeroValue 95) w = Result.ok (Value.int IntKind.u64 0) w
  aE : ∀ (w : World), Sem.run P (isAgg 75) w = Result.ok true w
  zE : ∀ (w : World), Sem.run P (Go.sizeOf 75) w = Result.ok kc w
theorem run_call77 (args : Array Value) (w : World) : (callFunc 77 args).run Tryd.prog w = .ok (.enter 77 args) w := by
  have h1 : (Tryd.f77.name == "runtime.NumGoroutine") = false := by kernel_rfl
  have h2 : Tryd.f77.name ≠ "runtime.NumGoroutine" := by simpa using h1
  have h3 : Tryd.f77.body.isSome = true := by kernel_rfl
  obtain ⟨c, hc⟩ := Option.isSome_iff_exists.1 h3
  simp [callFunc, Tryd.func77, h2, hc]
theorem run_call70 (args : Array Value) (w : World) : (callFunc 70 args).run Tryd.prog w = .ok (.enter 70 args) w := by
  have h1 : (Tryd.f70.name == "runtime.NumGoroutine") = false := by kernel_rfl
  have h2 : Tryd.f70.name ≠ "runtime.NumGoroutine" := by simpa using h1
  have h3 : Tryd.f70.body.isSome = true := by kernel_rfl
  obtain ⟨c, hc⟩ := Option.isSome_iff_exists.1 h3
  simp [callFunc, Tryd.func70, h2, hc]
theorem run_call61 (args : Array Value) (w : World) : (callFunc 61 args).run Tryd.prog w = .ok (.enter 61 args) w := by
  have h1 : (Tryd.f61.name == "runtime.NumGoroutine") = false := by kernel_rfl
  have h2 : Tryd.f61.name ≠ "runtime.NumGoroutine" := by simpa using h1
  have h3 : Tryd.f61.body.isSome = true := by kernel_rfl
  obtain ⟨c, hc⟩ := Option.isSome_iff_exists.1 h3
  simp [callFunc, Tryd.func61, h2, hc]
theorem run_call60 (args : Array Value) (w : World) : (callFunc 60 args).run Tryd.prog w = .ok (.enter 60 args) w := by
  have h1 : (Tryd.f60.name == "runtime.NumGoroutine") = false := by kernel_rfl
  have h2 : Tryd.f60.name ≠ "runtime.NumGoroutine" := by simpa using h1
  have h3 : Tryd.f60.body.isSome = true := by kernel_rfl
  obtain ⟨c, hc⟩ := Option.isSome_iff_exists.1 h3
  simp [callFunc, Tryd.func60, h2, hc]
theorem run_call51 (args : Array Value) (w : World) : (callFunc 51 args).run Tryd.prog w = .ok (.enter 51 args) w := by
  have h1 : (Tryd.f51.name == "runtime.NumGoroutine") = false := by kernel_rfl
  have h2 : Tryd.f51.name ≠ "runtime.NumGoroutine" := by simpa using h1
  have h3 : Tryd.f51.body.isSome = true := by kernel_rfl
  obtain ⟨c, hc⟩ := Option.isSome_iff_exists.1 h3
  simp [callFunc, Tryd.func51, h2, hc]
theorem env : Env Tryd.prog 3 := ⟨by kernel_rfl, Tryd.func77, Tryd.func70, Tryd.func61, Tryd.func60, Tryd.func51, Tryd.func37, run_call77, run_call70, run_call61, run_call60, run_call51, Tryd.underlying0, Tryd.isAgg0, Tryd.sizeOf0, Tryd.zeroValue0, Tryd.underlying3, Tryd.isAgg3, Tryd.sizeOf3, Tryd.zeroValue3, Tryd.underlying4, Tryd.isAgg4, Tryd.sizeOf4, Tryd.zeroValue4, Tryd.underlying72, Tryd.isAgg72, Tryd.sizeOf72, Tryd.zeroValue72, Tryd.underlying77, Tryd.isAgg77, Tryd.sizeOf77, Tryd.zeroValue77, Tryd.underlying95, Tryd.isAgg95, Tryd.sizeOf95, Tryd.zeroValue95, Tryd.isAgg75, Tryd.sizeOf75⟩
/-- A row as a function of the place. -/
def Gd (d : Array α) : Nat → α := fun k => d[k]!
theorem get_set (d : Array α) (i k : Nat) (v : α) : (d.setIfInBounds i v)[k]! = if k = i ∧ i < d.size then v else d[k]! := by
  simp only [getElem!_def, Array.getElem?_setIfInBounds]
  by_cases h : i = k
  · subst h
    by_cases h2 : i < d.size
    · simp [h2]
    · simp [h2]
  · rw [if_neg h, if_neg (by omega)]
theorem Gd_swp (d : Array α) (i j : Nat) (hi : i < d.size) (hj : j < d.size) : Gd (swp d i j) = Stb.swF (Gd d) i j := by
  funext k
  unfold Gd Stb.swF swp
  rw [get_set, get_set]
  simp only [Array.size_setIfInBounds, hi, hj, and_true]
  by_cases h1 : k = j
  · rw [if_pos h1]
    by_cases h2 : k = i
    · rw [if_pos h2, show i = j from by omega]
    · rw [if_neg h2, if_pos h1]
  · rw [if_neg h1]
    by_cases h2 : k = i
    · rw [if_pos h2, if_pos h2]
    · rw [if_neg h2, if_neg h2, if_neg h1]

set_option maxHeartbeats 800000 in
set_option maxRecDepth 1000000 in
theorem swapRange_k (E : Env P kc) (enc : α → List Value) (fv : Value) (blk off cap a b n : Nat) (ia ib ic : Int) (d0 d : Array α) (w0 w : World)
    (R : RowK enc kc w0 blk off d0) (hs : d0.size = d.size) (S : SWK enc kc w0 blk off d w) (h1 : ia = a) (h2 : ib = b) (h3 : ic = n) (hab : a + n ≤ b) (hb : b + n ≤ d.size) (hsz : d.size < 4611686018427387904) :
    Calls P 77 #[.slice (some ⟨blk, off, none⟩) d.size cap, .int .i64 ia, .int .i64 ib, .int .i64 ic, fv] w fun e w' => e = .returned (.tuple #[]) ∧ ∃ d' : Array α, d'.size = d.size ∧ Gd d' = Stb.srF (Gd d) a b n ∧ SWK enc kc w0 blk off d' w' := by
  have mixed := E.mixed; have t0 := E.t0; have a0 := E.a0; have z0 := E.z0; have v0 := E.v0; have t3 := E.t3; have a3 := E.a3; have z3 := E.z3; have v3 := E.v3; have t4 := E.t4; have a4 := E.a4; have z4 := E.z4; have v4 := E.v4
  have t72 := E.t72; have a72 := E.a72; have z72 := E.z72; have v72 := E.v72; have t77 := E.t77; have a77 := E.a77; have z77 := E.z77; have v77 := E.v77; have aE := E.aE; have zE := E.zE
  have u72 := run_underlying E.t72
  have F := E.f77
  clear E
  have S0 : Aside (SWK enc kc w0 blk off d w) := S
  have RR : Aside (RowK enc kc w0 blk off d0) := R
  clear S R
  subst h1 h2 h3
  go_enter F, Tryd.ntmps77
  go_wp2
  go_loopg [10] n (fun g1 vi wr => ∃ (i : Nat) (dk : Array α), vi = .int .i64 i ∧ i ≤ n ∧ n - i ≤ g1 ∧ dk.size = d.size ∧ Aside (SWK enc kc w0 blk off dk wr) ∧ Hid (Gd dk = Stb.srF (Gd d) a b i))
  case atStart => exact ⟨0, d, rfl, by omega, by omega, rfl, S0, (Stb.sr_zero _ _ _).symm⟩
  case round =>
    clear S0
    obtain ⟨i, dj, rfl, hin, hg1, hsj, S2, HO⟩ := hrel
    by_cases hlt : i < n
    · have hltz : (i : Int) < (n : Int) := by omega
      go_wp2
      obtain ⟨iN, hiN⟩ : ∃ q, q = a + i := ⟨_, rfl⟩
      obtain ⟨jN, hjN⟩ : ∃ q, q = b + i := ⟨_, rfl⟩
      have ea : ((a : Int) + (i : Int)).toNat = iN := by omega
      have pa : (0 : Int) ≤ (a : Int) + (i : Int) := by omega
      have ba : (a : Int) + (i : Int) < (d.size : Int) := by omega
      have ra : IntKind.i64.wrap ((a : Int) + (i : Int)) = (a : Int) + (i : Int) := by rw [IntKind.wrap_i64]; omega
      have ec : ((b : Int) + (i : Int)).toNat = jN := by omega
      have pc : (0 : Int) ≤ (b : Int) + (i : Int) := by omega
      have bc : (b : Int) + (i : Int) < (d.size : Int) := by omega
      have rc : IntKind.i64.wrap ((b : Int) + (i : Int)) = (b : Int) + (i : Int) := by rw [IntKind.wrap_i64]; omega
      obtain ⟨x, hx⟩ : ∃ x, x = dj[a + i]! := ⟨_, rfl⟩
      obtain ⟨y, hy⟩ : ∃ x, x = dj[b + i]! := ⟨_, rfl⟩
      have S3 : Aside (SWK enc kc w0 blk off (swp dj (a + i) (b + i)) ((wr.drew.setCells blk (off + iN * kc) (enc y)).setCells blk (off + jN * kc) (enc x))) := by rw [hiN, hjN, hx, hy]; exact S2.out.swapped RR.out (a + i) (b + i) (by omega) (by omega)
      have l1 := S2.out.ld1 RR.out (by omega) P (a + i) (by omega)
      have l2 := S2.out.ld1 RR.out (by omega) P (b + i) (by omega)
      have s1 := S2.out.st1 RR.out (by omega) P (a + i) (by omega) y
      have s2 := S2.out.st2 RR.out (by omega) P (a + i) (b + i) (by omega) (by omega) y x
      have hsX : (enc x).length = kc := RR.out.hk _
      have hsY : (enc y).length = kc := RR.out.hk _
      rw [← hx, ← hiN] at l1
      rw [← hy, ← hjN] at l2
      rw [← hiN] at s1
      rw [← hiN, ← hjN] at s2
      obtain ⟨cX, hcX⟩ : ∃ c, c = enc x := ⟨_, rfl⟩
      obtain ⟨cY, hcY⟩ : ∃ c, c = enc y := ⟨_, rfl⟩
      rw [← hcX] at l1 hsX
      rw [← hcY] at l2 hsY s1
      rw [← hcX, ← hcY] at s2 S3
      clear S2 hx hy hiN hjN hcX hcY
      go_wp2_with fail
      go_big_region_o
      clear l1 l2 s1 s2
      generalize ((wr.drew.setCells blk (off + iN * kc) cY).setCells blk (off + jN * kc) cX) = w3 at S3 ⊢
      clear ea ec
      go_wp2
      go_roundg (n - (i + 1))
      case measure => omega
      case rel => exact ⟨i + 1, swp dj (a + i) (b + i), by go_num, by omega, by omega, by rw [size_swp]; exact hsj, S3, (show Hid _ from by show _ = _; rw [Gd_swp _ _ _ (by omega) (by omega), HO.out, Stb.sr_step _ _ _ _ (by omega)])⟩
    · have hltz : ¬ (i : Int) < (n : Int) := by omega
      go_wp2
      go_end0
      exact ⟨rfl, dj, hsj, by rw [HO.out, show i = n from by omega], S2.out⟩
end Go.Proofs.YtocjjfjcepflnaaDoor
