/-
  PROVED HERE: a slice of entries, and a slice of weights, that came in.
-/
import Derived.Test.YtocjjfjcepflnaaDoorLiftE
set_option linter.unusedVariables false
namespace Go.Proofs.YtocjjfjcepflnaaDoor
open Go.ChangeShapes Go.WideShapes Go.ChangeAt Go.RowKit Go.Deep
instance : Inhabited (En × (Nat → To3)) := ⟨(enZ, fun _ => ⟨[], [], 0⟩)⟩
theorem entries_in {H : Type} {enc : TypeId × Value → H} {W : World} {a : Option Addr} {len cap : Nat} {d : DataW H} {p : List MemPlace} {ts : List TypeId} {ds : List (DataW H)} {j : Nat} (hsz : (DataW.weightsEach Tryd.prog ts ds).all (· ≤ reachBytes) = true) (ht : ts[j]? = some 48) (hd : ds[j]? = some d)
    (h0 : ∃ fuel, DataW.trod enc Tryd.prog W 0 (fun _ => true) true fuel 48 (Value.slice a len cap).cells.toList = some (d, p)) :
    ∃ (F : Nat → En) (G : Nat → Nat → To3), Ens W a len F ∧ (∀ k, k < len → Tos W (F k).A (F k).n (G k)) ∧ len ≤ reachBytes := by
  obtain ⟨fuel, hf⟩ := h0
  rcases open_slice Tryd.underlying48 hf with ⟨hcs, _⟩ | ⟨x, l, c, mm, n, D, Pl, hcs, _, hl, hm, hmm, hx, hel⟩
  · simp [Value.cells] at hcs
    obtain ⟨rfl, rfl, rfl⟩ := hcs
    exact ⟨fun _ => enZ, fun _ _ => ⟨[], [], 0⟩, fun k hk => absurd hk (Nat.not_lt_zero _), fun k hk => absurd hk (Nat.not_lt_zero _), Nat.zero_le _⟩
  · simp [Value.cells] at hcs
    obtain ⟨rfl, rfl, rfl⟩ := hcs
    obtain ⟨rfl, _⟩ := Prod.mk.inj hx
    have hlm : len ≤ mm := by rw [hmm]; split <;> omega
    have hw2 := sized_slice hsz ht hd Tryd.underlying48
    have hb : Tryd.prog.bytesOf 41 = 120 := by kernel_rfl
    rw [hb, List.length_map, List.length_range] at hw2
    have each : ∀ i, i < len → ∃ q : En × (Nat → To3), (∀ t (ht : t < (enA q.1).toList.length), W.cell? (x.add (i * 10 + t)) = some (enA q.1).toList[t]) ∧ Tos W q.1.A q.1.n q.2 := fun i hi => by
      obtain ⟨cs', h1, h2⟩ := hel i (by omega)
      rw [cells41] at h1
      obtain ⟨e, g, rfl, hT⟩ := entry_cells h2
      obtain ⟨_, _, hcell⟩ := World.cells?_some h1
      refine ⟨(e, g), fun t ht => ?_, hT⟩
      have e0 := hcell t ht
      rw [add_add] at e0
      exact e0.trans (List.getElem?_eq_getElem ht)
    obtain ⟨q, hq⟩ := choose_lt each
    refine ⟨fun k => (q k).1, fun k => (q k).2, fun k hk => ?_, fun k hk => (hq k hk).2, by omega⟩
    have hk2 := (hq k hk).1
    obtain ⟨b, off, hx2, hb2⟩ := plain_addr ((hq 0 (by omega)).1 0 (by show 0 < 10; omega))
    have hx3 : x = ⟨b, off, none⟩ := by
      have e : x.add (0 * 10 + 0) = x := by unfold Addr.add; simp
      rw [← e, hx2]
    subst hx3
    have z0 := hk2 0 (by show 0 < 10; omega)
    have z1 := hk2 1 (by show 1 < 10; omega)
    have z2 := hk2 2 (by show 2 < 10; omega)
    have z3 := hk2 3 (by show 3 < 10; omega)
    have z4 := hk2 4 (by show 4 < 10; omega)
    have z5 := hk2 5 (by show 5 < 10; omega)
    have z6 := hk2 6 (by show 6 < 10; omega)
    have z7 := hk2 7 (by show 7 < 10; omega)
    have z8 := hk2 8 (by show 8 < 10; omega)
    have z9 := hk2 9 (by show 9 < 10; omega)
    rw [Go.Proofs.YtocjjfjcepflnaaDoor.add_off] at z0 z1 z2 z3 z4 z5 z6 z7 z8 z9
    exact ⟨b, off, rfl, z0, z1, z2, z3, z4, z5, z6, z7, z8, z9⟩
theorem words_in {H : Type} {enc : TypeId × Value → H} {W : World} {a : Option Addr} {len cap : Nat} {d : DataW H} {p : List MemPlace} {ts : List TypeId} {ds : List (DataW H)} {j : Nat} (hsz : (DataW.weightsEach Tryd.prog ts ds).all (· ≤ reachBytes) = true) (ht : ts[j]? = some 49) (hd : ds[j]? = some d)
    (h0 : ∃ fuel, DataW.trod enc Tryd.prog W 0 (fun _ => true) true fuel 49 (Value.slice a len cap).cells.toList = some (d, p)) :
    ∃ h : Nat → UInt64, Wds W a len h ∧ len ≤ reachBytes := by
  obtain ⟨fuel, hf⟩ := h0
  rcases open_slice Tryd.underlying49 hf with ⟨hcs, _⟩ | ⟨x, l, c, mm, n, D, Pl, hcs, _, hl, hm, hmm, hx, hel⟩
  · simp [Value.cells] at hcs
    obtain ⟨rfl, rfl, rfl⟩ := hcs
    exact ⟨fun _ => 0, fun k hk => absurd hk (Nat.not_lt_zero _), Nat.zero_le _⟩
  · simp [Value.cells] at hcs
    obtain ⟨rfl, rfl, rfl⟩ := hcs
    obtain ⟨rfl, _⟩ := Prod.mk.inj hx
    have hlm : len ≤ mm := by rw [hmm]; split <;> omega
    have hw2 := sized_slice hsz ht hd Tryd.underlying49
    have hb : Tryd.prog.bytesOf 36 = 8 := by kernel_rfl
    rw [hb, List.length_map, List.length_range] at hw2
    have each : ∀ i, i < len → ∃ q : UInt64, W.cell? (x.add i) = some (.int .u64 (q.toNat : Int)) := fun i hi => by
      obtain ⟨cs', h1, h2⟩ := hel i (by omega)
      rw [cells36] at h1
      obtain ⟨v, e, _, hwf⟩ := DataW.trod_int Tryd.underlying36 h2
      subst e
      obtain ⟨_, _, hcell⟩ := World.cells?_some h1
      have e0 := hcell 0 (by simp)
      rw [add_add, Nat.mul_one, Nat.add_zero] at e0
      have hv : 0 ≤ v ∧ v < 18446744073709551616 := by
        simp [Lit.wf, IntKind.min, IntKind.max, IntKind.signed, IntKind.bits] at hwf
        omega
      refine ⟨v.toNat.toUInt64, ?_⟩
      have e1 : v.toNat.toUInt64.toNat = v.toNat := by
        show (UInt64.ofNat v.toNat).toNat = _
        rw [UInt64.toNat_ofNat']
        omega
      rw [e1, e0]
      show some (Value.int .u64 v) = some (Value.int .u64 (v.toNat : Int))
      rw [Int.toNat_of_nonneg hv.1]
    obtain ⟨q, hq⟩ := choose_lt each
    refine ⟨q, fun k hk => ?_, by omega⟩
    obtain ⟨b, off, hx2, hb2⟩ := plain_addr (hq 0 (by omega))
    have hx3 : x = ⟨b, off, none⟩ := by
      have e : x.add 0 = x := by unfold Addr.add; simp
      rw [← e, hx2]
    subst hx3
    have h1 := hq k hk
    rw [Go.Proofs.YtocjjfjcepflnaaDoor.add_off] at h1
    exact ⟨b, off, rfl, h1⟩
end Go.Proofs.YtocjjfjcepflnaaDoor
