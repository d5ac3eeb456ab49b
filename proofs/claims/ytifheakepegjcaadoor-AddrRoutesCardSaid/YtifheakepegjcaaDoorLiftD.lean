/-
  PROVED HERE: a slice of texts that came in.
-/
import Derived.Test.YtifheakepegjcaaDoorLiftB
import Derived.Test.YtifheakepegjcaaDoorRoutesW
set_option linter.unusedVariables false
namespace Go.Proofs.YtifheakepegjcaaDoor
open Go.ChangeShapes Go.WideShapes Go.ChangeAt Go.RowKit
theorem weights_strs {H : Type} {P : Program} {e : TypeId} {s : ByteArray} : ∀ {ss : List ByteArray}, s ∈ ss → s.data.toList.length ∈ DataW.weightsAll P e (strs ss : List (DataW H))
  | x :: xs, h => by
    unfold strs
    rw [List.map_cons]
    unfold DataW.weightsAll
    rw [List.mem_append]
    rcases List.mem_cons.1 h with rfl | h
    · exact .inl (by simp [DataW.weights])
    · exact .inr (weights_strs h)
/-- A slice of texts that came in, as a row of texts. -/
theorem strings_in {H : Type} {enc : TypeId × Value → H} {W : World} {a : Option Addr} {len cap : Nat} {d : DataW H} {p : List MemPlace} {ts : List TypeId} {ds : List (DataW H)} {j : Nat} (hsz : (DataW.weightsEach Tryd.prog ts ds).all (· ≤ reachBytes) = true) (ht : ts[j]? = some 48) (hd : ds[j]? = some d)
    (h0 : ∃ fuel, DataW.trod enc Tryd.prog W 0 (fun _ => true) true fuel 48 (Value.slice a len cap).cells.toList = some (d, p)) :
    ∃ l : List (List UInt8), l.length = len ∧ Txs W a l ∧ (∀ x ∈ l, x.length ≤ reachBytes) ∧ l.length ≤ reachBytes := by
  obtain ⟨fuel, hf⟩ := h0
  rcases open_strings Tryd.underlying48 Tryd.underlying9 (by kernel_rfl) hf with ⟨hcs, _⟩ | ⟨x, l, c, ss, hcs, _, hl, hm, hz, hx, hcell, hsl⟩
  · simp [Value.cells] at hcs
    obtain ⟨rfl, rfl, rfl⟩ := hcs
    exact ⟨[], rfl, txs_nil _ _, (fun _ h => nomatch h), Nat.zero_le _⟩
  · simp [Value.cells] at hcs
    obtain ⟨rfl, rfl, rfl⟩ := hcs
    have hz2 : ss.length = cap := by simpa using hz
    obtain ⟨rfl, _⟩ := Prod.mk.inj hx
    have hw1 : ∀ s ∈ ss, s.data.toList.length ≤ reachBytes := fun s hs => by
      have h1 := DataW.weights_mem_each ht hd s.data.toList.length (by
        unfold DataW.weights
        rw [Tryd.underlying48]
        refine List.mem_cons_of_mem _ (List.mem_append.2 ?_)
        rw [← List.take_append_drop len ss] at hs
        rcases List.mem_append.1 hs with h | h
        · exact .inl (weights_strs h)
        · exact .inr (weights_strs h))
      simpa using List.all_eq_true.1 hsz _ h1
    have hw2 := sized_slice hsz ht hd Tryd.underlying48
    have hb : Tryd.prog.bytesOf 9 = 16 := by kernel_rfl
    rw [hb] at hw2
    unfold strs at hw2
    rw [List.length_map, List.length_map, List.length_take, List.length_drop] at hw2
    have hlen : ((ss.take len).map fun s => s.data.toList).length = len := by rw [List.length_map, List.length_take]; omega
    refine ⟨(ss.take len).map fun s => s.data.toList, hlen, fun k hk => ?_, fun y hy => ?_, by rw [hlen]; omega⟩
    · rw [List.length_map, List.length_take] at hk
      obtain ⟨b, off, hx, hb⟩ := plain_addr (hcell 0 (by omega))
      have hx2 : x = ⟨b, off, none⟩ := by
        have e : x.add 0 = x := by unfold Addr.add; simp
        rw [← e, hx]
      subst hx2
      refine ⟨b, off, rfl, ?_⟩
      have h1 := hcell k (by omega)
      rw [add_off] at h1
      rw [h1]
      unfold at'
      rw [List.getD_eq_getElem?_getD, List.getD_eq_getElem?_getD, List.getElem?_map, List.getElem?_take, if_pos (by omega), List.getElem?_eq_getElem (by omega)]
      show some (Value.string ss[k]) = some (Value.string ⟨(ss[k].data.toList).toArray⟩)
      rw [Lib.mk_data]
    · obtain ⟨s, hs, rfl⟩ := List.mem_map.1 hy
      exact hw1 s (List.mem_of_mem_take hs)
theorem addrRoutes_any (m : Int) (l d : List UInt8) (A : Option Addr) (cap : Nat) (ls : List (List UInt8)) (w : World) (hm : w.cell? ⟨0, 0, none⟩ = some (.int .i64 m)) (hl : l.length ≤ maxLen) (hd : d.length ≤ maxLen) (hT : Txs w A ls) (hx : ∀ x ∈ ls, x.length ≤ reachBytes) (hn : ls.length ≤ reachBytes) :
    Calls Tryd.prog 8 #[.agg #[.string ⟨l.toArray⟩, .string ⟨d.toArray⟩], .slice A ls.length cap] w fun e w' => e = .returned (.bool true) ∧ Below w.heap.size w w' :=
  routesw_any l d A cap ls m w hl hd hT (fun x h => Nat.le_trans (hx x h) (by decide +kernel)) (Nat.le_trans hn (by decide +kernel)) hm
end Go.Proofs.YtifheakepegjcaaDoor
