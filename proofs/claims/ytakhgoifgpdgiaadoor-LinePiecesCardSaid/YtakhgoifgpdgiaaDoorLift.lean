/-
  PROVED HERE: the frame of a law whose row lists variables: the contract is handed what is listed, and the world's shape; rows of texts that came in.
-/
import Derived.Test.YtakhgoifgpdgiaaDoorAwakeW
import Derived.Test.YtakhgoifgpdgiaaDoorTie
import Derived.Test.YtakhgoifgpdgiaaDoorCards
import Derived.ProofKit
import Derived.OpenShut
import Derived.ShutString
import Derived.ChangeOld
import Derived.HandedShaped
import Derived.SizedLaws
import Derived.SliceStrings
import Derived.Lay
import Derived.LaidOnce
import Derived.SevenTiedAt
set_option linter.unusedVariables false
namespace Go.Proofs.YtakhgoifgpdgiaaDoor
open Go.ChangeShapes Go.WideShapes Go.ChangeAt Go.RowKit

/-- Turned from the kit's two: 'laid' and the world's shape, both. -/
theorem returnsInHanded_laid {a : Assume} {C : Checked} {os : Os} {f : FuncId} {fn : Func} {s : ChangeSpec} {conds : List PathCond} {apart fresh handsOn again : Bool} {H : Type} {enc : TypeId × Value → H} {X : World → Array Value → Prop}
    (hX : ∀ (w w' : World) (args : Array Value), w.heap = w'.heap → X w args → X w' args)
    (own : ownKnob C.prog.godebug = none) (started : os.Started) (noInit : C.prog.inits.idxOf? f = none) (hfn : C.prog.funcs[f]? = some fn)
    (witness : ∃ (w : World) (tape : Tape) (i : Input), w.os = os ∧ (w.forCall tape i).Shaped C.prog ∧ i.vars = [] ∧ Input.okWide C.prog (w.forCall tape i) .any w.heap.size f i ∧
      ((s.pre enc C.prog fn conds apart (w.forCall tape i).memory i.args ∧ X (w.forCall tape i).memory i.args) ∧ sizedMet enc C.prog fn (OpenSpec.ofChange s) apart (w.forCall tape i).memory i.args) ∧ a.holds C.prog (lone (Frame.enter C.prog f i.args .normal) [] (w.forCall tape i)))
    (contract : ∀ (W : World) (base : Nat) (args : Array Value) (ds gs : List (DataW H)) (before : List MemPlace),
      (∀ (j : Nat) t v, fn.params[j]? = some t → args[j]? = some v → Value.okWide C.prog W .any base t v) →
      DataW.Whole enc C.prog fn.params.toList s.vars apart W args.toList ds gs before →
      (DataW.weightsEach C.prog (fn.params.toList ++ s.plain.varTypes C.prog) (ds ++ gs)).all (· ≤ reachBytes) = true → X W args →
      W.ShapedOpen C.prog →
      Calls C.prog f args W fun e W' => ∃ v, e = .returned v ∧ s.post enc C.prog fn apart fresh handsOn again W args v W') :
    ReturnsInHanded a C os f .any (fun w args => (s.pre enc C.prog fn conds apart w args ∧ X w args) ∧ sizedMet enc C.prog fn (OpenSpec.ofChange s) apart w args) (s.post enc C.prog fn apart fresh handsOn again) := by
  refine returnsInHanded_of_calls own started noInit witness ?_
  intro w tape i _ hsh _ hok hpre hholds
  obtain ⟨_, _, _, fn', hfn', _, _, _, _, hval⟩ := hok
  have e : fn' = fn := Option.some.inj (hfn'.symm.trans hfn)
  subst e
  obtain ⟨⟨⟨ds, gs, before, hw, hc⟩, hx⟩, hz⟩ := hpre
  have hw' := DataW.Whole.of_heap (w' := w.forCall tape i) (by rfl) hw
  refine (contract (w.forCall tape i) w.heap.size i.args ds gs before hval hw' (hz.weights hw) (hX _ _ _ (by rfl) hx) hsh).mono fun e W' ⟨v, he, hp⟩ => ?_
  subst he
  exact ChangeSpec.post_blind hp

theorem cell0 (W : World) (h : W.ShapedOpen Tryd.prog) : ∃ m, W.cell? ⟨0, 0, none⟩ = some (.int .i64 m) :=
  cell_of_shapedOpen_int (zero := #[.int .i64 0]) (t := 3) h (of_decide_eq_true (by kernel_rfl)) (by kernel_rfl) rfl (by kernel_rfl) (by kernel_rfl) Tryd.underlying3
theorem own : ownKnob Tryd.prog.godebug = none := by kernel_rfl
theorem laidOut : laidOutB Tryd.prog = true := by kernel_rfl

theorem plain_addr {w : World} {x : Addr} {v : Value} (h : w.cell? x = some v) : ∃ b off, x = ⟨b, off, none⟩ ∧ b < w.heap.size := by
  obtain ⟨b, off, s⟩ := x
  have hb : b < w.heap.size := by
    rcases Nat.lt_or_ge b w.heap.size with g | g
    · exact g
    · simp [World.cell?, Array.getElem?_eq_none g] at h
  cases s with
  | none => exact ⟨b, off, rfl, hb⟩
  | some s =>
    exfalso
    unfold World.cell? at h
    split at h
    · simp at h
    · cases h
theorem add_off (g k j : Nat) : (⟨g, k, none⟩ : Addr).add j = ⟨g, k + j, none⟩ := by
  unfold Addr.add
  by_cases h : j = 0
  · subst h; simp
  · simp [h]
theorem weights_strs {H : Type} {P : Program} {e : TypeId} {s : ByteArray} : ∀ {ss : List ByteArray}, s ∈ ss → s.data.toList.length ∈ DataW.weightsAll P e (strs ss : List (DataW H))
  | x :: xs, h => by
    unfold strs
    rw [List.map_cons]
    unfold DataW.weightsAll
    rw [List.mem_append]
    rcases List.mem_cons.1 h with rfl | h
    · exact .inl (by simp [DataW.weights])
    · exact .inr (weights_strs h)
/-- A slice of texts that came in, as a row of texts. -/
theorem strings_in {H : Type} {enc : TypeId × Value → H} {W : World} {a : Option Addr} {len cap : Nat} {d : DataW H} {p : List MemPlace} {ts : List TypeId} {ds : List (DataW H)} {j : Nat} (hsz : (DataW.weightsEach Tryd.prog ts ds).all (· ≤ reachBytes) = true) (ht : ts[j]? = some 22) (hd : ds[j]? = some d)
    (h0 : ∃ fuel, DataW.trod enc Tryd.prog W 0 (fun _ => true) true fuel 22 (Value.slice a len cap).cells.toList = some (d, p)) :
    ∃ l : List (List UInt8), l.length = len ∧ Txs W a l ∧ (∀ x ∈ l, x.length ≤ reachBytes) ∧ l.length ≤ reachBytes := by
  obtain ⟨fuel, hf⟩ := h0
  rcases open_strings Tryd.underlying22 Tryd.underlying9 (by kernel_rfl) hf with ⟨hcs, _⟩ | ⟨x, l, c, ss, hcs, _, hl, hm, hz, hx, hcell, hsl⟩
  · simp [Value.cells] at hcs
    obtain ⟨rfl, rfl, rfl⟩ := hcs
    exact ⟨[], rfl, txs_nil _ _, (fun _ h => nomatch h), Nat.zero_le _⟩
  · simp [Value.cells] at hcs
    obtain ⟨rfl, rfl, rfl⟩ := hcs
    have hz2 : ss.length = cap := by simpa using hz
    obtain ⟨rfl, _⟩ := Prod.mk.inj hx
    have hw1 : ∀ s ∈ ss, s.data.toList.length ≤ reachBytes := fun s hs => by
      have h1 := DataW.weights_mem_each ht hd s.data.toList.length (by
        unfold DataW.weights
        rw [Tryd.underlying22]
        refine List.mem_cons_of_mem _ (List.mem_append.2 ?_)
        rw [← List.take_append_drop len ss] at hs
        rcases List.mem_append.1 hs with h | h
        · exact .inl (weights_strs h)
        · exact .inr (weights_strs h))
      simpa using List.all_eq_true.1 hsz _ h1
    have hw2 := sized_slice hsz ht hd Tryd.underlying22
    have hb : Tryd.prog.bytesOf 9 = 16 := by kernel_rfl
    rw [hb] at hw2
    unfold strs at hw2
    rw [List.length_map, List.length_map, List.length_take, List.length_drop] at hw2
    have hlen : ((ss.take len).map fun s => s.data.toList).length = len := by rw [List.length_map, List.length_take]; omega
    refine ⟨(ss.take len).map fun s => s.data.toList, hlen, fun k hk => ?_, fun y hy => ?_, by rw [hlen]; omega⟩
    · rw [List.length_map, List.length_take] at hk
      obtain ⟨b, off, hx, hb⟩ := plain_addr (hcell 0 (by omega))
      have hx2 : x = ⟨b, off, none⟩ := by
        have e : x.add 0 = x := by unfold Addr.add; simp
        rw [← e, hx]
      subst hx2
      refine ⟨b, off, rfl, ?_⟩
      have h1 := hcell k (by omega)
      rw [add_off] at h1
      rw [h1]
      unfold at'
      rw [List.getD_eq_getElem?_getD, List.getD_eq_getElem?_getD, List.getElem?_map, List.getElem?_take, if_pos (by omega), List.getElem?_eq_getElem (by omega)]
      show some (Value.string ss[k]) = some (Value.string ⟨(ss[k].data.toList).toArray⟩)
      rw [Lib.mk_data]
    · obtain ⟨s, hs, rfl⟩ := List.mem_map.1 hy
      exact hw1 s (List.mem_of_mem_take hs)
end Go.Proofs.YtakhgoifgpdgiaaDoor
