/-
  PROVED HERE: LinePieces of the statements answers true (the walk).
-/
import Derived.Test.YtakhgoifgpdgiaaDoorDuo
set_option linter.unusedVariables false
namespace Go.Proofs.YtakhgoifgpdgiaaDoor
open Go.RowKit

set_option maxRecDepth 100000 in
set_option maxHeartbeats 8000000 in
theorem linePieces_any (m : Int) (n : Int) (A : Option Addr) (cap : Nat) (l : List (List UInt8)) (w : World) (hm : w.cell? ⟨0, 0, none⟩ = some (.int .i64 m)) (hn : (Lit.int .u16 n).wf = true) (hT : Txs w A l) (hx : ∀ x ∈ l, x.length ≤ reachBytes) (hl : l.length ≤ reachBytes) :
    Calls Tryd.prog 5 #[.int .u16 n, .slice A l.length cap] w fun e w' => e = .returned (.bool true) ∧ Below w.heap.size w w' := by
  have HW := Lib.hid (awake_at m w hm)
  have h0 : 0 < w.heap.size := World.block_lt_of_cell? _ _ hm
  have HT := Lib.hid hT
  have HX := Lib.hid hx
  have HL := Lib.hid hl
  have hn3 : 0 ≤ n ∧ n ≤ 65535 := by simpa [Lit.wf, IntKind.min, IntKind.max, IntKind.signed, IntKind.bits] using hn
  obtain ⟨hn1, hn2⟩ := hn3
  obtain ⟨N, hN⟩ : ∃ N, N = l.length := ⟨_, rfl⟩
  have HN := Lib.hid hN
  rw [← hN]
  clear hm hT hx hl hN
  have HLG := Lib.hid (fun (W : World) (h : At m w W) => large_any A cap l W (at_txs h HT.out) HX.out HL.out)
  rw [← HN.out] at HLG
  cases hlg : lrg l with
  | true =>
    rw [hlg] at HLG
    go_enter Tryd.func5, Tryd.ntmps5
    go_wp2_with (first
      | (go_at_call 9; refine HW.out.mono ?_; rintro e w1 ⟨rfl, hb⟩; have HA := Lib.hid hb; clear hb)
      | (go_at_call 10; refine (HLG.out _ HA.out).mono ?_; rintro e w' ⟨rfl, rfl⟩))
    go_ret
    exact ⟨rfl, HA.out.below⟩
  | false =>
    rw [hlg] at HLG
    obtain ⟨hl1, hl2⟩ := lrg_false hlg
    have HL2 := Lib.hid hl2
    have hn100 : N ≤ 100 := by rw [HN.out]; exact hl1
    clear hlg hl1 hl2
    have HNEW := Lib.hid (fun W : World => new_in (n % 1000 + 1) W (by omega) (by omega))
    go_enter Tryd.func5, Tryd.ntmps5
    go_wp2_with (first
      | (go_at_call 9; refine HW.out.mono ?_; rintro e w1 ⟨rfl, hb⟩; have HA := Lib.hid hb; clear hb)
      | (go_at_call 10; refine (HLG.out _ HA.out).mono ?_; rintro e w' ⟨rfl, rfl⟩)
      | (go_at_call 22; refine (HNEW.out _).mono ?_; rintro e w' ⟨rfl, rfl⟩))
    have H2 := Lib.hid (duo_new (n := n % 1000 + 1) HA.out)
    generalize w1.heap.size + 1 = c at H2 ⊢
    generalize w1.heap.size = b at H2 ⊢
    generalize (w1.alloc (.cells #[.int .i64 (n % 1000 + 1), .string ⟨#[]⟩, .int .i64 0] 66)).alloc (.cells #[.int .i64 (n % 1000 + 1), .string ⟨#[]⟩, .int .i64 0] 66) = w2 at H2 ⊢
    obtain ⟨p, hp⟩ : ∃ p, p = n % 1000 + 1 := ⟨_, rfl⟩
    rw [← hp] at H2
    clear HLG HNEW HA HW hp
    go_loopw [8, 40] (fun v u wr => ∃ (k : Nat), v = .string ⟨((l.take k).flatten).toArray⟩ ∧ u = .int .i64 k ∧ k ≤ N ∧ Hid (Duo m p w b c wr [] [])) (fun _ u _ => N - (intOf u).toNat)
    case atStart => exact ⟨0, rfl, rfl, Nat.zero_le _, H2⟩
    case round =>
      obtain ⟨k, rfl, rfl, hk, HK⟩ := hrel
      by_cases hlt : k < N
      · have hltz : (k : Int) < (N : Int) := by omega
        have hkl : k < l.length := by rw [← HN.out]; exact hlt
        obtain ⟨b1, o1, rfl, f1⟩ := (at_txs HK.out.at' HT.out) k hkl
        have HFS := Lib.hid (flat_succ l k hkl)
        have hb : (l.take k).flatten.length + (at' l k).length ≤ 4096 := by
          have h1 := congrArg List.length HFS.out
          have h2 := Lin.flat_len (l.take (k + 1))
          have h3 := tot_take_le l (k + 1)
          have h4 := HL2.out
          rw [List.length_append] at h1
          omega
        have hg1 : ¬ 9223372036854775807 < (l.take k).flatten.length + (at' l k).length := by omega
        clear hkl hb
        generalize at' l k = X at *
        generalize (l.take k).flatten = Y at *
        have hcat := mk_append Y X
        go_wp2_with fail
        go_roundw
        case rel => exact ⟨k + 1, by rw [HFS.out], by go_num, by omega, HK⟩
        case measure => simp [intOf]; omega
      · have hltz : ¬ (k : Int) < (N : Int) := by omega
        obtain rfl : k = N := by omega
        rw [show l.take k = l from by rw [HN.out, List.take_length]]
        have HLF : Hid (l.flatten.length ≤ 4096) := by
          show _ ≤ _
          rw [Lin.flat_len]
          exact HL2.out
        have HADD := Lib.hid (duo_cadd h0 HK.out l.flatten (by have := HLF.out; simp only [List.length_nil]; omega))
        go_wp2_with (go_at_call 23; refine HADD.out.mono ?_; rintro e w3 ⟨rfl, h3⟩; have HK3 := Lib.hid h3; clear h3)
        rw [List.nil_append] at HK3
        clear HADD HK
        go_loopw [55] (fun u wr => ∃ (j : Nat) (T : List UInt8), u = .int .i64 j ∧ j ≤ k ∧ Hid ((Lin.spl T).1 = []) ∧ Hid (Duo m p w b c wr T (T ++ (l.drop j).flatten)) ∧ Hid (T.length + (l.drop j).flatten.length ≤ 4096)) (fun u _ => k - (intOf u).toNat)
        case atStart => exact ⟨0, [], rfl, Nat.zero_le _, rfl, HK3, by show _ ≤ _; rw [List.drop_zero, List.length_nil, Nat.zero_add]; exact HLF.out⟩
        case round =>
          obtain ⟨j, T, rfl, hj, HS, HD, HTL⟩ := hrel
          by_cases hjk : j < k
          · have hjz : (j : Int) < (k : Int) := by omega
            have hkl : j < l.length := by rw [← HN.out]; exact hjk
            obtain ⟨b1, o1, rfl, f1⟩ := (at_txs HD.out.at' HT.out) j hkl
            have hfd := flat_drop l j hkl
            rw [hfd] at HD HTL
            clear hfd hkl hltz
            generalize at' l j = X at *
            obtain ⟨Z, hZ⟩ : ∃ Z, (l.drop (j + 1)).flatten = Z := ⟨_, rfl⟩
            rw [hZ] at HD HTL
            have HZE := Lib.hid hZ
            clear hZ
            have hz : T.length + (X.length + Z.length) ≤ 4096 := by
              have := HTL.out
              rw [List.length_append] at this
              exact this
            have HADD := Lib.hid (duo_add h0 HD.out X (by omega))
            rw [← List.append_assoc] at HADD
            have HZ := Lib.hid hz
            clear hz HTL
            go_wp2_with (go_at_call 23; refine HADD.out.mono ?_; rintro e w4 ⟨rfl, h4⟩; have HD4 := Lib.hid h4; clear h4)
            go_loopw [13] (fun _ wr => ∃ V : List UInt8, Hid (Duo m p w b c wr V (V ++ Z)) ∧ Hid (V.length + Z.length ≤ 4096)) (fun _ wr => lenAt b wr)
            case atStart => exact ⟨T ++ X, HD4, by show _ ≤ _; rw [List.length_append]; have := HZ.out; omega⟩
            case round =>
              obtain ⟨V, HV, HVL⟩ := hrel
              have hVb : V.length < 4294967281 := by have := HVL.out; omega
              cases hV : (Lin.spl V).1 with
              | nil =>
                have HNX := Lib.hid (duo_next h0 HV.out hVb)
                unfold nxtV at HNX
                rw [nxt_none hV] at HNX
                have HVN : Hid ((Lin.spl V).1 = []) := hV
                clear hV hVb
                go_wp2_with (go_at_call 24; refine HNX.out.mono ?_; rintro e w5 ⟨rfl, h5⟩; have HV5 := Lib.hid h5; clear h5)
                go_roundw
                case rel => exact ⟨j + 1, V, by go_num, by omega, HVN, by rw [HZE.out]; exact HV5, by rw [HZE.out]; exact HVL⟩
                case measure => simp [intOf]; omega
              | cons x q =>
                obtain ⟨e1, e2, e3⟩ := Lin.nxt_append p V Z x q hV
                have HNX := Lib.hid (duo_next h0 HV.out hVb)
                have HCX := Lib.hid (fun (W : World) (V' : List UInt8) (h : Duo m p w b c W V' (V ++ Z)) => duo_cnext h0 h (by have := HVL.out; rw [List.length_append]; omega))
                unfold nxtV at HNX HCX
                rw [e2] at HNX
                rw [e1] at HCX
                simp only at HCX
                have HE3 := Lib.hid e3
                have HLV := Lib.hid (lenAt_duo HV.out)
                clear hV hVb e1 e2 e3
                unfold sV at HNX HCX
                generalize (Lin.nxt p V).1 = y1 at *
                generalize (Lin.nxt p V).2.1 = y2 at *
                generalize (Lin.nxt p V).2.2.2 = y4 at *
                go_wp2_with fail
                refine HNX.out.mono ?_
                rintro e w5 ⟨rfl, h5⟩
                have HV5 := Lib.hid h5
                clear h5
                go_wp2_with fail
                refine (HCX.out _ _ HV5.out).mono ?_
                rintro e w6 ⟨rfl, h6⟩
                have HV6 := Lib.hid h6
                clear h6
                go_wp2_with fail
                go_roundw
                case rel => exact ⟨y4, HV6, by show _ ≤ _; have := HVL.out; have := HE3.out; omega⟩
                case measure => rw [lenAt_duo HV6.out, HLV.out]; exact HE3.out
          · have hjz : ¬ (j : Int) < (k : Int) := by omega
            obtain rfl : j = k := by omega
            rw [show (l.drop j).flatten = [] from by rw [HN.out, List.drop_length]; rfl, List.append_nil] at HD
            have HTB : Hid (T.length < 4294967281) := by have := HTL.out; show _ < _; omega
            have HCX := Lib.hid (duo_cnext h0 HD.out HTB.out)
            unfold nxtV at HCX
            rw [nxt_none HS.out] at HCX
            clear HTL
            go_wp2_with (go_at_call 24; refine HCX.out.mono ?_; rintro e w5 ⟨rfl, h5⟩; have HV5 := Lib.hid h5; clear h5)
            refine (duo_len HV5.out).mono ?_
            rintro e w' ⟨rfl, rfl⟩
            go_wp2_with fail
            refine (duo_len (duo_turn HV5.out)).mono ?_
            rintro e w' ⟨rfl, rfl⟩
            go_wp2_with fail
            go_ret
            exact ⟨rfl, HV5.out.at'.below⟩
end Go.Proofs.YtakhgoifgpdgiaaDoor
