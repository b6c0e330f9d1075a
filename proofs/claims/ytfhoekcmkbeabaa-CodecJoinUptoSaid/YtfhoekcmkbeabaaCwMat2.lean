/-
  The walks over the sums' matrices: zero.
-/
import Derived.Test.YtfhoekcmkbeabaaCwMat
import Derived.Laws.ResultCell
namespace Go.Proofs.Ytfhoekcmkbeabaa
open Go.RowKit
set_option linter.unusedVariables false

set_option maxRecDepth 100000 in
set_option maxHeartbeats 1000000 in
theorem zero_calls (w : World) :
    Calls Try.prog 61 #[] w fun e w' => ∃ ms, e = .returned (.agg (uv ms).toArray) ∧ MatOf ms (crcSteps 8) ∧ St No w No w' := by
  go_enter Try.func61, Try.ntmps61
  go_wp2
  go_loopw [2, 3, 4] (fun _ _ i wr => ∃ k : Nat, k ≤ 32 ∧ i = .int .i64 k ∧ (∃ ms, Ob wr (w.heap.size + 1) 103 (uv ms).toArray ∧ ms.length = 32 ∧ ∀ j, j < k → ms.getD j 0#32 = crcSteps 8 (1#32 <<< j)) ∧ Ob wr w.heap.size 103 (uv (List.replicate 32 0#32)).toArray ∧ St No w (Nw w) wr) (fun _ _ i _ => 32 - (intOf i).toNat)
  case atStart => exact ⟨0, by omega, rfl, ⟨List.replicate 32 0#32, by have := Ob.alloc (w.alloc (.cells (uv (List.replicate 32 0#32)).toArray 103)) (uv (List.replicate 32 0#32)).toArray 103; rw [World.size_alloc] at this; exact this, by simp, fun j hj => absurd hj (by omega)⟩, (Ob.alloc w (uv (List.replicate 32 0#32)).toArray 103).move (Below.heap_alloc _ _ _ (by simp)), ((St.alloc' No w _).trans (St.alloc' No _ _)).toNew⟩
  case round =>
    obtain ⟨k, hk, rfl, ⟨ms, ho1, hml, hms⟩, ho0, hst⟩ := hrel
    have HO1 := Lib.hid ho1
    have HO0 := Lib.hid ho0
    have HMS := Lib.hid hms
    have HST := Lib.hid hst
    clear ho1 ho0 hms hst
    by_cases hlt : k < 32
    · obtain ⟨s, hs⟩ : ∃ s, (1#32 <<< k : BitVec 32) = s := ⟨_, rfl⟩
      have hp := shl_u32 k hlt
      have hsteps := crcByte_steps s 0#8
      have hres := crc_res s 0#8
      have harg := crc_arg s 0#8
      rw [hs] at hp
      have hx0 : s.setWidth 8 ^^^ 0#8 = s.setWidth 8 := by simp
      rw [hx0] at hres
      have ha : ((s.toNat : Int) % 256) = ((s.setWidth 8).toNat : Int) := by rw [BitVec.toNat_setWidth]; simp
      have hf : crcByte s 0#8 = crcSteps 8 (1#32 <<< k) := by rw [hsteps, hs]; simp
      have HA := Lib.hid ha
      have HF := Lib.hid hf
      have HRES := Lib.hid hres
      clear ha hf hres harg hx0 hsteps hs
      have hc := HO1.out.cell k
      rw [show (uv ms).toArray[k]? = some (.int .u32 ((ms.getD k 0#32).toNat : Int)) by simp [uv, hml, hlt]] at hc
      have hfz := HO1.out.free k
      go_wp2_with (go_at_call 66; rw [HA.out]; refine (eight_calls (s.setWidth 8) wr).mono ?_; rintro e w' ⟨rfl, rfl⟩)
      go_roundw
      case rel =>
        refine ⟨k + 1, by omega, by go_num, ⟨ms.set k (crcSteps 8 (1#32 <<< k)), ?_, by simp [hml], ?_⟩, ?_, ?_⟩
        · rw [HRES.out, HF.out]
          have := HO1.out.set k (.int .u32 ((crcSteps 8 (1#32 <<< k)).toNat : Int))
          rw [uv_set] at this
          exact this
        · intro j hj
          by_cases hjk : j = k
          · subst hjk
            rw [List.getD_eq_getElem?_getD, List.getElem?_set_self (by omega)]
            rfl
          · rw [List.getD_eq_getElem?_getD, List.getElem?_set_ne (Ne.symm hjk), ← List.getD_eq_getElem?_getD]
            exact HMS.out j (by omega)
        · exact HO0.out.move (Below.heap_setCell _ _ _ _ (by simp))
        · exact HST.out.trans (St.setCell wr _ _ (by simp [Nw]))
      case measure => simp [intOf]; omega
    · obtain rfl : k = 32 := by omega
      have hu := Try.underlying103
      go_wp2_with (first
        | (refine wpList_load_row rfl 103 (.tmp 1) rfl (w.heap.size + 1) rfl _ _ _ _ HO1.out hu rfl (uv_info ms hml) ?_)
        | (refine wpList_store_row rfl 103 (.tmp 0) (.tmp 18) rfl w.heap.size _ rfl rfl _ _ HO0.out (uv_info ms hml) (by rw [uv_size ms hml, uv_size _ (by simp)]) (uv_one ms) ?_))
      refine bodyPost_ret (results_cell_row rfl _ _ w.heap.size _ _ _ _ rfl (HO0.out.setRow _) hu rfl (uv_info ms hml)) rfl ?_
      exact ⟨ms, rfl, ⟨hml, HMS.out⟩, (HST.out.trans (St.setRow wr w.heap.size _ (by simp [Nw]))).drop (fun _ h => .inl h)⟩

end Go.Proofs.Ytfhoekcmkbeabaa
