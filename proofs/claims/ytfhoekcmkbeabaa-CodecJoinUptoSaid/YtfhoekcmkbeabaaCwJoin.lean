/-
  The walk over CrcJoin.
-/
import Derived.Test.YtfhoekcmkbeabaaCwMat2
namespace Go.Proofs.Ytfhoekcmkbeabaa
open Go.RowKit
set_option linter.unusedVariables false

theorem and1_i64 (n : Nat) (h : n < 9223372036854775808) : bits .and .i64 (n : Int) 1 = ((n % 2 : Nat) : Int) := by
  have := bits_mask .i64 63 (by decide) (fun n h0 h1 => by rw [IntKind.wrap_i64]; omega) 1 (by decide) (n : Int) (by omega) (by omega)
  simpa using this
theorem join_arith (N P : Nat) (h : N % 2 = 1) : 8 * P + 8 * (N / 2 * (P * 2)) = 8 * (N * P) := by
  obtain ⟨M, rfl⟩ : ∃ M, N = 2 * M + 1 := ⟨N / 2, by omega⟩
  rw [show (2 * M + 1) / 2 = M by omega, Nat.add_mul, Nat.one_mul, Nat.mul_comm P 2, ← Nat.mul_assoc M 2 P, Nat.mul_comm M 2]
  omega
theorem MatOf.twice {ms ts : List (BitVec 32)} {n : Nat} (h : MatOf ms (crcSteps n)) (hl : ts.length = 32) (ht : ∀ i, i < 32 → ts.getD i 0#32 = matTo ms (ms.getD i 0#32) 32) : MatOf ts (crcSteps (n + n)) := by
  refine ⟨hl, fun i hi => ?_⟩
  rw [ht i hi, mat_all ms n h, h.2 i hi, crcSteps_add]

set_option maxRecDepth 100000 in
set_option maxHeartbeats 2000000 in
theorem join_calls (a b : BitVec 32) (n : Int) (hn : n ≤ 9223372036854775807) (w : World) :
    Calls Try.prog 18 #[.int .u32 (a.toNat : Int), .int .u32 (b.toNat : Int), .int .i64 n] w fun e w' => e = .returned (.int .u32 ((crcSteps (8 * n.toNat) a ^^^ b).toNat : Int)) ∧ St No w No w' := by
  have hu := Try.underlying103
  go_enter Try.func18, Try.ntmps18
  go_wp2_with (first
    | (go_at_call 61; refine (zero_calls w).mono ?_; rintro e w1 ⟨ms0, rfl, hm0, hs0⟩; have HM0 := Lib.hid hm0; have HS0 := Lib.hid hs0; have hqw : Nw w w1.heap.size := hs0.size; clear hm0 hs0)
    | (refine wpList_store_row rfl 103 (.tmp 7) (.tmp 10) rfl w1.heap.size _ rfl rfl _ _ (heap_alloc_new w1 _) (uv_info ms0 HM0.out.1) (by rw [uv_size ms0 HM0.out.1]; rfl) (uv_one ms0) ?_))
  have ho := (Ob.alloc w1 (uv (List.replicate 32 0#32)).toArray 103).setRow (uv ms0).toArray
  have hs2 := (HS0.out.trans ((St.alloc' No w1 (.cells (uv (List.replicate 32 0#32)).toArray 103)).toNew.trans (St.setRow _ w1.heap.size (uv ms0).toArray (by simp [Nw])))).toNew
  generalize w1.heap.size = q at *
  have HSt := Lib.hid hs2
  have HOb := Lib.hid ho
  clear hs2 ho
  go_frame
  go_loopw [0, 2, 8, 9, 20] (fun v0 v2 _ _ _ wr => ∃ (x : Int) (acc : BitVec 32) (j : Nat) (ms : List (BitVec 32)), v2 = .int .i64 x ∧ v0 = .int .u32 (acc.toNat : Int) ∧ x ≤ 9223372036854775807 ∧ Hid (crcSteps (8 * (x.toNat * 2 ^ j)) acc = crcSteps (8 * n.toNat) a) ∧ Hid (Ob wr q 103 (uv ms).toArray) ∧ Hid (MatOf ms (crcSteps (8 * 2 ^ j))) ∧ Hid (St No w (Nw w) wr)) (fun _ v2 _ _ _ _ => (intOf v2).toNat)
  case atStart => exact ⟨n, a, 0, ms0, rfl, rfl, hn, Lib.hid (by simp), HOb, Lib.hid (by simpa using HM0.out), HSt⟩
  case round =>
    clear HM0 HOb HSt HS0
    obtain ⟨x, acc, j, ms, rfl, rfl, hx, HE, HO, HM, HS⟩ := hrel
    by_cases hp : 0 < x
    · obtain ⟨N, rfl⟩ := Int.eq_ofNat_of_zero_le (Int.le_of_lt hp)
      have hand0 := and1_i64 N (by omega)
      have hp1 : decide (0 < N) = true := decide_eq_true (by omega)
      rcases Nat.mod_two_eq_zero_or_one N with h2 | h2
      · have hand : bits .and .i64 (N : Int) 1 = 0 := by rw [hand0, h2]; rfl
        clear hand0
        have he2 : crcSteps (8 * (((N : Int) / 2).toNat * 2 ^ (j + 1))) acc = crcSteps (8 * n.toNat) a := by
          rw [← HE.out]
          congr 2
          rw [show ((N : Int) / 2).toNat = N / 2 by omega, Int.toNat_natCast, Nat.pow_succ, Nat.mul_comm (2 ^ j), ← Nat.mul_assoc]
          congr 1
          omega
        have HE2 := Lib.hid he2
        clear he2 h2 HE
        go_wp2
        obtain ⟨wo, rfl⟩ : ∃ wo : World, wo = wr := ⟨_, rfl⟩
        have hqo : q < wo.heap.size := HO.out.lt
        have hws := HS.out.size
        have hs3 := HS.out.trans (St.alloc' (Nw w) wo (.cells (uv (List.replicate 32 0#32)).toArray 103))
        have ho3 : Ob (wo.alloc (.cells (uv (List.replicate 32 0#32)).toArray 103)) q 103 (uv ms).toArray := HO.out.move (Below.heap_alloc _ _ _ hqo)
        have hn3 := Ob.alloc wo (uv (List.replicate 32 0#32)).toArray 103
        have HS3 := Lib.hid hs3
        have HO3 := Lib.hid ho3
        have HN3 := Lib.hid hn3
        clear hs3 ho3 hn3 HO HS
        go_loopw [9, 20] (fun _ v20 w3 => ∃ k : Nat, k ≤ 32 ∧ v20 = .int .i64 k ∧ Hid (Ob w3 q 103 (uv ms).toArray) ∧ (∃ ts, ts.length = 32 ∧ Hid (Ob w3 wo.heap.size 103 (uv ts).toArray) ∧ Hid (∀ i, i < k → ts.getD i 0#32 = matTo ms (ms.getD i 0#32) 32)) ∧ Hid (St No w (Nw w) w3)) (fun _ v20 _ => 32 - (intOf v20).toNat)
        case atStart => exact ⟨0, by omega, rfl, HO3, ⟨List.replicate 32 0#32, by simp, HN3, Lib.hid (fun i hi => absurd hi (by omega))⟩, HS3⟩
        case round =>
          clear HO3 HN3 HS3
          obtain ⟨k, hk, rfl, HOk, ⟨ts, htl, HTk, HV⟩, HSk⟩ := hrel
          by_cases hlt : k < 32
          · have hc := HOk.out.cell k
            rw [show (uv ms).toArray[k]? = some (.int .u32 ((ms.getD k 0#32).toNat : Int)) by simp [uv, HM.out.1, hlt]] at hc
            have hd := HTk.out.cell k
            rw [show (uv ts).toArray[k]? = some (.int .u32 ((ts.getD k 0#32).toNat : Int)) by simp [uv, htl, hlt]] at hd
            have hf := HTk.out.free k
            obtain ⟨mk, hmk⟩ : ∃ mk, ms.getD k 0#32 = mk := ⟨_, rfl⟩
            rw [hmk] at hc
            have HMK := Lib.hid hmk
            clear hmk
            go_wp2_with (go_at_call 62; refine (of_calls q 103 ms HM.out.1 mk _ HOk.out).mono ?_; rintro e w' ⟨rfl, rfl⟩)
            go_roundw
            case rel =>
              refine ⟨k + 1, by omega, by go_num, Lib.hid (HOk.out.move (Below.heap_setCell _ _ _ _ (by simp; omega))), ⟨ts.set k (matTo ms mk 32), by simp [htl], Lib.hid ?_, Lib.hid ?_⟩, Lib.hid (HSk.out.trans (St.setCell _ _ _ (by simp [Nw]; omega)))⟩
              · have := HTk.out.set k (.int .u32 ((matTo ms mk 32).toNat : Int))
                rw [uv_set] at this
                exact this
              · intro i hi
                by_cases hik : i = k
                · subst hik
                  rw [List.getD_eq_getElem?_getD, List.getElem?_set_self (by omega), HMK.out]
                  rfl
                · rw [List.getD_eq_getElem?_getD, List.getElem?_set_ne (Ne.symm hik), ← List.getD_eq_getElem?_getD]
                  exact HV.out i (by omega)
            case measure => simp [intOf]; omega
          · obtain rfl : k = 32 := by omega
            go_wp2_with (first
              | (refine wpList_load_row rfl 103 (.tmp 8) rfl wo.heap.size rfl _ _ _ _ HTk.out hu rfl (uv_info ts htl) ?_)
              | (refine wpList_store_row rfl 103 (.tmp 7) (.tmp 30) rfl q _ rfl rfl _ _ HOk.out (uv_info ts htl) (by rw [uv_size ts htl, uv_size _ HM.out.1]) (uv_one ts) ?_))
            go_frame
            go_roundw
            case rel =>
              refine ⟨_, _, j + 1, ts, rfl, rfl, by omega, HE2, Lib.hid (HOk.out.setRow _), Lib.hid ?_, Lib.hid (HSk.out.trans (St.setRow _ q _ hqw))⟩
              have := HM.out.twice htl (fun i hi => HV.out i hi)
              rw [show 8 * 2 ^ (j + 1) = 8 * 2 ^ j + 8 * 2 ^ j by rw [Nat.pow_succ]; omega]
              exact this
            case measure => simp [intOf]; omega
      · have hand : bits .and .i64 (N : Int) 1 = 1 := by rw [hand0, h2]; rfl
        clear hand0
        have he2 : crcSteps (8 * (((N : Int) / 2).toNat * 2 ^ (j + 1))) (matTo ms acc 32) = crcSteps (8 * n.toNat) a := by
          rw [← HE.out, mat_all ms _ HM.out, ← crcSteps_add]
          congr 1
          rw [show ((N : Int) / 2).toNat = N / 2 by omega, Int.toNat_natCast, Nat.pow_succ]
          exact join_arith N _ h2
        have HE2 := Lib.hid he2
        clear he2 h2 HE
        go_wp2_with (go_at_call 62; refine (of_calls q 103 ms HM.out.1 acc _ HO.out).mono ?_; rintro e w' ⟨rfl, rfl⟩)
        generalize matTo ms acc 32 = acc2 at *
        obtain ⟨wo, rfl⟩ : ∃ wo : World, wo = wr := ⟨_, rfl⟩
        have hqo : q < wo.heap.size := HO.out.lt
        have hws := HS.out.size
        have hs3 := HS.out.trans (St.alloc' (Nw w) wo (.cells (uv (List.replicate 32 0#32)).toArray 103))
        have ho3 : Ob (wo.alloc (.cells (uv (List.replicate 32 0#32)).toArray 103)) q 103 (uv ms).toArray := HO.out.move (Below.heap_alloc _ _ _ hqo)
        have hn3 := Ob.alloc wo (uv (List.replicate 32 0#32)).toArray 103
        have HS3 := Lib.hid hs3
        have HO3 := Lib.hid ho3
        have HN3 := Lib.hid hn3
        clear hs3 ho3 hn3 HO HS
        go_loopw [9, 20] (fun _ v20 w3 => ∃ k : Nat, k ≤ 32 ∧ v20 = .int .i64 k ∧ Hid (Ob w3 q 103 (uv ms).toArray) ∧ (∃ ts, ts.length = 32 ∧ Hid (Ob w3 wo.heap.size 103 (uv ts).toArray) ∧ Hid (∀ i, i < k → ts.getD i 0#32 = matTo ms (ms.getD i 0#32) 32)) ∧ Hid (St No w (Nw w) w3)) (fun _ v20 _ => 32 - (intOf v20).toNat)
        case atStart => exact ⟨0, by omega, rfl, HO3, ⟨List.replicate 32 0#32, by simp, HN3, Lib.hid (fun i hi => absurd hi (by omega))⟩, HS3⟩
        case round =>
          clear HO3 HN3 HS3
          obtain ⟨k, hk, rfl, HOk, ⟨ts, htl, HTk, HV⟩, HSk⟩ := hrel
          by_cases hlt : k < 32
          · have hc := HOk.out.cell k
            rw [show (uv ms).toArray[k]? = some (.int .u32 ((ms.getD k 0#32).toNat : Int)) by simp [uv, HM.out.1, hlt]] at hc
            have hd := HTk.out.cell k
            rw [show (uv ts).toArray[k]? = some (.int .u32 ((ts.getD k 0#32).toNat : Int)) by simp [uv, htl, hlt]] at hd
            have hf := HTk.out.free k
            obtain ⟨mk, hmk⟩ : ∃ mk, ms.getD k 0#32 = mk := ⟨_, rfl⟩
            rw [hmk] at hc
            have HMK := Lib.hid hmk
            clear hmk
            go_wp2_with (go_at_call 62; refine (of_calls q 103 ms HM.out.1 mk _ HOk.out).mono ?_; rintro e w' ⟨rfl, rfl⟩)
            go_roundw
            case rel =>
              refine ⟨k + 1, by omega, by go_num, Lib.hid (HOk.out.move (Below.heap_setCell _ _ _ _ (by simp; omega))), ⟨ts.set k (matTo ms mk 32), by simp [htl], Lib.hid ?_, Lib.hid ?_⟩, Lib.hid (HSk.out.trans (St.setCell _ _ _ (by simp [Nw]; omega)))⟩
              · have := HTk.out.set k (.int .u32 ((matTo ms mk 32).toNat : Int))
                rw [uv_set] at this
                exact this
              · intro i hi
                by_cases hik : i = k
                · subst hik
                  rw [List.getD_eq_getElem?_getD, List.getElem?_set_self (by omega), HMK.out]
                  rfl
                · rw [List.getD_eq_getElem?_getD, List.getElem?_set_ne (Ne.symm hik), ← List.getD_eq_getElem?_getD]
                  exact HV.out i (by omega)
            case measure => simp [intOf]; omega
          · obtain rfl : k = 32 := by omega
            go_wp2_with (first
              | (refine wpList_load_row rfl 103 (.tmp 8) rfl wo.heap.size rfl _ _ _ _ HTk.out hu rfl (uv_info ts htl) ?_)
              | (refine wpList_store_row rfl 103 (.tmp 7) (.tmp 30) rfl q _ rfl rfl _ _ HOk.out (uv_info ts htl) (by rw [uv_size ts htl, uv_size _ HM.out.1]) (uv_one ts) ?_))
            go_frame
            go_roundw
            case rel =>
              refine ⟨_, _, j + 1, ts, rfl, rfl, by omega, HE2, Lib.hid (HOk.out.setRow _), Lib.hid ?_, Lib.hid (HSk.out.trans (St.setRow _ q _ hqw))⟩
              have := HM.out.twice htl (fun i hi => HV.out i hi)
              rw [show 8 * 2 ^ (j + 1) = 8 * 2 ^ j + 8 * 2 ^ j by rw [Nat.pow_succ]; omega]
              exact this
            case measure => simp [intOf]; omega
    · have hx0 : x.toNat = 0 := by omega
      have he := HE.out
      rw [hx0, Nat.zero_mul, Nat.mul_zero] at he
      have HE3 := Lib.hid he
      clear he hx0
      go_wp2
      go_ret
      exact ⟨ret_int (by rw [← HE3.out, bits_xor_u32]; rfl), HS.out.drop (fun _ h => .inl h)⟩

end Go.Proofs.Ytfhoekcmkbeabaa
