
/-
  The walk over the statement's turning of bits.
-/
import Derived.Test.YtfhoekcmkbeabaaCwLists
import Derived.Test.YtfhoekcmkbeabaaCrcMath
import Derived.RegionTactic
namespace Go.Proofs.Ytfhoekcmkbeabaa
open Go.RowKit
set_option linter.unusedVariables false

set_option maxRecDepth 100000 in
set_option maxHeartbeats 1000000 in
theorem turn_calls (a : Option Addr) (c : Nat) (xs : List B8) (hac : a = none → c = 0) (hl : xs.length ≤ 140737488355328) (at_ : Nat) (hat : at_ < 8 * xs.length) (mask : BitVec 32) (w : World) (ha : Bs w a xs) :
    Calls Try.prog 16 #[.slice a xs.length c, .int .i64 at_, .int .u32 (mask.toNat : Int)] w fun e w' => ∃ v, e = .returned v ∧ OwB w' v (turnTo at_ mask 32 xs) ∧ St No w (fpV v) w' ∧ ∃ g cap, v = .slice (some ⟨g, 0, none⟩) (turnTo at_ mask 32 xs).length cap := by
  have HA := Lib.hid ha
  clear ha
  go_enter Try.func16, Try.ntmps16
  go_wp2_with (go_at_call 29; refine (two_calls a c xs none 0 [] hac (fun _ => rfl) (by simp; omega) _ HA.out (Rd.nil _ _)).mono ?_; rintro e w1 ⟨v, rfl, ho, hs, g, cap, rfl⟩)
  rw [List.append_nil] at *
  go_loopw [8, 9] (fun i _ wr => ∃ k : Nat, k ≤ 32 ∧ i = .int .i64 k ∧ Hid (OwB wr (.slice (some ⟨g, 0, none⟩) xs.length cap) (turnTo at_ mask k xs)) ∧ Hid (St No w (fpV (.slice (some ⟨g, 0, none⟩) xs.length cap)) wr)) (fun i _ _ => 32 - (intOf i).toNat)
  case atStart => exact ⟨0, by omega, rfl, Lib.hid ho, Lib.hid hs⟩
  case round =>
    obtain ⟨k, hk, rfl, HO, HS⟩ := hrel
    clear ho hs
    by_cases hlt : k < 32
    · have hT := turnTo_len at_ mask k xs
      obtain ⟨j, hj⟩ : ∃ j : Nat, (at_ + k) / 8 = j := ⟨_, rfl⟩
      obtain ⟨m, hm⟩ : ∃ m : Nat, (at_ + k) % 8 = m := ⟨_, rfl⟩
      have hj1 : ((at_ : Int) + (k : Int)) / 8 = (j : Int) := by omega
      have hm1 : ((at_ : Int) + (k : Int)) % 8 = (m : Int) := by omega
      have hm8 : m < 8 := by omega
      have HJ := Lib.hid hj
      have HM := Lib.hid hm
      clear hj hm
      by_cases hb : bits .and .u32 ((mask.toNat : Int) / 2 ^ k) 1 = 1
      · by_cases hjl : j < xs.length
        · obtain ⟨y, hy⟩ : ∃ y : B8, (turnTo at_ mask k xs).getD j 0 = y := ⟨_, rfl⟩
          have hc := HO.out.cell j (by omega)
          rw [show (turnTo at_ mask k xs)[j]'(by omega) = y by rw [← hy, List.getD_eq_getElem?_getD]; simp [show j < (turnTo at_ mask k xs).length by omega]] at hc
          have hf := HO.out.free j
          have HY := Lib.hid hy
          clear hy
          go_wp2
          go_region
          go_wp2
          go_roundw
          case rel =>
            refine ⟨k + 1, by omega, by go_num, Lib.hid ?_, Lib.hid ?_⟩
            · have hs := HO.out.set hT.symm j (y ^^^ (1#8 <<< m))
              rw [← xor_shl_u8 y m hm8] at hs
              simp only [turnTo]
              rw [if_pos ⟨(mask_bit mask k).1 hb, by rw [HJ.out, hT]; exact hjl⟩, HJ.out, HM.out, HY.out]
              exact hs
            · exact HS.out.trans ((St.setCell wr ⟨g, j, none⟩ _ (by simp [fpV, Value.ownBlock])).trans (St.drew _ _))
          case measure => simp [intOf]; omega
        · go_wp2
          go_roundw
          case rel =>
            refine ⟨k + 1, by omega, by go_num, Lib.hid ?_, HS⟩
            simp only [turnTo]
            rw [if_neg (by rw [HJ.out, hT]; exact fun h => hjl h.2)]
            exact HO.out
          case measure => simp [intOf]; omega
      · go_wp2
        go_roundw
        case rel =>
          refine ⟨k + 1, by omega, by go_num, Lib.hid ?_, HS⟩
          simp only [turnTo]
          rw [if_neg (fun h => hb ((mask_bit mask k).2 h.1))]
          exact HO.out
        case measure => simp [intOf]; omega
    · obtain rfl : k = 32 := by omega
      go_wp2
      go_ret
      refine ⟨_, rfl, HO.out, HS.out, ?_⟩
      rw [turnTo_len]
      exact ⟨g, cap, rfl⟩

end Go.Proofs.Ytfhoekcmkbeabaa
