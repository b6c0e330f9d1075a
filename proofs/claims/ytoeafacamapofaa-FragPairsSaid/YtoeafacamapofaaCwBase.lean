
/-
  The walks over the sums of package codec: eight, CrcMore, Crc.
-/
import Derived.Test.YtoeafacamapofaaBytes
import Derived.Test.YtoeafacamapofaaCrcMath
import Derived.WalkKit
import Derived.WalkSpells
import Derived.WalkLawsBesides
import Derived.KernelRfl
import Derived.Lib.Hide
import Derived.Deep.LoopGhost
import Derived.Deep.QuietTactic
import Derived.BigQuiet
namespace Go.Proofs.Ytoeafacamapofaa
open Go.RowKit

theorem crcStep_odd (r : BitVec 32) (h : (bits .and .u32 (r.toNat : Int) 1 == 1) = true) :
    bits .xor .u32 ((r.toNat : Int) / 2) 2197175160 = ((crcStep r).toNat : Int) := by
  have e := bits_and_u32 r 1#32
  have h1 : ((1#32).toNat : Int) = 1 := by decide
  rw [h1] at e
  rw [e] at h
  have hb : r.getLsbD 0 = true := by
    have h2 : (r &&& 1#32) = 1#32 := by
      apply BitVec.eq_of_toNat_eq
      have h3 : (((r &&& 1#32).toNat : Nat) : Int) = ((1 : Nat) : Int) := beq_iff_eq.mp h
      have h4 := Int.ofNat.inj h3
      rw [h4]; rfl
    have := congrArg (fun x => x.getLsbD 0) h2
    simpa using this
  have e2 := bits_xor_u32 (r >>> 1) 2197175160#32
  have e3 : ((2197175160#32).toNat : Int) = 2197175160 := by decide
  have e4 : (((r >>> 1).toNat : Nat) : Int) = (r.toNat : Int) / 2 := by
    rw [BitVec.toNat_ushiftRight, Nat.shiftRight_eq_div_pow]; simp
  rw [e3, e4] at e2
  rw [e2]
  unfold crcStep
  rw [if_pos hb]
theorem crcStep_even (r : BitVec 32) (h : (bits .and .u32 (r.toNat : Int) 1 == 1) = false) :
    (r.toNat : Int) / 2 = ((crcStep r).toNat : Int) := by
  have e := bits_and_u32 r 1#32
  have h1 : ((1#32).toNat : Int) = 1 := by decide
  rw [h1] at e
  rw [e] at h
  have hb : r.getLsbD 0 = false := by
    cases hb : r.getLsbD 0
    · rfl
    · exfalso
      have h2 : (r &&& 1#32) = 1#32 := by
        apply BitVec.eq_of_getLsbD_eq
        intro i hi
        rw [BitVec.getLsbD_and]
        by_cases h0 : i = 0
        · subst h0; simp [hb]
        · have : (1#32).getLsbD i = false := by
            rw [BitVec.getLsbD_one]; simp [h0]
          simp [this]
      rw [h2] at h
      simp at h
  have e4 : (((r >>> 1).toNat : Nat) : Int) = (r.toNat : Int) / 2 := by
    rw [BitVec.toNat_ushiftRight, Nat.shiftRight_eq_div_pow]; simp
  unfold crcStep
  rw [hb, ← e4]
  simp

set_option maxHeartbeats 1000000 in
theorem eight_calls (b : BitVec 8) (w : World) :
    Calls Try.prog 135 #[.int .u8 (b.toNat : Int)] w fun e w' => e = .returned (.int .u32 ((crcEight b).toNat : Int)) ∧ w = w' := by
  have h0 : (b.toNat : Int) = ((crcSteps 0 (b.setWidth 32)).toNat : Int) := by
    have := b.isLt
    simp only [crcSteps, BitVec.toNat_setWidth]
    omega
  have H0 := Lib.hid h0
  clear h0
  go_enter Try.func135, Try.ntmps135
  go_wp2
  go_loop [3, 7] (fun r i => ∃ k : Nat, k ≤ 8 ∧ i = .int .i64 k ∧ r = .int .u32 ((crcSteps k (b.setWidth 32)).toNat : Int)) (fun _ i => 8 - (intOf i).toNat)
  case atStart => exact ⟨0, by omega, rfl, by rw [← H0.out]⟩
  case round =>
    obtain ⟨k, hk, rfl, rfl⟩ := hrel
    have hs : crcSteps (k + 1) (b.setWidth 32) = crcStep (crcSteps k (b.setWidth 32)) := rfl
    have HS := Lib.hid hs
    clear hs
    by_cases hlt : k < 8
    · generalize hr : crcSteps k (b.setWidth 32) = r at *
      clear hr
      by_cases hb : (bits .and .u32 (r.toNat : Int) 1 == 1) = true
      · have ho := Lib.hid (crcStep_odd r hb)
        go_wp2
        go_round
        case rel => exact ⟨k + 1, by omega, by go_num, by rw [HS.out, ← ho.out]⟩
        case measure => simp [intOf]; omega
      · have hb : (bits .and .u32 (r.toNat : Int) 1 == 1) = false := by simpa using hb
        have ho := Lib.hid (crcStep_even r hb)
        go_wp2
        go_round
        case rel => exact ⟨k + 1, by omega, by go_num, by rw [HS.out, ← ho.out]⟩
        case measure => simp [intOf]; omega
    · have : k = 8 := by omega
      subst this
      go_wp2
      go_ret
      exact ⟨rfl, rfl⟩


theorem crc_arg (r : BitVec 32) (b : B8) : bits .xor .u8 ((r.toNat : Int) % 256) (b.toNat : Int) = ((r.setWidth 8 ^^^ b).toNat : Int) := by
  rw [← bits_xor_u8]
  congr 1
theorem crc_res (r : BitVec 32) (b : B8) : bits .xor .u32 ((r.toNat : Int) / 256) ((crcEight (r.setWidth 8 ^^^ b)).toNat : Int) = ((crcByte r b).toNat : Int) := by
  unfold crcByte
  rw [← bits_xor_u32]
  congr 1
  rw [BitVec.toNat_ushiftRight, Nat.shiftRight_eq_div_pow]; simp
set_option maxHeartbeats 1000000 in
theorem crcMore_calls (crc : BitVec 32) (a : Option Addr) (c : Nat) (xs : List B8) (hn : xs.length ≤ maxLen) (w : World) (hb : Bs w a xs) :
    Calls Try.prog 120 #[.int .u32 (crc.toNat : Int), .slice a xs.length c] w fun e w' => e = .returned (.int .u32 ((crcMoreB crc xs).toNat : Int)) ∧ w = w' := by
  unfold maxLen at hn
  have HB := Lib.hid hb
  clear hb
  go_enter Try.func120, Try.ntmps120
  go_wp2
  go_loop [5, 7, 12] (fun r _ i => ∃ k : Nat, k ≤ xs.length ∧ i = .int .i64 k ∧ r = .int .u32 (((xs.take k).foldl crcByte (~~~ crc)).toNat : Int)) (fun _ _ i => xs.length - (intOf i).toNat)
  case atStart => exact ⟨0, Nat.zero_le _, rfl, by rw [bits_not_u32]; rfl⟩
  case round =>
    obtain ⟨k, hk, rfl, rfl⟩ := hrel
    by_cases hlt : k < xs.length
    · have hs := foldl_take_succ crcByte (~~~ crc) xs k hlt
      generalize (xs.take k).foldl crcByte (~~~ crc) = r at *
      have HS := Lib.hid hs
      clear hs
      obtain ⟨x, rfl, hc⟩ := HB.out.at k hlt
      generalize xs[k] = b at *
      have hx := crc_arg r b
      have HX := Lib.hid hx
      clear hx
      go_wp2_with (go_at_call 135; rw [HX.out]; refine (eight_calls _ _).mono ?_; rintro e w' ⟨rfl, rfl⟩)
      go_round
      case rel => exact ⟨k + 1, by omega, by go_num, by rw [HS.out, ← crc_res]⟩
      case measure => simp [intOf]; omega
    · have : k = xs.length := by omega
      subst this
      go_wp2
      go_ret
      exact ⟨ret_int (bits_not_u32 _), rfl⟩

theorem crc_calls (a : Option Addr) (c : Nat) (xs : List B8) (hn : xs.length ≤ maxLen) (w : World) (hb : Bs w a xs) :
    Calls Try.prog 85 #[.slice a xs.length c] w fun e w' => e = .returned (.int .u32 ((crcB xs).toNat : Int)) ∧ w = w' := by
  have HB := Lib.hid hb
  clear hb
  go_enter Try.func85, Try.ntmps85
  go_wp2_with (go_at_call 120; refine (crcMore_calls 0#32 a c xs hn _ HB.out).mono ?_; rintro e w' ⟨rfl, rfl⟩)
  go_ret
  exact ⟨rfl, rfl⟩

end Go.Proofs.Ytoeafacamapofaa
