
/-
  The walk over the reference's register, and the sums that call it.
-/
import Derived.Test.YtfhoekcmkbeabaaCwRef
namespace Go.Proofs.Ytfhoekcmkbeabaa
open Go.RowKit
set_option linter.unusedVariables false
set_option linter.unusedSimpArgs false

theorem xor_bool (a b : Bool) : bits .xor .u64 (a.toNat : Int) (b.toNat : Int) = ((a != b).toNat : Int) := by cases a <;> cases b <;> decide
theorem xor_bool0 (b : Bool) : bits .xor .u64 0 (b.toNat : Int) = (b.toNat : Int) := by cases b <;> decide
theorem bit_u8 (y : BitVec 8) (k : Nat) : bits .and .u64 ((y.toNat : Int) / 2 ^ k) 1 = ((y.getLsbD k).toNat : Int) := by
  have h := bit_u64 (y.setWidth 32) k
  have hy := y.isLt
  have e : (y.setWidth 32).toNat = y.toNat := by rw [BitVec.toNat_setWidth, Nat.mod_eq_of_lt (by omega)]
  rw [e, BitVec.getLsbD_setWidth] at h
  rw [h]
  by_cases hk : k < 32
  · simp [hk]
  · rw [BitVec.getLsbD_of_ge y k (by omega)]; simp

theorem wrap_div (n k : Nat) (h : n < 18446744073709551616) : IntKind.u64.wrap ((n : Int) / 2 ^ k) = (n : Int) / 2 ^ k := by
  rw [wrap_u64]
  have e4 : (((n / 2 ^ k : Nat)) : Int) = (n : Int) / 2 ^ k := by simp
  have hle : n / 2 ^ k ≤ n := Nat.div_le_self _ _
  rw [← e4]
  exact Int.emod_eq_of_lt (Int.natCast_nonneg _) (Int.ofNat_lt.mpr (Nat.lt_of_le_of_lt hle h))
theorem bit_u64w (p : BitVec 32) (k : Nat) : bits .and .u64 (IntKind.u64.wrap ((p.toNat : Int) / 2 ^ k)) 1 = ((p.getLsbD k).toNat : Int) := by
  rw [wrap_div _ _ (by have := p.isLt; omega)]; exact bit_u64 p k
theorem bit_u8w (p : BitVec 8) (k : Nat) : bits .and .u64 (IntKind.u64.wrap ((p.toNat : Int) / 2 ^ k)) 1 = ((p.getLsbD k).toNat : Int) := by
  rw [wrap_div _ _ (by have := p.isLt; omega)]; exact bit_u8 p k
/-- the reference's stream of bits -/
def refS (r : BitVec 32) (xs : List B8) (i : Nat) : Bool := (decide (i < 8 * xs.length) && bitAt xs i) != (decide (i < 32) && r.getLsbD i)

set_option maxRecDepth 100000 in
set_option maxHeartbeats 2000000 in
theorem register_calls (r : BitVec 32) (a : Option Addr) (c : Nat) (xs : List B8) (hn : xs.length ≤ 140737488355328) (w : World) (hb : Bs w a xs) :
    Calls Try.prog 67 #[.int .u32 (r.toNat : Int), .slice a xs.length c] w fun e w' => e = .returned (.int .u32 ((xs.foldl crcByte r).toNat : Int)) ∧ w = w' := by
  have HB := Lib.hid hb
  clear hb
  have hend : ((divN (refS r xs) (8 * xs.length + 32)).reverse.toNat : Int) = ((xs.foldl crcByte r).toNat : Int) := by
    rw [register_ref r xs (refS r xs) (fun _ => rfl)]
  have HEND := Lib.hid hend
  clear hend
  generalize hR : (((xs.foldl crcByte r).toNat : Nat) : Int) = R at *
  clear hR
  go_enter Try.func67, Try.ntmps67
  go_wp2
  go_loop [5, 7, 8] (fun x i _ => ∃ k : Nat, k ≤ 8 * xs.length + 32 ∧ i = .int .i64 k ∧ x = .int .u64 ((divN (refS r xs) k).toNat : Int)) (fun _ i _ => 8 * xs.length + 32 - (intOf i).toNat)
  case atStart => exact ⟨0, by omega, rfl, rfl⟩
  case round =>
    obtain ⟨k, hk, rfl, rfl⟩ := hrel
    by_cases hlt : k < 8 * xs.length + 32
    · have hx : divN (refS r xs) (k + 1) = stepP (divN (refS r xs) k) (refS r xs k) := rfl
      have HX := Lib.hid hx
      clear hx
      generalize divN (refS r xs) k = x at *
      have hr := bit_u64w r k
      generalize hrk : r.getLsbD k = rk at *
      by_cases h1 : k < 8 * xs.length
      · obtain ⟨j, hj⟩ : ∃ j : Nat, k / 8 = j := ⟨_, rfl⟩
        obtain ⟨m, hm⟩ : ∃ m : Nat, k % 8 = m := ⟨_, rfl⟩
        have hj1 : (k : Int) / 8 = (j : Int) := by omega
        have hm1 : (k : Int) % 8 = (m : Int) := by omega
        have hm8 : m < 8 := by omega
        have hjl : j < xs.length := by omega
        obtain ⟨ad, rfl, hc⟩ := HB.out.at j hjl
        have hy : bitAt xs k = (xs[j]).getLsbD m := by
          unfold bitAt
          rw [hj, hm, List.getD_eq_getElem?_getD, List.getElem?_eq_getElem hjl]; rfl
        have hbit := bit_u8w xs[j] m
        rw [← hy] at hbit
        generalize xs[j] = y at *
        generalize hbk : bitAt xs k = bk at *
        by_cases h2 : k < 32
        · have hs : refS r xs k = (bk != rk) := by unfold refS; rw [hbk, hrk]; simp [h1, h2]
          have HS := Lib.hid hs
          have hxx := xor_bool bk rk
          clear hs hy hj hm hrk hbk
          go_wp2_with (go_at_call 102; refine (step_calls x (bk != rk) _).mono ?_; rintro e w' ⟨rfl, rfl⟩)
          go_round
          case rel => exact ⟨k + 1, by omega, by go_num, by rw [HX.out, HS.out]⟩
          case measure => simp [intOf]; omega
        · have hs : refS r xs k = bk := by unfold refS; rw [hbk, hrk]; simp [h1, h2]
          have HS := Lib.hid hs
          clear hs hy hj hm hrk hbk hr
          go_wp2_with (go_at_call 102; refine (step_calls x bk _).mono ?_; rintro e w' ⟨rfl, rfl⟩)
          go_round
          case rel => exact ⟨k + 1, by omega, by go_num, by rw [HX.out, HS.out]⟩
          case measure => simp [intOf]; omega
      · by_cases h2 : k < 32
        · have hs : refS r xs k = rk := by unfold refS; rw [hrk]; simp [h1, h2]
          have HS := Lib.hid hs
          have hxx := xor_bool0 rk
          clear hs hrk
          go_wp2_with (go_at_call 102; refine (step_calls x rk _).mono ?_; rintro e w' ⟨rfl, rfl⟩)
          go_round
          case rel => exact ⟨k + 1, by omega, by go_num, by rw [HX.out, HS.out]⟩
          case measure => simp [intOf]; omega
        · have hs : refS r xs k = false := by unfold refS; simp [h1, h2]
          have HS := Lib.hid hs
          clear hs hrk hr
          go_wp2_with (go_at_call 102; refine (step_calls x false _).mono ?_; rintro e w' ⟨rfl, rfl⟩)
          go_round
          case rel => exact ⟨k + 1, by omega, by go_num, by rw [HX.out, HS.out]⟩
          case measure => simp [intOf]; omega
    · obtain rfl : k = 8 * xs.length + 32 := by omega
      generalize divN (refS r xs) (8 * xs.length + 32) = x at *
      generalize hz : x.reverse = z at *
      go_wp2_with (go_at_call 63; refine (turned_calls x _).mono ?_; rintro e w' ⟨rfl, rfl⟩)
      go_ret
      exact ⟨ret_int HEND.out, rfl⟩

theorem bits_xor_ones (r : BitVec 32) : bits .xor .u32 (r.toNat : Int) 4294967295 = ((~~~ r).toNat : Int) := by
  have h : (4294967295 : Int) = ((BitVec.allOnes 32).toNat : Int) := by decide
  rw [h, bits_xor_u32, BitVec.xor_allOnes]

theorem refCrcMore_calls (crc : BitVec 32) (a : Option Addr) (c : Nat) (xs : List B8) (hn : xs.length ≤ 140737488355328) (w : World) (hb : Bs w a xs) :
    Calls Try.prog 23 #[.int .u32 (crc.toNat : Int), .slice a xs.length c] w fun e w' => e = .returned (.int .u32 ((crcMoreB crc xs).toNat : Int)) ∧ w = w' := by
  have HB := Lib.hid hb
  clear hb
  have hx := bits_xor_ones crc
  have HY := Lib.hid (bits_xor_ones (xs.foldl crcByte (~~~ crc)))
  generalize hq : (~~~ crc) = q at *
  go_enter Try.func23, Try.ntmps23
  go_wp2_with (go_at_call 67; refine (register_calls q a c xs hn _ HB.out).mono ?_; rintro e w' ⟨rfl, rfl⟩)
  go_ret
  exact ⟨ret_int (by rw [HY.out]; unfold crcMoreB; rw [hq]), rfl⟩

theorem refCrc_calls (a : Option Addr) (c : Nat) (xs : List B8) (hn : xs.length ≤ 140737488355328) (w : World) (hb : Bs w a xs) :
    Calls Try.prog 21 #[.slice a xs.length c] w fun e w' => e = .returned (.int .u32 ((crcB xs).toNat : Int)) ∧ w = w' := by
  have HB := Lib.hid hb
  clear hb
  go_enter Try.func21, Try.ntmps21
  go_wp2_with (go_at_call 23; refine (refCrcMore_calls 0#32 a c xs hn _ HB.out).mono ?_; rintro e w' ⟨rfl, rfl⟩)
  go_ret
  exact ⟨rfl, rfl⟩

theorem refJoin_calls (a b : BitVec 32) (n : Int) (hn : n ≤ 9223372036854775807) (w : World) :
    Calls Try.prog 19 #[.int .u32 (a.toNat : Int), .int .u32 (b.toNat : Int), .int .i64 n] w fun e w' => e = .returned (.int .u32 ((crcSteps (8 * n.toNat) a ^^^ b).toNat : Int)) ∧ w = w' := by
  go_enter Try.func19, Try.ntmps19
  go_wp2_with fail
  refine (turned_calls a w).mono ?_
  rintro e w' ⟨rfl, rfl⟩
  go_wp2_with fail
  refine (power_calls n.toNat n (Nat.le_refl _) hn w).mono ?_
  rintro e w' ⟨⟨p, rfl, hp⟩, rfl⟩
  have hj := join_ref a p _ hp
  have HJ := Lib.hid hj
  clear hp hj
  generalize a.reverse = ar at *
  go_wp2_with fail
  refine (times_calls ar p w).mono ?_
  rintro e w' ⟨rfl, rfl⟩
  generalize timesN ar p 32 = q at *
  go_wp2_with fail
  refine (turned_calls q w).mono ?_
  rintro e w' ⟨rfl, rfl⟩
  generalize q.reverse = qr at *
  go_wp2
  go_ret
  exact ⟨ret_int (by rw [bits_xor_u32, HJ.out]), rfl⟩

end Go.Proofs.Ytfhoekcmkbeabaa
