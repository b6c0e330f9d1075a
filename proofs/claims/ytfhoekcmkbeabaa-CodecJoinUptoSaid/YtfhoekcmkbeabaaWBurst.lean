/-
  The walk over the statement CodecBurst.
-/
import Derived.Test.YtfhoekcmkbeabaaCwTurn
import Derived.Test.YtfhoekcmkbeabaaCwBase
import Derived.Lib.SlBytesConst
namespace Go.Proofs.Ytfhoekcmkbeabaa
open Go.RowKit
set_option linter.unusedVariables false


/-- the nine digits -/
def nine : List B8 := [49#8, 50#8, 51#8, 52#8, 53#8, 54#8, 55#8, 56#8, 57#8]
theorem crcNine_calls (a : Option Addr) (W : World) (hb : Bs W a nine) :
    Calls Try.prog 15 #[.slice a 9 9] W fun e w' => e = .returned (.int .u32 3808858755) ∧ W = w' := by
  refine (crc_calls a 9 nine (by unfold maxLen nine; simp) W hb).mono ?_
  rintro e w' ⟨rfl, rfl⟩
  refine ⟨ret_int ?_, rfl⟩
  show (((crcB nine).toNat : Nat) : Int) = _
  unfold nine
  rw [crc_check]
  rfl

set_option maxRecDepth 100000 in
set_option maxHeartbeats 1000000 in
theorem burst_walk (a : Option Addr) (c : Nat) (xs : List B8) (hac : a = none → c = 0) (hl : xs.length ≤ 140737488351232) (at_ : Int) (mask : BitVec 32) (w : World) (ha : Bs w a xs) :
    Calls Try.prog 3 #[.slice a xs.length c, .int .i64 at_, .int .u32 (mask.toNat : Int)] w fun e w' => e = .returned (.bool true) ∧ Below w.heap.size w w' := by
  have HA := Lib.hid ha
  clear ha
  have kc := fun (w : World) (C : Array Value) (n c : Nat) => Lib.run_convert_bytes_const (P := Try.prog) w 22 5 C n c Try.underlying22 Try.underlying5
  by_cases h0 : at_ < 0
  · go_enter Try.func3, Try.ntmps3
    go_wp2_with (go_at_call 15; refine (crcNine_calls (some ⟨w.heap.size, 0, none⟩) _ (rd_row (heap_alloc_new w _))).mono ?_; rintro e w1 ⟨rfl, rfl⟩)
    go_ret
    exact ⟨rfl, (Below.refl _ _).alloc (Nat.le_refl _) _⟩
  · obtain ⟨n, rfl⟩ := Int.eq_ofNat_of_zero_le (Int.not_lt.1 h0)
    by_cases hn : n < 8 * xs.length
    · have hc : turn_told n mask xs = turn_told n mask xs := rfl
      have hb : (decide (xs = turnTo n mask 32 xs) == decide (crcB xs = crcB (turnTo n mask 32 xs))) = true := by
        rw [beq_iff_eq]
        exact decide_eq_decide.2 (turn_told n mask xs)
      have HB := Lib.hid hb
      have hlen := turnTo_len n mask 32 xs
      have HL := Lib.hid hlen
      clear hb hlen hc
      generalize hys : turnTo n mask 32 xs = ys at *
      go_enter Try.func3, Try.ntmps3
      go_wp2_with (go_at_call 15; refine (crcNine_calls (some ⟨w.heap.size, 0, none⟩) _ (rd_row (heap_alloc_new w _))).mono ?_; rintro e w1 ⟨rfl, rfl⟩)
      have hs0 := St.alloc' No w (.cells (bv nine).toArray 5 (9, 10))
      refine (turn_calls a c xs hac (by omega) n hn mask _ (HA.out.st hs0 (Dj.no _))).mono ?_
      rintro e w2 ⟨v, rfl, ho2, hs2, g, cap, rfl⟩
      rw [hys] at *
      have HO2 := Lib.hid ho2
      have HS2 := Lib.hid (hs0.trans hs2)
      clear ho2 hs2 hs0
      go_wp2_with fail
      refine (same_calls a c xs _ cap ys (by unfold maxLen; omega) (by rw [HL.out]; unfold maxLen; omega) _ (HA.out.st HS2.out (Dj.no _)) HO2.out.bs).mono ?_
      rintro e w3 ⟨rfl, hd3⟩
      have HD3 := Lib.hid hd3
      clear hd3
      go_wp2_with fail
      refine (crc_calls a c xs (by unfold maxLen; omega) _ (HA.out.st (HS2.out.trans (HD3.out.st _)) (Dj.no _))).mono ?_
      rintro e w4 ⟨rfl, rfl⟩
      go_wp2_with fail
      refine (crc_calls _ cap ys (by rw [HL.out]; unfold maxLen; omega) _ ((HO2.out.bs).move (fun _ _ => by rw [HD3.out.heap]))).mono ?_
      rintro e w4 ⟨rfl, rfl⟩
      go_wp2
      go_ret
      refine ⟨ret_bool ?_, (HS2.out.trans (HD3.out.st _)).below⟩
      rw [int_eq_bv]
      exact HB.out
    · go_enter Try.func3, Try.ntmps3
      go_wp2_with (go_at_call 15; refine (crcNine_calls (some ⟨w.heap.size, 0, none⟩) _ (rd_row (heap_alloc_new w _))).mono ?_; rintro e w1 ⟨rfl, rfl⟩)
      go_ret
      exact ⟨rfl, (Below.refl _ _).alloc (Nat.le_refl _) _⟩

end Go.Proofs.Ytfhoekcmkbeabaa
