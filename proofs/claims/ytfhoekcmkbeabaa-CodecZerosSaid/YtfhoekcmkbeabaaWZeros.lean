/-
  The walk over the statement CodecZeros.
-/
import Derived.Test.YtfhoekcmkbeabaaCwJoin
namespace Go.Proofs.Ytfhoekcmkbeabaa
open Go.RowKit
set_option linter.unusedVariables false

theorem join_one : (((crcSteps (8 * (1 : Int).toNat) 1#32 ^^^ 0#32).toNat : Int) == 1) = false := by decide +kernel
theorem join_none (a b : BitVec 32) (n : Int) (h : n.toNat = 0) : crcSteps (8 * n.toNat) a ^^^ b = a ^^^ b := by rw [h]; rfl
theorem join_two (a b : BitVec 32) (m n : Nat) : crcSteps (8 * n) (crcSteps (8 * m) a ^^^ 0#32) ^^^ b = crcSteps (8 * (m + n)) a ^^^ b := by
  rw [BitVec.xor_zero, ← crcSteps_add, ← Nat.mul_add]

set_option maxRecDepth 100000 in
set_option maxHeartbeats 1000000 in
theorem zeros_walk (a b : BitVec 32) (m n : Int) (w : World) :
    Calls Try.prog 4 #[.int .u32 (a.toNat : Int), .int .u32 (b.toNat : Int), .int .i64 m, .int .i64 n] w fun e w' => e = .returned (.bool true) ∧ Below w.heap.size w w' := by
  by_cases h1 : m < 0
  · go_enter Try.func4, Try.ntmps4
    go_wp2
    go_ret
    exact ⟨rfl, Below.refl _ _⟩
  by_cases h2 : n < 0
  · go_enter Try.func4, Try.ntmps4
    go_wp2
    go_ret
    exact ⟨rfl, Below.refl _ _⟩
  by_cases h3 : 4611686018427387904 < m
  · go_enter Try.func4, Try.ntmps4
    go_wp2
    go_ret
    exact ⟨rfl, Below.refl _ _⟩
  by_cases h4 : 4611686018427387903 < n
  · go_enter Try.func4, Try.ntmps4
    go_wp2
    go_ret
    exact ⟨rfl, Below.refl _ _⟩
  obtain ⟨m, rfl⟩ := Int.eq_ofNat_of_zero_le (Int.not_lt.1 h1)
  obtain ⟨n, rfl⟩ := Int.eq_ofNat_of_zero_le (Int.not_lt.1 h2)
  have hx := bits_xor_u32 a b
  have hxx : ((((a ^^^ b).toNat : Nat) : Int) != (((a ^^^ b).toNat : Nat) : Int)) = false := by simp
  have H1 := Lib.hid join_one
  generalize hq : crcSteps (8 * (1 : Int).toNat) 1#32 ^^^ 0#32 = q at *
  have hq1 := H1.out
  have H2 := Lib.hid (join_two a b m n)
  go_enter Try.func4, Try.ntmps4
  go_wp2_with fail
  refine (join_calls a b 0 (by omega) w).mono ?_
  rintro e w1 ⟨rfl, hs1⟩
  rw [join_none a b 0 rfl]
  have HS1 := Lib.hid hs1
  clear hs1
  go_wp2_with fail
  refine (join_calls a b (-1) (by omega) w1).mono ?_
  rintro e w2 ⟨rfl, hs2⟩
  rw [join_none a b (-1) rfl]
  have HS2 := Lib.hid hs2
  clear hs2
  go_wp2_with fail
  refine (join_calls 1#32 0#32 1 (by omega) w2).mono ?_
  rintro e w3 ⟨rfl, hs3⟩
  rw [hq]
  have HS3 := Lib.hid hs3
  clear hs3
  go_wp2_with fail
  refine (join_calls a 0#32 m (by omega) w3).mono ?_
  rintro e w4 ⟨rfl, hs4⟩
  have HS4 := Lib.hid hs4
  clear hs4
  go_wp2_with fail
  refine (join_calls _ b n (by omega) w4).mono ?_
  rintro e w5 ⟨rfl, hs5⟩
  have HS5 := Lib.hid hs5
  clear hs5
  go_wp2_with fail
  refine (join_calls a b (m + n) (by omega) w5).mono ?_
  rintro e w6 ⟨rfl, hs6⟩
  have HS6 := Lib.hid hs6
  clear hs6
  rw [show ((m : Int) + (n : Int)).toNat = m + n by omega, ← H2.out]
  go_wp2
  go_ret
  exact ⟨rfl, (HS1.out.trans (HS2.out.trans (HS3.out.trans (HS4.out.trans (HS5.out.trans HS6.out))))).below⟩

end Go.Proofs.Ytfhoekcmkbeabaa
