
/-
  The ends' small functions: sized, beyond, left.
-/
import Derived.Test.YtjepmckofocdnaaXoBase
import Derived.Test.YtjepmckofocdnaaXoLen
namespace Go.Proofs.Ytjepmckofocdnaa
open Go.RowKit
set_option linter.unusedVariables false
set_option linter.unusedSimpArgs false

def sizedB (n : Nat) : Bool := decide (1 ≤ n ∧ n ≤ 3072)
set_option maxRecDepth 100000 in
theorem sized_calls (a : Option Addr) (n c : Nat) (w : World) : Calls Try.prog 55 #[.slice a n c] w fun e w' => e = .returned (.bool (sizedB n)) ∧ w = w' := by
  by_cases h1 : 1 ≤ n
  · by_cases h2 : n ≤ 3072
    · have HB : Hid (sizedB n = true) := Lib.hid (decide_eq_true ⟨h1, h2⟩)
      have g1 : (1 : Int) ≤ (n : Int) := by omega
      have g2 : (n : Int) ≤ 3072 := by omega
      go_enter Try.func55, Try.ntmps55
      go_wp2
      go_ret
      exact ⟨by rw [HB.out]; rfl, rfl⟩
    · have HB : Hid (sizedB n = false) := Lib.hid (decide_eq_false (fun h => h2 h.2))
      have g1 : (1 : Int) ≤ (n : Int) := by omega
      have g2 : ¬ (n : Int) ≤ 3072 := by omega
      go_enter Try.func55, Try.ntmps55
      go_wp2
      go_ret
      exact ⟨by rw [HB.out]; rfl, rfl⟩
  · have HB : Hid (sizedB n = false) := Lib.hid (decide_eq_false (fun h => h1 h.1))
    have g1 : ¬ (1 : Int) ≤ (n : Int) := by omega
    go_enter Try.func55, Try.ntmps55
    go_wp2
    go_ret
    exact ⟨by rw [HB.out]; rfl, rfl⟩
/-- does a mask that counts from seq name a number above sent? -/
def beyondB (sent seq : Nat) (mask : BitVec 64) : Bool := decide (mask ≠ 0 ∧ sent - seq < Lib.bitLen mask.toNat + 1)
theorem bitLen_le64 (x : Nat) : Lib.bitLen x ≤ 64 := by
  have h : ∀ f y, Lib.bitLenAux f y ≤ f := by
    intro f
    induction f with
    | zero => intro y; simp [Lib.bitLenAux]
    | succ f ih =>
      intro y
      unfold Lib.bitLenAux
      split
      · omega
      · have := ih (y / 2)
        omega
  exact h 64 x
set_option maxRecDepth 100000 in
set_option maxHeartbeats 1000000 in
theorem beyond_calls (w : World) (p : Nat) (c : PC) (sent acked : Nat) (mask0 : BitVec 64) (delivered : Nat) (Vq Ve : Value) (d3 : w.cell? ⟨p, 3, none⟩ = some (.int .u64 sent)) (seq : Nat) (hs : seq ≤ sent) (hse : sent ≤ 18446744073709551615) (mask : BitVec 64) :
    Calls Try.prog 86 #[.pointer (some ⟨p, 0, none⟩), .int .u64 seq, .int .u64 (mask.toNat : Int)] w fun e w' => e = .returned (.bool (beyondB sent seq mask)) ∧ Dr w w' := by
  have hml := mask.isLt
  have hbl := bitLen_le64 mask.toNat
  have w3 : IntKind.u64.wrap ((sent : Int) - (seq : Int)) = (sent : Int) - (seq : Int) := by rw [wrap_u64]; omega
  by_cases h0 : mask.toNat = 0
  · have HB : Hid (beyondB sent seq mask = false) := Lib.hid (decide_eq_false (fun h => h.1 (BitVec.eq_of_toNat_eq (by simpa using h0))))
    have g0 : ((mask.toNat : Int) != 0) = false := by simp [h0]
    clear w3
    generalize mask.toNat = x at *
    go_enter Try.func86, Try.ntmps86
    go_wp2_with fail
    go_quiet (fail)
    go_wp2
    go_ret
    exact ⟨by rw [HB.out]; rfl, by first | exact Dr.one _ | exact Dr.step _ _⟩
  · have g0 : ((mask.toNat : Int) != 0) = true := by rw [bne_iff_ne]; omega
    have hne : mask ≠ 0 := fun e => h0 (by rw [e]; rfl)
    have hln : ∀ n, Calls Try.prog 105 #[.int .u64 (mask.toNat : Int)] (w.drewN n) fun e w'' => e = .returned (.int .i64 (Lib.bitLen mask.toNat : Int)) ∧ ∃ m, w'' = w.drewN m := fun n =>
      (len64_calls (mask.toNat : Int) (w.drewN n) (by omega) (by omega)).mono (fun e w'' h => ⟨by rw [h.1, Int.toNat_natCast], n, h.2⟩)
    have w1 : IntKind.u64.wrap ((Lib.bitLen mask.toNat : Int) + 1) = (Lib.bitLen mask.toNat : Int) + 1 := by rw [wrap_u64]; omega
    have w2 : IntKind.i64.wrap ((Lib.bitLen mask.toNat : Int) + 1) = (Lib.bitLen mask.toNat : Int) + 1 := IntWalk.i64_in _ (by omega)
    by_cases hq : sent - seq < Lib.bitLen mask.toNat + 1
    · have HB : Hid (beyondB sent seq mask = true) := Lib.hid (decide_eq_true ⟨hne, hq⟩)
      have hqi : (sent : Int) - (seq : Int) < (Lib.bitLen mask.toNat : Int) + 1 := by omega
      generalize Lib.bitLen mask.toNat = y at *
      generalize mask.toNat = x at *
      clear h0
      go_enter Try.func86, Try.ntmps86
      go_wp2_with fail
      go_quiet ((go_at_call 105; exact hln _))
      go_wp2
      go_ret
      exact ⟨by rw [HB.out]; rfl, by first | exact Dr.one _ | exact Dr.step _ _⟩
    · have HB : Hid (beyondB sent seq mask = false) := Lib.hid (decide_eq_false (fun h => hq h.2))
      have hqi : ¬ (sent : Int) - (seq : Int) < (Lib.bitLen mask.toNat : Int) + 1 := by omega
      have hqd : decide ((sent : Int) - (seq : Int) < (Lib.bitLen mask.toNat : Int) + 1) = false := decide_eq_false hqi
      generalize Lib.bitLen mask.toNat = y at *
      generalize mask.toNat = x at *
      clear h0
      go_enter Try.func86, Try.ntmps86
      go_wp2_with fail
      go_quiet ((go_at_call 105; exact hln _))
      go_wp2
      go_ret
      exact ⟨by rw [HB.out]; rfl, by first | exact Dr.one _ | exact Dr.step _ _⟩
/-- how many payloads more -/
def leftN (room qlen sent : Nat) : Nat := min (room - qlen) (18446744073709551615 - sent)
set_option maxRecDepth 100000 in
set_option maxHeartbeats 1000000 in
theorem left_calls (w : World) (p : Nat) (room qlen sent : Nat) (qa : Option Addr) (qc : Nat) (d1 : w.cell? ⟨p, 1, none⟩ = some (.int .i64 room)) (d3 : w.cell? ⟨p, 3, none⟩ = some (.int .u64 sent)) (d5 : w.cell? ⟨p, 5, none⟩ = some (.slice qa qlen qc)) (hr : qlen ≤ room) (hrm : room ≤ 16) (hse : sent ≤ 18446744073709551615) :
    Calls Try.prog 64 #[.pointer (some ⟨p, 0, none⟩)] w fun e w' => e = .returned (.int .i64 (leftN room qlen sent)) ∧ Dr w w' := by
  have w1 : IntKind.i64.wrap ((room : Int) - (qlen : Int)) = (room : Int) - (qlen : Int) := IntWalk.i64_in _ (by omega)
  have w2 : IntKind.u64.wrap (18446744073709551615 - (sent : Int)) = 18446744073709551615 - (sent : Int) := by rw [wrap_u64]; omega
  have w3 : IntKind.u64.wrap ((room : Int) - (qlen : Int)) = (room : Int) - (qlen : Int) := by rw [wrap_u64]; omega
  by_cases h : 18446744073709551615 - sent < room - qlen
  · have HB : Hid ((leftN room qlen sent : Int) = 18446744073709551615 - (sent : Int)) := Lib.hid (by unfold leftN; omega)
    have g : 18446744073709551615 - (sent : Int) < (room : Int) - (qlen : Int) := by omega
    have w4 : IntKind.i64.wrap (18446744073709551615 - (sent : Int)) = 18446744073709551615 - (sent : Int) := IntWalk.i64_in _ (by omega)
    go_enter Try.func64, Try.ntmps64
    go_wp2_with fail
    go_quiet (fail)
    go_wp2
    go_ret
    exact ⟨by rw [HB.out]; rfl, by first | exact Dr.one _ | exact Dr.step _ _⟩
  · have HB : Hid ((leftN room qlen sent : Int) = (room : Int) - (qlen : Int)) := Lib.hid (by unfold leftN; omega)
    have g : ¬ 18446744073709551615 - (sent : Int) < (room : Int) - (qlen : Int) := by omega
    go_enter Try.func64, Try.ntmps64
    go_wp2_with fail
    go_quiet (fail)
    go_wp2
    go_ret
    exact ⟨by rw [HB.out]; rfl, by first | exact Dr.one _ | exact Dr.step _ _⟩
end Go.Proofs.Ytjepmckofocdnaa
