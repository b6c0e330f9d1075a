
/-
  The statements' pos.
-/
import Derived.Test.YtoeafacamapofaaFgBase
namespace Go.Proofs.Ytoeafacamapofaa
open Go.RowKit
set_option linter.unusedVariables false
set_option linter.unusedSimpArgs false

def posI (x n : Int) : Int := if x.tmod n < 0 then x.tmod n + n else x.tmod n
theorem posI_range {x n : Int} (h : 0 < n) : 0 ≤ posI x n ∧ posI x n < n := by
  have h1 := Int.tmod_lt_of_pos x h
  have h2 : -n < x.tmod n := by
    have := Int.lt_tmod_of_pos x h
    omega
  unfold posI
  split <;> omega
theorem pos_calls (x n : Int) (hn : 0 < n) (hn2 : n ≤ 1048576) (hx : -9223372036854775808 ≤ x ∧ x ≤ 9223372036854775807) (w : World) :
    Calls Try.prog 54 #[.int .i64 x, .int .i64 n] w fun e w' => e = .returned (.int .i64 (posI x n)) ∧ w = w' := by
  have h1 := Int.tmod_lt_of_pos x hn
  have h2 : -n < x.tmod n := Int.lt_tmod_of_pos x hn
  have n0 : ¬ n = 0 := by omega
  have n1 : ¬ n = -1 := by omega
  have hw : wrap64 (x.tmod n) = x.tmod n := by unfold wrap64; omega
  by_cases hs : x.tmod n < 0
  · have hp : posI x n = x.tmod n + n := by unfold posI; rw [if_pos hs]
    go_enter Try.func54, Try.ntmps54
    go_wp2
    go_ret
    exact ⟨by first | rfl | (rw [hp]; rfl), rfl⟩
  · have hp : posI x n = x.tmod n := by unfold posI; rw [if_neg hs]
    go_enter Try.func54, Try.ntmps54
    go_wp2
    go_ret
    exact ⟨by first | rfl | (rw [hp]; rfl), rfl⟩
end Go.Proofs.Ytoeafacamapofaa
