
/-
  The walk over the reference's from.
-/
import Derived.Test.YtoeafacamapofaaCwReader2
namespace Go.Proofs.Ytoeafacamapofaa
open Go.RowKit
set_option linter.unusedVariables false
set_option linter.unusedSimpArgs false

theorem numStep_nat (x : BitVec 64) (c : B8) : (numStep x c).toNat = (x.toNat * 256) % 18446744073709551616 + c.toNat := by
  have hc := c.isLt
  have h0 : (x <<< 8) &&& c.setWidth 64 = 0#64 := by
    ext i hi
    simp
    intro h1 _
    by_cases h : i < 8
    · omega
    · exact BitVec.getLsbD_of_ge c i (by omega)
  unfold numStep
  rw [← BitVec.add_eq_or_of_and_eq_zero _ _ h0, BitVec.toNat_add, BitVec.toNat_shiftLeft, BitVec.toNat_setWidth, Nat.shiftLeft_eq]
  have e : c.toNat % 2 ^ 64 = c.toNat := Nat.mod_eq_of_lt (by omega)
  rw [e]
  omega
theorem step_add (x : BitVec 64) (c : B8) (X : Int) (h : X = IntKind.u64.wrap (IntKind.u64.wrap ((x.toNat : Int) * 256) + (c.toNat : Int)) ∨ X = IntKind.u64.wrap ((x.toNat : Int) * 256 + (c.toNat : Int))) : X = ((numStep x c).toNat : Int) := by
  have hc := c.isLt
  rw [numStep_nat]
  rcases h with rfl | rfl
  · rw [wrap_u64, wrap_u64]; omega
  · rw [wrap_u64]; omega
theorem numB_lt (xs : List B8) : ∀ n, xs.length ≤ n → n ≤ 7 → (numB xs).toNat < 256 ^ n := by
  intro n hn h7
  have key : ∀ (ys : List B8) (x : BitVec 64) (j : Nat), x.toNat < 256 ^ j → j + ys.length ≤ 7 → (ys.foldl numStep x).toNat < 256 ^ (j + ys.length) := by
    intro ys
    induction ys with
    | nil => intro x j h _; simpa using h
    | cons c ys ih =>
      intro x j h hj
      simp only [List.foldl_cons, List.length_cons] at hj ⊢
      have hc := c.isLt
      have hp : 256 ^ j * 256 ≤ 256 ^ 7 := by rw [← Nat.pow_succ]; exact Nat.pow_le_pow_right (by omega) (by omega)
      have e7 : (256 : Nat) ^ 7 = 72057594037927936 := by decide
      have h2 : (numStep x c).toNat < 256 ^ (j + 1) := by
        rw [numStep_nat, Nat.pow_succ]
        omega
      have := ih (numStep x c) (j + 1) h2 (by omega)
      rw [show j + (ys.length + 1) = j + 1 + ys.length by omega]
      exact this
  have h := key xs 0 0 (by simp) (by omega)
  rw [Nat.zero_add] at h
  exact Nat.lt_of_lt_of_le h (Nat.pow_le_pow_right (by omega) hn)

end Go.Proofs.Ytoeafacamapofaa
