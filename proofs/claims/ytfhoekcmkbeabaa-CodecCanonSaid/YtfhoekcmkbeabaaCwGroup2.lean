
/-
  The plain law between the program's head and the reference's grouped: lengths of groups.
-/
import Derived.Test.YtfhoekcmkbeabaaCwGroup
import Derived.Test.YtfhoekcmkbeabaaCwWriter2
namespace Go.Proofs.Ytfhoekcmkbeabaa
open Go.RowKit
set_option linter.unusedVariables false
set_option linter.unusedSimpArgs false

theorem glen : ∀ (f x m : Nat), m ≤ f → x < 128 ^ (m + 1) → (m = 0 ∨ 128 ^ m ≤ x) → (groupsF f x).length = m + 1 := by
  intro f
  induction f with
  | zero => intro x m hm _ _; obtain rfl : m = 0 := by omega
            rfl
  | succ f ih =>
    intro x m hm hx hl
    simp only [groupsF]
    by_cases h : x < 128
    · rw [if_pos h]
      have : m = 0 := by
        rcases hl with h0 | h0
        · exact h0
        · cases m with
          | zero => rfl
          | succ m =>
            have h1 : 0 < 128 ^ m := Nat.pow_pos (by omega)
            rw [Nat.pow_succ] at h0
            omega
      subst this
      rfl
    · rw [if_neg h]
      cases m with
      | zero => simp at hx; omega
      | succ m =>
        have h0 : 128 ^ (m + 1) ≤ x := by rcases hl with h | h; omega; exact h
        rw [Nat.pow_succ] at hx h0
        rw [List.length_cons, ih (x / 128) m (by omega) (by omega) (by rcases Nat.eq_zero_or_pos m with h | h; exact .inl h; exact .inr (by omega))]
theorem glen_le : ∀ (f x m : Nat), 1 ≤ m → x < 128 ^ m → (groupsF f x).length ≤ m := by
  intro f
  induction f with
  | zero => intro x m hm _; exact hm
  | succ f ih =>
    intro x m hm hx
    simp only [groupsF]
    by_cases h : x < 128
    · rw [if_pos h]; exact hm
    · rw [if_neg h, List.length_cons]
      cases m with
      | zero => omega
      | succ m =>
        rw [Nat.pow_succ] at hx
        have hm1 : 1 ≤ m := by
          rcases Nat.eq_zero_or_pos m with h0 | h0
          · subst h0; simp at hx; omega
          · exact h0
        have := ih (x / 128) m hm1 (by omega)
        omega
end Go.Proofs.Ytfhoekcmkbeabaa
