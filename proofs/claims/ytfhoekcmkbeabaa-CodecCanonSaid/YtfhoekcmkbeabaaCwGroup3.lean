
/-
  The plain law between the program's head and the reference's grouped: the groups as a sum.
-/
import Derived.Test.YtfhoekcmkbeabaaCwGroup2
namespace Go.Proofs.Ytfhoekcmkbeabaa
open Go.RowKit
set_option linter.unusedVariables false
set_option linter.unusedSimpArgs false

/-- the number whose groups these are, the lowest first -/
def gsum : List B8 → Nat
  | [] => 0
  | c :: r => c.toNat % 128 + 128 * gsum r
theorem gsum_lt (bs : List B8) : gsum bs < 128 ^ bs.length := by
  induction bs with
  | nil => simp [gsum]
  | cons c r ih =>
    simp only [gsum, List.length_cons, Nat.pow_succ]
    omega
theorem pow_seven (i : Nat) : 2 ^ (7 * (i + 1)) = 128 * 2 ^ (7 * i) := by
  rw [Nat.mul_add, Nat.mul_one, Nat.pow_add]
  omega
theorem foldG_nat : ∀ (bs : List B8) (i : Nat) (x : BitVec 64), x.toNat < 2 ^ (7 * i) → 7 * (i + bs.length) ≤ 63 → (foldG i x bs).toNat = x.toNat + 2 ^ (7 * i) * gsum bs := by
  intro bs
  induction bs with
  | nil => intro i x _ _; simp [foldG, gsum]
  | cons c r ih =>
    intro i x hx hl
    simp only [List.length_cons] at hl
    have h63 : 2 ^ (7 * (i + 1)) ≤ 2 ^ 63 := Nat.pow_le_pow_right (by omega) (by omega)
    have hp := pow_seven i
    have hc : c.toNat % 128 ≤ 127 := by omega
    have hmul : (c.toNat % 128) * 2 ^ (7 * i) ≤ 127 * 2 ^ (7 * i) := Nat.mul_le_mul_right _ hc
    have hs := headStep_nat x c i hx (by omega)
    simp only [foldG, gsum]
    rw [ih (i + 1) (headStep x c i) (by rw [hs]; omega) (by omega), hs, hp, Nat.mul_add, Nat.mul_comm (c.toNat % 128)]
    have e : 128 * 2 ^ (7 * i) * gsum r = 2 ^ (7 * i) * (128 * gsum r) := by
      rw [Nat.mul_comm 128, Nat.mul_assoc]
    rw [e]
    omega
end Go.Proofs.Ytfhoekcmkbeabaa
