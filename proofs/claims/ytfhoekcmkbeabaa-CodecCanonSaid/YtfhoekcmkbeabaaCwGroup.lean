
/-
  The plain law between the program's head and the reference's grouped: the groups that lead.
-/
import Derived.Test.YtfhoekcmkbeabaaCwHead
namespace Go.Proofs.Ytfhoekcmkbeabaa
open Go.RowKit
set_option linter.unusedVariables false
set_option linter.unusedSimpArgs false

/-- how many bytes at the front are 128 or more, so many at the most -/
def lead : Nat → List B8 → Nat
  | 0, _ => 0
  | _ + 1, [] => 0
  | n + 1, c :: r => if 128 ≤ c.toNat then lead n r + 1 else 0
/-- the groups laid to a number, from place i on -/
def foldG : Nat → BitVec 64 → List B8 → BitVec 64
  | _, x, [] => x
  | i, x, c :: r => foldG (i + 1) (headStep x c i) r
theorem headB_lead : ∀ (f i : Nat) (x : BitVec 64) (bs : List B8), i + f = 9 → headB i x bs = headB (i + lead f bs) (foldG i x (bs.take (lead f bs))) (bs.drop (lead f bs)) := by
  intro f
  induction f with
  | zero => intro i x bs _; simp [lead, foldG]
  | succ f ih =>
    intro i x bs hi
    cases bs with
    | nil => simp [lead, foldG]
    | cons c r =>
      by_cases hc : 128 ≤ c.toNat
      · have e : lead (f + 1) (c :: r) = lead f r + 1 := by simp [lead, hc]
        rw [e]
        have e2 : headB i x (c :: r) = headB (i + 1) (headStep x c i) r := by
          show (if _ then _ else if _ then (if _ then _ else _) else _) = _
          rw [if_neg (by omega), if_neg (by omega)]
        rw [e2, ih (i + 1) (headStep x c i) r (by omega)]
        simp only [List.take_succ_cons, List.drop_succ_cons, foldG]
        congr 1
        omega
      · have e : lead (f + 1) (c :: r) = 0 := by simp [lead, hc]
        rw [e]
        simp [foldG]
theorem lead_le : ∀ (f : Nat) (bs : List B8), lead f bs ≤ f ∧ lead f bs ≤ bs.length := by
  intro f
  induction f with
  | zero => intro bs; simp [lead]
  | succ f ih =>
    intro bs
    cases bs with
    | nil => simp [lead]
    | cons c r =>
      simp only [lead]
      split
      · have := ih r; simp only [List.length_cons]; omega
      · simp
/-- a group is laid above the bits that are there -/
theorem headStep_nat (x : BitVec 64) (c : B8) (i : Nat) (hx : x.toNat < 2 ^ (7 * i)) (h : (c.toNat % 128) * 2 ^ (7 * i) < 2 ^ 64) : (headStep x c i).toNat = x.toNat + (c.toNat % 128) * 2 ^ (7 * i) := by
  have hm : (c &&& 127#8).toNat = c.toNat % 128 := by
    rw [BitVec.toNat_and]
    exact Nat.and_two_pow_sub_one_eq_mod c.toNat 7
  have hs : (((c &&& 127#8).setWidth 64 : BitVec 64) <<< (7 * i)).toNat = (c.toNat % 128) * 2 ^ (7 * i) := by
    rw [BitVec.toNat_shiftLeft, BitVec.toNat_setWidth, hm, Nat.mod_eq_of_lt (a := c.toNat % 128) (by omega), Nat.shiftLeft_eq, Nat.mod_eq_of_lt h]
  unfold headStep
  rw [BitVec.toNat_or, hs, Nat.mul_comm, Nat.or_comm, ← Nat.two_pow_add_eq_or_of_lt hx]
  omega
end Go.Proofs.Ytfhoekcmkbeabaa
