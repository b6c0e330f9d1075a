
/-
  The plain law between the program's head and the reference's grouped: they say the same.
-/
import Derived.Test.YtfhoekcmkbeabaaCwGroup3
namespace Go.Proofs.Ytfhoekcmkbeabaa
open Go.RowKit
set_option linter.unusedVariables false
set_option linter.unusedSimpArgs false

/-- what the reference says of the varint at the front -/
def groupedB (rest : List B8) : BitVec 64 × Nat × Int :=
  if lead 9 rest = rest.length then (0, 0, 21) else if lead 9 rest = 9 ∧ 1 < (rest.getD 9 0#8).toNat then (0, 0, 23)
  else if (groupsB (gsum (rest.take (lead 9 rest + 1)))).length ≠ lead 9 rest + 1 then (0, 0, 22)
  else (BitVec.ofNat 64 (gsum (rest.take (lead 9 rest + 1))), lead 9 rest + 1, 0)
theorem lead_end : ∀ (f : Nat) (bs : List B8), lead f bs < f → ∀ c r, bs.drop (lead f bs) = c :: r → c.toNat < 128 := by
  intro f
  induction f with
  | zero => intro bs h; omega
  | succ f ih =>
    intro bs h c r hd
    cases bs with
    | nil => simp at hd
    | cons b l =>
      by_cases hb : 128 ≤ b.toNat
      · have e : lead (f + 1) (b :: l) = lead f l + 1 := by simp [lead, hb]
        rw [e] at h hd
        exact ih l (by omega) c r hd
      · have e : lead (f + 1) (b :: l) = 0 := by simp [lead, hb]
        rw [e] at hd
        simp at hd
        obtain ⟨rfl, _⟩ := hd
        omega
theorem gsum_snoc (bs : List B8) (c : B8) : gsum (bs ++ [c]) = gsum bs + 128 ^ bs.length * (c.toNat % 128) := by
  induction bs with
  | nil => simp [gsum]
  | cons b l ih =>
    simp only [List.cons_append, gsum, ih, List.length_cons, Nat.pow_succ]
    rw [Nat.mul_add, ← Nat.add_assoc, ← Nat.mul_assoc, Nat.mul_comm 128 (128 ^ l.length)]
theorem pow_128 (m : Nat) : 2 ^ (7 * m) = 128 ^ m := by rw [Nat.pow_mul]
theorem grouped_head (rest : List B8) : groupedB rest = headB 0 0 rest := by
  have hm := lead_le 9 rest
  have h1 := headB_lead 9 0 0 rest rfl
  have he := lead_end 9 rest
  rw [h1, Nat.zero_add]
  unfold groupedB
  generalize lead 9 rest = m at *
  have hlt := gsum_lt (rest.take m)
  have hlm : (rest.take m).length = m := by rw [List.length_take]; omega
  rw [hlm] at hlt
  have hx : (foldG 0 0 (rest.take m)).toNat = gsum (rest.take m) := by
    rw [foldG_nat _ 0 0 (by simp) (by rw [hlm]; omega)]
    simp
  generalize foldG 0 0 (rest.take m) = x at *
  cases hd : rest.drop m with
  | nil =>
    have hl := congrArg List.length hd
    simp at hl
    rw [if_pos (by omega)]
    rfl
  | cons c r =>
    have hl := congrArg List.length hd
    simp at hl
    have hc : rest[m]? = some c := by rw [← List.head?_drop, hd]; rfl
    have htk : rest.take (m + 1) = rest.take m ++ [c] := by rw [List.take_add_one, hc]; rfl
    rw [if_neg (by omega), htk, gsum_snoc, hlm]
    have hg : m = 9 → rest.getD 9 0#8 = c := by
      rintro rfl
      rw [List.getD_eq_getElem?_getD, hc]
      rfl
    show _ = (if m = 9 ∧ 1 < c.toNat then _ else if c.toNat < 128 then (if c.toNat = 0 ∧ 0 < m then _ else _) else _)
    by_cases h9 : m = 9 ∧ 1 < c.toNat
    · rw [if_pos (by rw [hg h9.1]; exact h9), if_pos h9]
    · rw [if_neg (by rintro ⟨a, b⟩; rw [hg a] at b; exact h9 ⟨a, b⟩), if_neg h9]
      have hc128 : c.toNat < 128 := by
        by_cases h : m = 9
        · omega
        · exact he (by omega) c r hd
      rw [if_pos hc128, Nat.mod_eq_of_lt hc128]
      generalize gsum (rest.take m) = y at *
      by_cases hz : c.toNat = 0 ∧ 0 < m
      · rw [if_pos hz, hz.1, Nat.mul_zero, Nat.add_zero, if_pos]
        have := glen_le 9 y m hz.2 hlt
        unfold groupsB
        omega
      · rw [if_neg hz]
        have hp : 0 < 128 ^ m := Nat.pow_pos (by omega)
        have hle : 128 ^ m * c.toNat ≤ 128 ^ m * 127 := Nat.mul_le_mul_left _ (by omega)
        have hlen : (groupsB (y + 128 ^ m * c.toNat)).length = m + 1 := by
          refine glen 9 _ m (by omega) (by rw [Nat.pow_succ]; omega) ?_
          rcases Nat.eq_zero_or_pos m with h | h
          · exact .inl h
          · have : 128 ^ m * 1 ≤ 128 ^ m * c.toNat := Nat.mul_le_mul_left _ (by omega)
            exact .inr (by omega)
        rw [if_neg (by rw [hlen]; simp)]
        have hb : (c.toNat % 128) * 2 ^ (7 * m) < 2 ^ 64 := by
          rw [Nat.mod_eq_of_lt hc128]
          by_cases h : m = 9
          · subst h
            have : c.toNat * 2 ^ (7 * 9) ≤ 1 * 2 ^ (7 * 9) := Nat.mul_le_mul_right _ (by omega)
            omega
          · have h1 : 2 ^ (7 * m) ≤ 2 ^ 56 := Nat.pow_le_pow_right (by omega) (by omega)
            have h2 : c.toNat * 2 ^ (7 * m) ≤ 127 * 2 ^ 56 := Nat.mul_le_mul (by omega) h1
            omega
        have hs := headStep_nat x c m (by rw [hx, pow_128]; exact hlt) hb
        have hlt64 := (headStep x c m).isLt
        congr 1
        apply BitVec.eq_of_toNat_eq
        rw [Nat.mod_eq_of_lt hc128, pow_128, hx, Nat.mul_comm] at hs
        rw [BitVec.toNat_ofNat, ← hs, Nat.mod_eq_of_lt hlt64]
end Go.Proofs.Ytfhoekcmkbeabaa
