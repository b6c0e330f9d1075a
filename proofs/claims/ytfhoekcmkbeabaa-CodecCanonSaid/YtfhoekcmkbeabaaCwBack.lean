
/-
  Plain laws: what is laid down is read back, and what is read is what would be laid down.
-/
import Derived.Test.YtfhoekcmkbeabaaCwGrab
import Derived.Test.YtfhoekcmkbeabaaCwGroup4
import Derived.Test.YtfhoekcmkbeabaaCwFrom
import Derived.Test.YtfhoekcmkbeabaaCwSteps
namespace Go.Proofs.Ytfhoekcmkbeabaa
open Go.RowKit
set_option linter.unusedVariables false
set_option linter.unusedSimpArgs false

/-- bytes as a number, the highest first -/
def natB (xs : List B8) : Nat := xs.foldl (fun a c => a * 256 + c.toNat) 0
theorem natB_go (xs : List B8) (a : Nat) : xs.foldl (fun a c => a * 256 + c.toNat) a = a * 256 ^ xs.length + natB xs := by
  induction xs generalizing a with
  | nil => simp [natB]
  | cons c r ih =>
    simp only [List.foldl_cons, List.length_cons, natB]
    rw [ih, ih (0 * 256 + c.toNat), Nat.pow_succ, Nat.zero_mul, Nat.zero_add, Nat.add_mul, Nat.mul_assoc, Nat.mul_comm 256, ← Nat.add_assoc]
theorem natB_append (xs ys : List B8) : natB (xs ++ ys) = natB xs * 256 ^ ys.length + natB ys := by
  unfold natB
  rw [List.foldl_append, natB_go]
  rfl
theorem natB_lt (xs : List B8) : natB xs < 256 ^ xs.length := by
  induction xs with
  | nil => simp [natB]
  | cons c r ih =>
    have h := natB_append [c] r
    rw [List.singleton_append] at h
    have h1 : natB [c] = c.toNat := by simp [natB]
    have hc := c.isLt
    rw [h, h1, List.length_cons, Nat.pow_succ]
    have : c.toNat * 256 ^ r.length ≤ 255 * 256 ^ r.length := Nat.mul_le_mul_right _ (by omega)
    omega
theorem numB_nat (xs : List B8) (h : xs.length ≤ 8) : (numB xs).toNat = natB xs := by
  have key : ∀ (ys : List B8) (x : BitVec 64) (a j : Nat), x.toNat = a → a < 256 ^ j → j + ys.length ≤ 8 → (ys.foldl numStep x).toNat = ys.foldl (fun a c => a * 256 + c.toNat) a := by
    intro ys
    induction ys with
    | nil => intro x a j h _ _; exact h
    | cons c r ih =>
      intro x a j hx ha hj
      simp only [List.foldl_cons, List.length_cons] at hj ⊢
      have hc := c.isLt
      have hp : 256 ^ j * 256 ≤ 256 ^ 8 := by rw [← Nat.pow_succ]; exact Nat.pow_le_pow_right (by omega) (by omega)
      have e8 : (256 : Nat) ^ 8 = 18446744073709551616 := by decide
      refine ih _ _ (j + 1) ?_ (by rw [Nat.pow_succ]; omega) (by omega)
      rw [numStep_nat, hx, Nat.mod_eq_of_lt (by omega)]
  exact key xs 0 0 0 rfl (by simp) (by omega)
theorem beTo_succ (x : BitVec 64) (n j : Nat) : beTo x n (j + 1) = beTo x n j ++ [(x >>> (8 * (n - 1 - j))).setWidth 8] := rfl
theorem shift_byte (x : BitVec 64) (k : Nat) : ((x >>> (8 * k)).setWidth 8).toNat = x.toNat / 256 ^ k % 256 := by
  rw [BitVec.toNat_setWidth, BitVec.toNat_ushiftRight, Nat.shiftRight_eq_div_pow, Nat.pow_mul]
theorem natB_beTo (x : BitVec 64) (n : Nat) : ∀ j, j ≤ n → natB (beTo x n j) = x.toNat / 256 ^ (n - j) % 256 ^ j := by
  intro j
  induction j with
  | zero => intro _; simp [natB, beTo, Nat.mod_one]
  | succ j ih =>
    intro hj
    rw [beTo_succ, natB_append, ih (by omega)]
    have h1 : natB [(x >>> (8 * (n - 1 - j))).setWidth 8] = x.toNat / 256 ^ (n - 1 - j) % 256 := by
      rw [← shift_byte]; simp [natB]
    rw [h1, List.length_singleton, Nat.pow_one, show n - j = (n - 1 - j) + 1 by omega, show n - (j + 1) = n - 1 - j by omega, Nat.pow_succ 256 (n - 1 - j), ← Nat.div_div_eq_div_mul, Nat.pow_succ 256 j, Nat.mul_comm (256 ^ j) 256, Nat.mod_mul]
    omega
theorem numB_beTo (x : BitVec 64) (n : Nat) (hn : n ≤ 8) (hx : x.toNat < 256 ^ n) : numB (beTo x n n) = x := by
  apply BitVec.eq_of_toNat_eq
  rw [numB_nat _ (by rw [beTo_len]; exact hn), natB_beTo x n n (Nat.le_refl _), Nat.sub_self, Nat.pow_zero, Nat.div_one, Nat.mod_eq_of_lt hx]
theorem natB_div (bs : List B8) (j : Nat) (h : j ≤ bs.length) : natB bs / 256 ^ (bs.length - j) = natB (bs.take j) := by
  have e := natB_append (bs.take j) (bs.drop j)
  rw [List.take_append_drop, List.length_drop] at e
  have hl := natB_lt (bs.drop j)
  rw [List.length_drop] at hl
  have hp : 0 < 256 ^ (bs.length - j) := Nat.pow_pos (by omega)
  rw [e, Nat.mul_comm, Nat.mul_add_div hp, Nat.div_eq_of_lt hl, Nat.add_zero]
theorem beTo_numB (bs : List B8) (n : Nat) (hn : n ≤ 8) (h : bs.length = n) : beTo (numB bs) n n = bs := by
  have key : ∀ j, j ≤ n → beTo (numB bs) n j = bs.take j := by
    intro j
    induction j with
    | zero => intro _; simp [beTo]
    | succ j ih =>
      intro hj
      rw [beTo_succ, ih (by omega), List.take_succ_eq_append_getElem (by omega)]
      congr 2
      apply BitVec.eq_of_toNat_eq
      have hd := natB_div bs (j + 1) (by omega)
      rw [shift_byte, numB_nat bs (by omega), show n - 1 - j = bs.length - (j + 1) by omega, hd, List.take_succ_eq_append_getElem (by omega), natB_append]
      have := (bs[j]'(by omega)).isLt
      simp [natB]
      omega
  have := key n (Nat.le_refl _)
  rwa [List.take_of_length_le (by omega)] at this

theorem ofNat8 (x : Nat) (h : x < 256) : (BitVec.ofNat 8 x).toNat = x := by rw [BitVec.toNat_ofNat, Nat.mod_eq_of_lt (by omega)]
/-- groups read back -/
theorem head_groups : ∀ (f i x : Nat) (y : BitVec 64) (rest : List B8), i + f = 9 → x < 2 ^ (64 - 7 * i) → y.toNat < 2 ^ (7 * i) → (i = 0 ∨ 0 < x) →
    headB i y (groupsF f x ++ rest) = (BitVec.ofNat 64 (y.toNat + x * 2 ^ (7 * i)), i + (groupsF f x).length, 0) := by
  intro f
  induction f with
  | zero =>
    intro i x y rest hi hx hy h0
    obtain rfl : i = 9 := by omega
    have hx2 : x < 2 := by simpa using hx
    have hc := ofNat8 x (by omega)
    have hs := headStep_nat y (BitVec.ofNat 8 x) 9 hy (by rw [hc]; omega)
    simp only [groupsF, List.singleton_append, headB]
    rw [if_neg (by rw [hc]; omega), if_pos (by rw [hc]; omega), if_neg (by rw [hc]; omega)]
    congr 1
    apply BitVec.eq_of_toNat_eq
    rw [hs, hc, BitVec.toNat_ofNat, Nat.mod_eq_of_lt (by omega : x < 128), Nat.mod_eq_of_lt (by omega)]
  | succ f ih =>
    intro i x y rest hi hx hy h0
    have hp : 2 ^ (64 - 7 * i) * 2 ^ (7 * i) = 2 ^ 64 := by rw [← Nat.pow_add]; congr 1; omega
    have hp1 : 0 < 2 ^ (7 * i) := Nat.pow_pos (by omega)
    have hxm : (x + 1) * 2 ^ (7 * i) ≤ 2 ^ 64 := by rw [← hp]; exact Nat.mul_le_mul_right _ (by omega)
    rw [Nat.add_mul] at hxm
    simp only [groupsF]
    by_cases h128 : x < 128
    · rw [if_pos h128]
      have hc := ofNat8 x (by omega)
      have hs := headStep_nat y (BitVec.ofNat 8 x) i hy (by rw [hc, Nat.mod_eq_of_lt h128]; omega)
      simp only [List.singleton_append, headB]
      rw [if_neg (by omega), if_pos (by rw [hc]; omega), if_neg (by rw [hc]; omega)]
      congr 1
      apply BitVec.eq_of_toNat_eq
      rw [hs, hc, BitVec.toNat_ofNat, Nat.mod_eq_of_lt h128, Nat.mod_eq_of_lt (by omega)]
    · rw [if_neg h128]
      have hc := ofNat8 (x % 128 + 128) (by omega)
      have hle : (x % 128) * 2 ^ (7 * i) ≤ x * 2 ^ (7 * i) := Nat.mul_le_mul_right _ (Nat.mod_le _ _)
      have hm : (x % 128 + 128) % 128 = x % 128 := by omega
      have hs := headStep_nat y (BitVec.ofNat 8 (x % 128 + 128)) i hy (by rw [hc, hm]; omega)
      rw [hc, hm] at hs
      simp only [List.cons_append, headB]
      rw [if_neg (by omega), if_neg (by rw [hc]; omega)]
      have h7 : 2 ^ (7 * (i + 1)) = 128 * 2 ^ (7 * i) := pow_seven i
      have h64 : 2 ^ (64 - 7 * i) = 2 ^ (64 - 7 * (i + 1)) * 128 := by rw [show 64 - 7 * i = (64 - 7 * (i + 1)) + 7 by omega, Nat.pow_add]
      have hlt : (x % 128) * 2 ^ (7 * i) ≤ 127 * 2 ^ (7 * i) := Nat.mul_le_mul_right _ (by omega)
      rw [ih (i + 1) (x / 128) _ rest (by omega) (by rw [h64] at hx; exact Nat.div_lt_of_lt_mul (by rw [Nat.mul_comm]; exact hx)) (by rw [hs, h7]; omega) (.inr (by omega)), hs, h7, List.length_cons]
      congr 1
      · congr 1
        have e : x * 2 ^ (7 * i) = (x % 128) * 2 ^ (7 * i) + x / 128 * (128 * 2 ^ (7 * i)) := by
          rw [← Nat.mul_assoc, ← Nat.add_mul]
          congr 1
          omega
        rw [e, Nat.add_assoc]
      · congr 1
        omega
theorem head_back (x : BitVec 64) (rest : List B8) : headB 0 0 (groupsB x.toNat ++ rest) = (x, (groupsB x.toNat).length, 0) := by
  have hx := x.isLt
  have h := head_groups 9 0 x.toNat 0 rest rfl (by simpa using hx) (by simp) (.inl rfl)
  unfold groupsB
  rw [h]
  simp
/-- what is read is what would be laid down -/
theorem groups_head : ∀ (bs : List B8) (f i : Nat) (y : BitVec 64), i + f = 9 → y.toNat < 2 ^ (7 * i) → (headB i y bs).2.2 = 0 →
    ∃ g, (headB i y bs).1.toNat = y.toNat + g * 2 ^ (7 * i) ∧ g < 2 ^ (64 - 7 * i) ∧ (i = 0 ∨ 0 < g) ∧ groupsF f g = bs.take ((headB i y bs).2.1 - i) := by
  intro bs
  induction bs with
  | nil => intro f i y _ _ h; simp [headB] at h
  | cons c r ih =>
    intro f i y hi hy h
    have hc := c.isLt
    have hp : 2 ^ (64 - 7 * i) * 2 ^ (7 * i) = 2 ^ 64 := by rw [← Nat.pow_add]; congr 1; omega
    have hp1 : 0 < 2 ^ (7 * i) := Nat.pow_pos (by omega)
    simp only [headB] at h ⊢
    by_cases h9 : i = 9 ∧ 1 < c.toNat
    · rw [if_pos h9] at h; simp at h
    · rw [if_neg h9] at h ⊢
      have hcl : c.toNat % 128 < 2 ^ (64 - 7 * i) := by
        by_cases e : i = 9
        · subst e; simp; omega
        · have : 2 ^ 8 ≤ 2 ^ (64 - 7 * i) := Nat.pow_le_pow_right (by omega) (by omega)
          omega
      have hfit : (c.toNat % 128) * 2 ^ (7 * i) < 2 ^ 64 := by
        rw [← hp]; exact Nat.mul_lt_mul_of_pos_right hcl hp1
      have hs := headStep_nat y c i hy hfit
      by_cases h1 : c.toNat < 128
      · rw [if_pos h1] at h ⊢
        by_cases h0 : c.toNat = 0 ∧ 0 < i
        · rw [if_pos h0] at h; simp at h
        · rw [if_neg h0] at h ⊢
          refine ⟨c.toNat, by rw [hs, Nat.mod_eq_of_lt h1], by rw [Nat.mod_eq_of_lt h1] at hcl; exact hcl, by omega, ?_⟩
          have e : BitVec.ofNat 8 c.toNat = c := by apply BitVec.eq_of_toNat_eq; rw [ofNat8 _ (by omega)]
          show groupsF f c.toNat = (c :: r).take (i + 1 - i)
          rw [show i + 1 - i = 1 by omega]
          cases f with
          | zero => simp only [groupsF]; rw [e]; rfl
          | succ f => simp only [groupsF]; rw [if_pos h1, e]; rfl
      · rw [if_neg h1] at h ⊢
        have hi8 : i ≤ 8 := by
          by_cases e : i = 9
          · exact absurd ⟨e, by omega⟩ h9
          · omega
        obtain ⟨f, rfl⟩ : ∃ k, f = k + 1 := ⟨f - 1, by omega⟩
        have h7 : 2 ^ (7 * (i + 1)) = 128 * 2 ^ (7 * i) := pow_seven i
        have h64 : 2 ^ (64 - 7 * i) = 2 ^ (64 - 7 * (i + 1)) * 128 := by rw [show 64 - 7 * i = (64 - 7 * (i + 1)) + 7 by omega, Nat.pow_add]
        have hlt : (c.toNat % 128) * 2 ^ (7 * i) ≤ 127 * 2 ^ (7 * i) := Nat.mul_le_mul_right _ (by omega)
        obtain ⟨g, e1, e2, e3, e4⟩ := ih f (i + 1) (headStep y c i) (by omega) (by rw [hs, h7]; omega) h
        have hln := headB_len r (i + 1) (headStep y c i) h
        have hg : 0 < g := by omega
        refine ⟨c.toNat % 128 + 128 * g, ?_, by rw [h64]; omega, .inr (by omega), ?_⟩
        · rw [e1, hs, h7, Nat.add_mul, Nat.add_assoc]
          congr 2
          rw [← Nat.mul_assoc, Nat.mul_comm g 128]
        · generalize hN : (headB (i + 1) (headStep y c i) r).2.1 = N at *
          rw [show N - i = (N - (i + 1)) + 1 by omega, List.take_succ_cons, ← e4]
          simp only [groupsF]
          rw [if_neg (by omega), show (c.toNat % 128 + 128 * g) / 128 = g by omega, show (c.toNat % 128 + 128 * g) % 128 + 128 = c.toNat by omega]
          congr 1
          apply BitVec.eq_of_toNat_eq
          rw [ofNat8 _ hc]
theorem head_canon (bs : List B8) (h : (headB 0 0 bs).2.2 = 0) : groupsB (headB 0 0 bs).1.toNat = bs.take (headB 0 0 bs).2.1 := by
  obtain ⟨g, e1, _, _, e4⟩ := groups_head bs 9 0 0 rfl (by simp) h
  have e : (headB 0 0 bs).1.toNat = g := by rw [e1]; simp
  rw [e]
  exact e4
theorem unzig_zig (i : Int) (h0 : -9223372036854775808 ≤ i) (h1 : i ≤ 9223372036854775807) : unzig (BitVec.ofNat 64 (zig i)) = i := by
  have hz := zig_lt i h0 h1
  have e : (BitVec.ofNat 64 (zig i)).toNat = zig i := by rw [BitVec.toNat_ofNat, Nat.mod_eq_of_lt (by omega)]
  unfold unzig
  rw [e]
  by_cases h : 0 ≤ i
  · have e2 : (zig i : Int) = 2 * i := by unfold zig; rw [if_pos h]; omega
    rw [if_pos (by omega)]; omega
  · have e2 : (zig i : Int) = -2 * i - 1 := by unfold zig; rw [if_neg h]; omega
    rw [if_neg (by omega)]; omega
theorem zig_unzig (x : BitVec 64) : zig (unzig x) = x.toNat := by
  by_cases h : x.toNat % 2 = 0
  · have e : unzig x = ((x.toNat / 2 : Nat) : Int) := by unfold unzig; rw [if_pos h]
    rw [e]; unfold zig; rw [if_pos (by omega)]; omega
  · have e : unzig x = -((x.toNat / 2 : Nat) : Int) - 1 := by unfold unzig; rw [if_neg h]
    rw [e]; unfold zig; rw [if_neg (by omega)]; omega
theorem unzig_wf (x : BitVec 64) : -9223372036854775808 ≤ unzig x ∧ unzig x ≤ 9223372036854775807 := by
  have := x.isLt
  unfold unzig
  split <;> omega
end Go.Proofs.Ytfhoekcmkbeabaa
