
/-
  The walk over the reference's from.
-/
import Derived.Test.YtfhoekcmkbeabaaCwReader2
namespace Go.Proofs.Ytfhoekcmkbeabaa
open Go.RowKit
set_option linter.unusedVariables false
set_option linter.unusedSimpArgs false

theorem numStep_nat (x : BitVec 64) (c : B8) : (numStep x c).toNat = (x.toNat * 256) % 18446744073709551616 + c.toNat := by
  have hc := c.isLt
  have h0 : (x <<< 8) &&& c.setWidth 64 = 0#64 := by
    ext i hi
    simp
    intro h1 _
    by_cases h : i < 8
    · omega
    · exact BitVec.getLsbD_of_ge c i (by omega)
  unfold numStep
  rw [← BitVec.add_eq_or_of_and_eq_zero _ _ h0, BitVec.toNat_add, BitVec.toNat_shiftLeft, BitVec.toNat_setWidth, Nat.shiftLeft_eq]
  have e : c.toNat % 2 ^ 64 = c.toNat := Nat.mod_eq_of_lt (by omega)
  rw [e]
  omega
theorem step_add (x : BitVec 64) (c : B8) (X : Int) (h : X = IntKind.u64.wrap (IntKind.u64.wrap ((x.toNat : Int) * 256) + (c.toNat : Int)) ∨ X = IntKind.u64.wrap ((x.toNat : Int) * 256 + (c.toNat : Int))) : X = ((numStep x c).toNat : Int) := by
  have hc := c.isLt
  rw [numStep_nat]
  rcases h with rfl | rfl
  · rw [wrap_u64, wrap_u64]; omega
  · rw [wrap_u64]; omega
theorem numB_lt (xs : List B8) : ∀ n, xs.length ≤ n → n ≤ 7 → (numB xs).toNat < 256 ^ n := by
  intro n hn h7
  have key : ∀ (ys : List B8) (x : BitVec 64) (j : Nat), x.toNat < 256 ^ j → j + ys.length ≤ 7 → (ys.foldl numStep x).toNat < 256 ^ (j + ys.length) := by
    intro ys
    induction ys with
    | nil => intro x j h _; simpa using h
    | cons c ys ih =>
      intro x j h hj
      simp only [List.foldl_cons, List.length_cons] at hj ⊢
      have hc := c.isLt
      have hp : 256 ^ j * 256 ≤ 256 ^ 7 := by rw [← Nat.pow_succ]; exact Nat.pow_le_pow_right (by omega) (by omega)
      have e7 : (256 : Nat) ^ 7 = 72057594037927936 := by decide
      have h2 : (numStep x c).toNat < 256 ^ (j + 1) := by
        rw [numStep_nat, Nat.pow_succ]
        omega
      have := ih (numStep x c) (j + 1) h2 (by omega)
      rw [show j + (ys.length + 1) = j + 1 + ys.length by omega]
      exact this
  have h := key xs 0 0 (by simp) (by omega)
  rw [Nat.zero_add] at h
  exact Nat.lt_of_lt_of_le h (Nat.pow_le_pow_right (by omega) hn)

set_option maxRecDepth 100000 in
set_option maxHeartbeats 1000000 in
theorem from_calls (a : Option Addr) (c : Nat) (bs : List B8) (hn : bs.length ≤ 140737488355328) (k n : Nat) (hk : k + n ≤ bs.length) (w : World) (hb : Bs w a bs) :
    Calls Try.prog 84 #[.slice a bs.length c, .int .i64 k, .int .i64 n] w fun e w' => e = .returned (.int .u64 ((numB ((bs.drop k).take n)).toNat : Int)) ∧ w = w' := by
  have HB := Lib.hid hb
  clear hb
  go_enter Try.func84, Try.ntmps84
  go_wp2
  go_loopw [7, 8] (fun x i wr => ∃ j : Nat, j ≤ n ∧ i = .int .i64 j ∧ x = .int .u64 ((numB ((bs.drop k).take j)).toNat : Int) ∧ wr = w) (fun _ i _ => n - (intOf i).toNat)
  case atStart => exact ⟨0, by omega, rfl, rfl, rfl⟩
  case round =>
    obtain ⟨j, hj, rfl, rfl, rfl⟩ := hrel
    by_cases hlt : j < n
    · obtain ⟨y, rfl, hc⟩ := HB.out.at (k + j) (by omega)
      obtain ⟨bt, hbt⟩ : ∃ bt, bs[k + j]'(by omega) = bt := ⟨_, rfl⟩
      rw [hbt] at hc
      have HNX : Hid (numB ((bs.drop k).take (j + 1)) = numStep (numB ((bs.drop k).take j)) bt) := Lib.hid (by rw [numB_succ _ _ (by simp; omega)]; congr 1; rw [List.getElem_drop]; exact hbt)
      generalize numB ((bs.drop k).take j) = x at *
      clear hbt
      have HSA := Lib.hid (step_add x bt)
      have hidx : IntKind.i64.wrap ((k : Int) + (j : Int)) = ((k + j : Nat) : Int) := by rw [IntKind.wrap_i64]; omega
      go_wp2
      refine ⟨⟨j + 1, by omega, by go_num, ?_, trivial⟩, by simp [intOf]; omega⟩
      rw [HNX.out, HSA.out _ (.inl rfl)]
    · obtain rfl : j = n := by omega
      go_wp2
      go_ret
      exact ⟨rfl, rfl⟩
end Go.Proofs.Ytfhoekcmkbeabaa
