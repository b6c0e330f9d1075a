
/-
  Go's bit operations on whole numbers, as operations on bit vectors.
-/
import Derived.Test.YtoeafacamapofaaHp
namespace Go.Proofs.Ytoeafacamapofaa
open Go.RowKit
set_option linter.unusedVariables false

theorem bits_xor_u32 (a b : BitVec 32) : bits .xor .u32 (a.toNat : Int) (b.toNat : Int) = ((a ^^^ b).toNat : Int) := by
  simp only [bits, IntKind.bits, BitVec.ofInt_natCast, BitVec.ofNat_toNat, BitVec.setWidth_eq]
  rw [IntKind.wrap_u32]
  exact Int.emod_eq_of_lt (Int.natCast_nonneg _) (Int.ofNat_lt.mpr (a ^^^ b).isLt)
theorem bits_and_u32 (a b : BitVec 32) : bits .and .u32 (a.toNat : Int) (b.toNat : Int) = ((a &&& b).toNat : Int) := by
  simp only [bits, IntKind.bits, BitVec.ofInt_natCast, BitVec.ofNat_toNat, BitVec.setWidth_eq]
  rw [IntKind.wrap_u32]
  exact Int.emod_eq_of_lt (Int.natCast_nonneg _) (Int.ofNat_lt.mpr (a &&& b).isLt)
theorem bits_xor_u8 (a b : BitVec 8) : bits .xor .u8 (a.toNat : Int) (b.toNat : Int) = ((a ^^^ b).toNat : Int) := by
  simp only [bits, IntKind.bits, BitVec.ofInt_natCast, BitVec.ofNat_toNat, BitVec.setWidth_eq]
  rw [IntKind.wrap_u8]
  exact Int.emod_eq_of_lt (Int.natCast_nonneg _) (Int.ofNat_lt.mpr (a ^^^ b).isLt)

theorem bits_not_u32 (r : BitVec 32) : bits .xor .u32 IntKind.u32.max (r.toNat : Int) = ((~~~ r).toNat : Int) := by
  have h : IntKind.u32.max = ((BitVec.allOnes 32).toNat : Int) := by decide
  rw [h, bits_xor_u32]
  rw [BitVec.xor_comm, BitVec.xor_allOnes]
theorem mask_bit (mask : BitVec 32) (k : Nat) : bits .and .u32 ((mask.toNat : Int) / 2 ^ k) 1 = 1 ↔ mask.getLsbD k = true := by
  have e4 : (((mask >>> k).toNat : Nat) : Int) = (mask.toNat : Int) / 2 ^ k := by
    rw [BitVec.toNat_ushiftRight, Nat.shiftRight_eq_div_pow]; simp
  have e := bits_and_u32 (mask >>> k) 1#32
  have h1 : ((1#32).toNat : Int) = 1 := by decide
  rw [h1, e4] at e
  rw [e]
  constructor
  · intro h
    have h4 : ((mask >>> k) &&& 1#32) = 1#32 := by
      apply BitVec.eq_of_toNat_eq
      have h3 : ((((mask >>> k) &&& 1#32).toNat : Nat) : Int) = ((1 : Nat) : Int) := h
      rw [Int.ofNat.inj h3]; rfl
    have := congrArg (fun x => x.getLsbD 0) h4
    simpa using this
  · intro h
    have h2 : ((mask >>> k) &&& 1#32) = 1#32 := by
      apply BitVec.eq_of_getLsbD_eq
      intro i hi
      rw [BitVec.getLsbD_and]
      by_cases h0 : i = 0
      · subst h0; simp [h]
      · have : (1#32).getLsbD i = false := by
          rw [BitVec.getLsbD_one]; simp [h0]
        simp [this]
    rw [h2]; rfl

theorem xor_shl_u8 (y : BitVec 8) (m : Nat) (hm : m < 8) : bits .xor .u8 (y.toNat : Int) (2 ^ m % 256) = ((y ^^^ (1#8 <<< m)).toNat : Int) := by
  rw [← bits_xor_u8]
  congr 1
  have : m = 0 ∨ m = 1 ∨ m = 2 ∨ m = 3 ∨ m = 4 ∨ m = 5 ∨ m = 6 ∨ m = 7 := by omega
  rcases this with rfl | rfl | rfl | rfl | rfl | rfl | rfl | rfl <;> decide
theorem int_eq_bv {n : Nat} (a b : BitVec n) : (((a.toNat : Nat) : Int) == ((b.toNat : Nat) : Int)) = decide (a = b) := by
  by_cases h : a = b
  · subst h; simp
  · have : (a.toNat : Int) ≠ (b.toNat : Int) := fun e => h (BitVec.eq_of_toNat_eq (by exact_mod_cast e))
    simp [h, this]
theorem wrap_u64 (n : Int) : IntKind.u64.wrap n = n % 18446744073709551616 := by simp [IntKind.wrap, IntKind.bits, IntKind.signed]
theorem bits_xor_u64 (a b : BitVec 64) : bits .xor .u64 (a.toNat : Int) (b.toNat : Int) = ((a ^^^ b).toNat : Int) := by
  simp only [bits, IntKind.bits, BitVec.ofInt_natCast, BitVec.ofNat_toNat, BitVec.setWidth_eq]
  rw [wrap_u64]
  exact Int.emod_eq_of_lt (Int.natCast_nonneg _) (Int.ofNat_lt.mpr (a ^^^ b).isLt)
theorem bits_and_u64 (a b : BitVec 64) : bits .and .u64 (a.toNat : Int) (b.toNat : Int) = ((a &&& b).toNat : Int) := by
  simp only [bits, IntKind.bits, BitVec.ofInt_natCast, BitVec.ofNat_toNat, BitVec.setWidth_eq]
  rw [wrap_u64]
  exact Int.emod_eq_of_lt (Int.natCast_nonneg _) (Int.ofNat_lt.mpr (a &&& b).isLt)
theorem bits_or_u64 (a b : BitVec 64) : bits .or .u64 (a.toNat : Int) (b.toNat : Int) = ((a ||| b).toNat : Int) := by
  simp only [bits, IntKind.bits, BitVec.ofInt_natCast, BitVec.ofNat_toNat, BitVec.setWidth_eq]
  rw [wrap_u64]
  exact Int.emod_eq_of_lt (Int.natCast_nonneg _) (Int.ofNat_lt.mpr (a ||| b).isLt)
/-- the lowest bit -/
theorem and1_u64 (n : Nat) (h : n < 18446744073709551616) : bits .and .u64 (n : Int) 1 = ((n % 2 : Nat) : Int) := by
  have e := bits_and_u64 (BitVec.ofNat 64 n) 1#64
  have h1 : ((1#64).toNat : Int) = 1 := by decide
  rw [h1, BitVec.toNat_ofNat, Nat.mod_eq_of_lt h] at e
  rw [e, BitVec.toNat_and, BitVec.toNat_ofNat, Nat.mod_eq_of_lt h]
  show ((n &&& 1 : Nat) : Int) = _
  rw [Nat.and_one_is_mod]

end Go.Proofs.Ytoeafacamapofaa
