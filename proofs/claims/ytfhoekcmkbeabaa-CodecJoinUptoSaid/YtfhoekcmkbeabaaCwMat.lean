/-
  The walks over the sums' matrices: of, zero, CrcJoin.
-/
import Derived.Test.YtfhoekcmkbeabaaCwBase
namespace Go.Proofs.Ytfhoekcmkbeabaa
open Go.RowKit
set_option linter.unusedVariables false

/-- a matrix's columns as the program's values -/
def uv (ms : List (BitVec 32)) : List Value := ms.map fun b => .int .u32 (b.toNat : Int)
theorem matInfo : (Try.prog.info? 103).map (·.size) = some 32 := by kernel_rfl
theorem uv_size (ms : List (BitVec 32)) (h : ms.length = 32) : (uv ms).toArray.size = 32 := by simp [uv, h]
theorem uv_info (ms : List (BitVec 32)) (h : ms.length = 32) : (Try.prog.info? 103).map (·.size) = some (uv ms).toArray.size := by rw [uv_size ms h]; exact matInfo
theorem uv_one (ms : List (BitVec 32)) : (uv ms).toArray.all (·.oneCell') = true := by
  rw [Array.all_eq_true_iff_forall_mem]
  intro v hv
  simp only [List.mem_toArray, uv, List.mem_map] at hv
  obtain ⟨b, _, rfl⟩ := hv
  rfl
theorem uv_set (ms : List (BitVec 32)) (k : Nat) (x : BitVec 32) : (uv ms).toArray.setIfInBounds k (.int .u32 (x.toNat : Int)) = (uv (ms.set k x)).toArray := by
  simp [uv, List.map_set]
theorem shl_u32 (k : Nat) (hk : k < 32) : (2 ^ k : Int) % 4294967296 = ((1#32 <<< k).toNat : Int) := by
  rw [BitVec.toNat_shiftLeft]
  have h1 : (1#32).toNat = 1 := rfl
  rw [h1, Nat.shiftLeft_eq, Nat.one_mul, Int.natCast_emod]
  simp
theorem u32_ne0 (r : BitVec 32) : (((r.toNat : Nat) : Int) != 0) = !decide (r = 0#32) := by
  by_cases h : r = 0#32
  · subst h; simp
  · have : (r.toNat : Int) ≠ 0 := fun e => h (BitVec.eq_of_toNat_eq (by simpa using e))
    have h2 : (((r.toNat : Nat) : Int) != 0) = true := by rw [bne_iff_ne]; exact this
    rw [h2, decide_eq_false h]; rfl
theorem u32_bit0 (r : BitVec 32) : (bits .and .u32 (r.toNat : Int) 1 == 1) = r.getLsbD 0 := by
  have h := mask_bit r 0
  simp only [Int.pow_zero, Int.ediv_one] at h
  cases hb : r.getLsbD 0
  · rw [hb] at h
    simpa using h
  · rw [hb] at h
    simpa using h
theorem u32_shr1 (r : BitVec 32) (k : Nat) : ((r >>> k).toNat : Int) / 2 = ((r >>> (k + 1)).toNat : Int) := by
  rw [BitVec.shiftRight_add, BitVec.toNat_ushiftRight (r >>> k), Nat.shiftRight_eq_div_pow]; simp

set_option maxRecDepth 100000 in
set_option maxHeartbeats 1000000 in
theorem of_calls (p : Nat) (T : TypeId) (ms : List (BitVec 32)) (hm : ms.length = 32) (r : BitVec 32) (w : World) (ho : Ob w p T (uv ms).toArray) :
    Calls Try.prog 62 #[.pointer (some ⟨p, 0, none⟩), .int .u32 (r.toNat : Int)] w fun e w' => e = .returned (.int .u32 ((matTo ms r 32).toNat : Int)) ∧ w = w' := by
  have HO := Lib.hid ho
  clear ho
  go_enter Try.func62, Try.ntmps62
  go_wp2
  go_loop [1, 5, 6] (fun s x i => ∃ k : Nat, k ≤ 32 ∧ i = .int .i64 k ∧ s = .int .u32 ((r >>> k).toNat : Int) ∧ x = .int .u32 ((matTo ms r k).toNat : Int)) (fun _ _ i => 32 - (intOf i).toNat)
  case atStart => exact ⟨0, by omega, rfl, by simp, rfl⟩
  case round =>
    obtain ⟨k, hk, rfl, rfl, rfl⟩ := hrel
    have hne := u32_ne0 (r >>> k)
    have HE := Lib.hid (matTo_end ms r k)
    have hsh := u32_shr1 r k
    have hb := u32_bit0 (r >>> k)
    rw [BitVec.getLsbD_ushiftRight, Nat.add_zero] at hb
    have hz : k = 32 → r >>> k = 0#32 := by
      intro e
      subst e
      apply BitVec.eq_of_getLsbD_eq
      intro i hi
      rw [BitVec.getLsbD_ushiftRight, BitVec.getLsbD_of_ge r _ (by omega)]
      simp
    generalize r >>> k = s at *
    have HSH := Lib.hid hsh
    clear hsh
    by_cases h0 : s = 0#32
    · have H0 := Lib.hid h0
      rw [decide_eq_true h0] at hne
      replace hne : (((s.toNat : Nat) : Int) != 0) = false := hne
      clear h0 hb hz
      go_wp2
      go_ret
      exact ⟨ret_int (by rw [HE.out H0.out 32 hk]), rfl⟩
    · rw [decide_eq_false h0] at hne
      replace hne : (((s.toNat : Nat) : Int) != 0) = true := hne
      have hlt : k < 32 := by
        by_cases hlt : k < 32
        · exact hlt
        · exact absurd (hz (by omega)) h0
      clear h0 hz
      have hc := HO.out.cell k
      rw [show (uv ms).toArray[k]? = some (.int .u32 ((ms.getD k 0#32).toNat : Int)) by simp [uv, hm, hlt]] at hc
      have hm1 : matTo ms r (k + 1) = if r.getLsbD k then matTo ms r k ^^^ ms.getD k 0#32 else matTo ms r k := rfl
      cases hr : r.getLsbD k
      · rw [hr] at hb hm1
        have HM := Lib.hid hm1
        have HR := Lib.hid hr
        clear hm1 hr hc
        go_wp2
        go_round
        case rel => exact ⟨k + 1, by omega, by go_num, by rw [HSH.out], by rw [HM.out]; rfl⟩
        case measure => simp [intOf]; omega
      · rw [hr] at hb hm1
        have HM := Lib.hid hm1
        have HR := Lib.hid hr
        clear hm1 hr
        generalize ms.getD k 0#32 = mk at *
        generalize matTo ms r k = x at *
        go_wp2
        go_round
        case rel => exact ⟨k + 1, by omega, by go_num, by rw [HSH.out], by rw [HM.out, bits_xor_u32]; rfl⟩
        case measure => simp [intOf]; omega

end Go.Proofs.Ytfhoekcmkbeabaa
