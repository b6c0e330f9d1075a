
/-
  The walks over the reference's sums.
-/
import Derived.Test.YtfhoekcmkbeabaaCrcRef
import Derived.Test.YtfhoekcmkbeabaaCwBase
namespace Go.Proofs.Ytfhoekcmkbeabaa
open Go.RowKit
set_option linter.unusedVariables false
set_option linter.unusedSimpArgs false

theorem w64_small (p : BitVec 32) : (p.setWidth 64).toNat = p.toNat := by
  have := p.isLt
  rw [BitVec.toNat_setWidth, Nat.mod_eq_of_lt (by omega)]
/-- twice p and the bit, in 64 bits -/
def x64 (p : BitVec 32) (b : Bool) : BitVec 64 := (p ++ BitVec.ofBool b).setWidth 64
theorem x64_nat (p : BitVec 32) (b : Bool) : (x64 p b).toNat = p.toNat * 2 + b.toNat := by
  have hp := p.isLt
  have hb : b.toNat ≤ 1 := by cases b <;> decide
  have hb2 : (BitVec.ofBool b).toNat = b.toNat := by cases b <;> rfl
  have h : (p ++ BitVec.ofBool b).toNat = p.toNat * 2 + b.toNat := by
    rw [BitVec.toNat_append, hb2, ← Nat.shiftLeft_add_eq_or_of_lt (by omega), Nat.shiftLeft_eq]
  unfold x64
  rw [BitVec.toNat_setWidth, h, Nat.mod_eq_of_lt (by omega)]
theorem x64_bit (p : BitVec 32) (b : Bool) (i : Nat) (hi : i < 64) : (x64 p b).getLsbD i = if i = 0 then b else p.getLsbD (i - 1) := by
  unfold x64
  rw [BitVec.getLsbD_setWidth, BitVec.getLsbD_append]
  by_cases h0 : i = 0
  · subst h0; cases b <;> simp
  · simp [hi, h0, show ¬ i < 1 by omega]
theorem poly64 : ∀ i : Fin 64, (4812730177#64).getLsbD i.val = if i.val < 32 then (517762881#32).getLsbD i.val else decide (i.val = 32) := by decide
theorem stepP_bit (p : BitVec 32) (b : Bool) (i : Nat) (hi : i < 32) : (stepP p b).getLsbD i = ((x64 p b).getLsbD i != (p.getLsbD 31 && (517762881#32).getLsbD i)) := by
  rw [x64_bit p b i (by omega)]
  unfold stepP
  rw [BitVec.getLsbD_xor, bitW_bit]
  have hsh : (p <<< 1).getLsbD i = (!decide (i = 0) && p.getLsbD (i - 1)) := by
    rw [BitVec.getLsbD_shiftLeft]
    by_cases h0 : i = 0
    · subst h0; simp
    · simp [hi, h0, show ¬ i < 1 by omega]
  cases h31 : p.getLsbD 31
  · simp only [h31, Bool.false_eq_true, if_false]
    rw [hsh]
    by_cases h0 : i = 0 <;> simp [h0]
  · simp only [h31, if_true]
    rw [BitVec.getLsbD_xor, hsh]
    by_cases h0 : i = 0 <;> simp [h0]
theorem ge_iff (p : BitVec 32) (b : Bool) : 4294967296 ≤ p.toNat * 2 + b.toNat ↔ p.getLsbD 31 = true := by
  have hb : b.toNat ≤ 1 := by cases b <;> decide
  have hm : p.getLsbD 31 = p.msb := (BitVec.msb_eq_getLsbD_last p).symm
  rw [hm, BitVec.msb_eq_decide, decide_eq_true_eq]
  omega
theorem step_hi (p : BitVec 32) (b : Bool) (h : 4294967296 ≤ p.toNat * 2 + b.toNat) : bits .xor .u64 ((p.toNat : Int) * 2 + (b.toNat : Int)) 4812730177 = ((stepP p b).toNat : Int) := by
  have h31 := (ge_iff p b).1 h
  have e := bits_xor_u64 (x64 p b) 4812730177#64
  rw [x64_nat] at e
  have e2 : ((4812730177#64).toNat : Int) = 4812730177 := by decide
  rw [e2, Int.natCast_add, Int.natCast_mul] at e
  refine e.trans ?_
  rw [← w64_small]
  congr 2
  apply BitVec.eq_of_getLsbD_eq
  intro i hi
  rw [BitVec.getLsbD_xor, BitVec.getLsbD_setWidth, poly64 ⟨i, hi⟩]
  by_cases h32 : i < 32
  · rw [stepP_bit p b i h32, h31]
    simp [hi, h32]
  · rw [x64_bit p b i hi, BitVec.getLsbD_of_ge (stepP p b) i (by omega)]
    by_cases he : i = 32
    · subst he; simp [h31]
    · rw [BitVec.getLsbD_of_ge p (i - 1) (by omega)]
      simp [show ¬ i = 0 by omega, h32, he]
theorem step_lo (p : BitVec 32) (b : Bool) (h : ¬ 4294967296 ≤ p.toNat * 2 + b.toNat) : (p.toNat : Int) * 2 + (b.toNat : Int) = ((stepP p b).toNat : Int) := by
  have h31 : p.getLsbD 31 = false := by
    cases hb : p.getLsbD 31
    · rfl
    · exact absurd ((ge_iff p b).2 hb) h
  have e2 : ((x64 p b).toNat : Int) = (p.toNat : Int) * 2 + (b.toNat : Int) := by rw [x64_nat, Int.natCast_add, Int.natCast_mul]; rfl
  rw [← e2, ← w64_small]
  congr 2
  apply BitVec.eq_of_getLsbD_eq
  intro i hi
  rw [BitVec.getLsbD_setWidth]
  by_cases h32 : i < 32
  · rw [stepP_bit p b i h32, h31]
    simp [hi]
  · rw [x64_bit p b i hi, BitVec.getLsbD_of_ge (stepP p b) i (by omega)]
    by_cases he : i = 32
    · subst he; simpa using h31
    · rw [BitVec.getLsbD_of_ge p (i - 1) (by omega)]
      simp [show ¬ i = 0 by omega]

set_option maxRecDepth 100000 in
set_option maxHeartbeats 1000000 in
theorem step_calls (p : BitVec 32) (b : Bool) (w : World) :
    Calls Try.prog 102 #[.int .u64 (p.toNat : Int), .int .u64 (b.toNat : Int)] w fun e w' => e = .returned (.int .u64 ((stepP p b).toNat : Int)) ∧ w = w' := by
  have hp : p.toNat ≤ 4294967295 := by have := p.isLt; omega
  have hb : b.toNat ≤ 1 := by cases b <;> decide
  have H1 := Lib.hid (step_hi p b)
  have H2 := Lib.hid (step_lo p b)
  generalize hr : (((stepP p b).toNat : Nat) : Int) = r at *
  generalize hq : p.toNat = q at *
  generalize hc : b.toNat = c at *
  clear hr hq hc
  by_cases h : 4294967296 ≤ (q : Int) * 2 + c
  · go_enter Try.func102, Try.ntmps102
    go_wp2
    go_ret
    exact ⟨ret_int (H1.out (by omega)), rfl⟩
  · go_enter Try.func102, Try.ntmps102
    go_wp2
    go_ret
    exact ⟨ret_int (H2.out (by omega)), rfl⟩


/-- a bit of a number that fits 32 bits, as u64 arithmetic tells it -/
theorem bit_u64 (p : BitVec 32) (k : Nat) : bits .and .u64 ((p.toNat : Int) / 2 ^ k) 1 = ((p.getLsbD k).toNat : Int) := by
  have hp := p.isLt
  have e4 : (((p.toNat / 2 ^ k : Nat)) : Int) = (p.toNat : Int) / 2 ^ k := by simp
  have hle : p.toNat / 2 ^ k ≤ p.toNat := Nat.div_le_self _ _
  rw [← e4, and1_u64 _ (by omega)]
  have : p.getLsbD k = decide (p.toNat / 2 ^ k % 2 = 1) := by
    rw [BitVec.getLsbD, Nat.testBit, Nat.shiftRight_eq_div_pow, Nat.one_and_eq_mod_two]
    cases Nat.mod_two_eq_zero_or_one (p.toNat / 2 ^ k) with
    | inl h => rw [h]; rfl
    | inr h => rw [h]; rfl
  rw [this]
  cases Nat.mod_two_eq_zero_or_one (p.toNat / 2 ^ k) with
  | inl h => rw [h]; rfl
  | inr h => rw [h]; rfl
theorem shr32 (q : BitVec 32) : q >>> (32 - 0) = 0#32 := by
  apply BitVec.eq_of_getLsbD_eq
  intro i hi
  rw [BitVec.getLsbD_ushiftRight, BitVec.getLsbD_of_ge q _ (by omega)]
  simp
theorem turned_step (p : BitVec 32) (k : Nat) (hk : k < 32) : (p.reverse >>> (32 - (k + 1))).toNat = (p.reverse >>> (32 - k)).toNat * 2 + (p.getLsbD k).toNat := by
  have h : p.reverse.toNat / 2 ^ (32 - (k + 1)) = p.reverse.toNat / 2 ^ (32 - k) * 2 + (p.reverse.getLsbD (31 - k)).toNat := by
    have e : (32 - k) = (32 - (k + 1)) + 1 := by omega
    rw [e, Nat.pow_succ, ← Nat.div_div_eq_div_mul, show 31 - k = 32 - (k + 1) by omega]
    generalize 32 - (k + 1) = j
    have : p.reverse.getLsbD j = decide (p.reverse.toNat / 2 ^ j % 2 = 1) := by
      rw [BitVec.getLsbD, Nat.testBit, Nat.shiftRight_eq_div_pow, Nat.one_and_eq_mod_two]
      cases Nat.mod_two_eq_zero_or_one (p.reverse.toNat / 2 ^ j) with
      | inl h => rw [h]; rfl
      | inr h => rw [h]; rfl
    rw [this]
    generalize p.reverse.toNat / 2 ^ j = x
    cases Nat.mod_two_eq_zero_or_one x with
    | inl h => rw [h]; simp; omega
    | inr h => rw [h]; simp; omega
  rw [rev_bit p (31 - k) (by omega), show 31 - (31 - k) = k by omega] at h
  rw [BitVec.toNat_ushiftRight, BitVec.toNat_ushiftRight, Nat.shiftRight_eq_div_pow, Nat.shiftRight_eq_div_pow]
  exact h

set_option maxRecDepth 100000 in
set_option maxHeartbeats 1000000 in
theorem turned_calls (p : BitVec 32) (w : World) :
    Calls Try.prog 63 #[.int .u64 (p.toNat : Int)] w fun e w' => e = .returned (.int .u64 ((p.reverse).toNat : Int)) ∧ w = w' := by
  go_enter Try.func63, Try.ntmps63
  go_wp2
  go_loop [3, 4] (fun x i => ∃ k : Nat, k ≤ 32 ∧ i = .int .i64 k ∧ x = .int .u64 ((p.reverse >>> (32 - k)).toNat : Int)) (fun _ i => 32 - (intOf i).toNat)
  case atStart => exact ⟨0, by omega, rfl, by rw [shr32]; rfl⟩
  case round =>
    obtain ⟨k, hk, rfl, rfl⟩ := hrel
    by_cases hlt : k < 32
    · have hs := turned_step p k hlt
      have hb := bit_u64 p k
      have hx : (p.reverse >>> (32 - k)).toNat ≤ 4294967295 := by have := (p.reverse >>> (32 - k)).isLt; omega
      have hc : (p.getLsbD k).toNat ≤ 1 := by cases p.getLsbD k <;> decide
      generalize (p.reverse >>> (32 - k)).toNat = x at *
      generalize (p.getLsbD k).toNat = c at *
      have HS := Lib.hid hs
      clear hs
      go_wp2
      go_round
      case rel => exact ⟨k + 1, by omega, by go_num, by rw [HS.out]; simp⟩
      case measure => simp [intOf]; omega
    · obtain rfl : k = 32 := by omega
      go_wp2
      go_ret
      exact ⟨ret_int (by simp), rfl⟩

set_option maxRecDepth 100000 in
set_option maxHeartbeats 1000000 in
theorem times_calls (a b : BitVec 32) (w : World) :
    Calls Try.prog 64 #[.int .u64 (a.toNat : Int), .int .u64 (b.toNat : Int)] w fun e w' => e = .returned (.int .u64 ((timesN a b 32).toNat : Int)) ∧ w = w' := by
  go_enter Try.func64, Try.ntmps64
  go_wp2
  go_loop [5, 6] (fun x i => ∃ m : Nat, m ≤ 32 ∧ (∃ q : Int, i = .int .i64 q ∧ Hid (q = (m : Int) - 1)) ∧ x = .int .u64 ((timesN a b (32 - m)).toNat : Int)) (fun _ i => (intOf i + 1).toNat)
  case atStart => exact ⟨32, by omega, ⟨31, rfl, Lib.hid (by decide)⟩, rfl⟩
  case round =>
    obtain ⟨m, hm, ⟨q, rfl, hq⟩, rfl⟩ := hrel
    cases m with
    | zero =>
      obtain rfl : q = -1 := by have := hq.out; omega
      go_wp2
      go_ret
      exact ⟨rfl, rfl⟩
    | succ j =>
      obtain rfl : q = (j : Int) := by have := hq.out; omega
      have hb := bit_u64 b j
      have hs : timesN a b (32 - j) = if b.getLsbD j then stepP (timesN a b (32 - (j + 1))) false ^^^ a else stepP (timesN a b (32 - (j + 1))) false := by
        rw [show 32 - j = (32 - (j + 1)) + 1 by omega]
        simp only [timesN]
        rw [show 31 - (32 - (j + 1)) = j by omega]
      have HQ := hq
      clear hq
      generalize timesN a b (32 - (j + 1)) = x at *
      have hst := fun W => step_calls x false W
      cases hbj : b.getLsbD j
      · rw [hbj] at hb hs
        have HS := Lib.hid hs
        have HBJ := Lib.hid hbj
        clear hs hbj hst
        replace hb : bits .and .u64 ((b.toNat : Int) / 2 ^ j) 1 = 0 := hb
        go_wp2_with (go_at_call 102; refine (step_calls x false _).mono ?_; rintro e w' ⟨rfl, rfl⟩)
        go_round
        case rel => exact ⟨j, by omega, ⟨_, rfl, Lib.hid (by omega)⟩, by rw [HS.out]; rfl⟩
        case measure => simp [intOf]
      · rw [hbj] at hb hs
        have HS := Lib.hid hs
        have HBJ := Lib.hid hbj
        clear hs hbj hst
        replace hb : bits .and .u64 ((b.toNat : Int) / 2 ^ j) 1 = 1 := hb
        have hx := fun y : BitVec 32 => bits_xor_u64 (y.setWidth 64) (a.setWidth 64)
        have HX := Lib.hid hx
        clear hx
        go_wp2_with (go_at_call 102; refine (step_calls x false _).mono ?_; rintro e w' ⟨rfl, rfl⟩)
        go_round
        case rel =>
          refine ⟨j, by omega, ⟨_, rfl, Lib.hid (by omega)⟩, ?_⟩
          rw [HS.out]
          have := HX.out (stepP x false)
          rw [w64_small, w64_small, ← BitVec.setWidth_xor, w64_small] at this
          rw [this]; rfl
        case measure => simp [intOf]


/-- the power: whatever it is, it stands for so many steps -/
theorem power_calls : ∀ (N : Nat) (n : Int), n.toNat ≤ N → n ≤ 9223372036854775807 → ∀ w : World,
    Calls Try.prog 65 #[.int .i64 n] w fun e w' => (∃ p : BitVec 32, e = .returned (.int .u64 (p.toNat : Int)) ∧ IsPow p (8 * n.toNat)) ∧ w = w' := by
  intro N
  induction N with
  | zero =>
    intro n hN hn w
    have h0 : n ≤ 0 := by omega
    have h1 : n.toNat = 0 := by omega
    have H1 := Lib.hid h1
    clear h1
    go_enter Try.func65, Try.ntmps65
    go_wp2
    go_ret
    exact ⟨⟨1#32, rfl, by rw [H1.out]; exact IsPow.one⟩, rfl⟩
  | succ N ih =>
    intro n hN hn w
    have IH := Lib.hid ih
    clear ih
    by_cases h0 : n ≤ 0
    · have h1 : n.toNat = 0 := by omega
      have H1 := Lib.hid h1
      clear h1
      go_enter Try.func65, Try.ntmps65
      go_wp2
      go_ret
      exact ⟨⟨1#32, rfl, by rw [H1.out]; exact IsPow.one⟩, rfl⟩
    · obtain ⟨M, rfl⟩ := Int.eq_ofNat_of_zero_le (show 0 ≤ n by omega)
      have hN2 : ((M : Int) / 2).toNat ≤ N := by omega
      have HN2 := Lib.hid hN2
      have he : 8 * (((M : Int) / 2).toNat) = 8 * (M / 2) := by omega
      have HE := Lib.hid he
      clear hN hN2 he
      by_cases hodd : M % 2 = 1
      · have ho : ((M : Int) % 2 == 1) = true := by rw [beq_iff_eq]; omega
        have HO := Lib.hid hodd
        clear hodd
        go_enter Try.func65, Try.ntmps65
        go_wp2_with fail
        refine (IH.out ((M : Int) / 2) HN2.out (by omega) w).mono ?_
        rintro e w1 ⟨⟨p, rfl, hp⟩, rfl⟩
        have HP := Lib.hid hp
        clear hp
        go_wp2_with fail
        refine (times_calls p p w).mono ?_
        rintro e w1 ⟨rfl, rfl⟩
        have hq := HP.out.mul HP.out
        generalize timesN p p 32 = q at *
        have HQ := Lib.hid hq
        clear hq
        go_wp2_with fail
        refine (times_calls q 256#32 w).mono ?_
        rintro e w1 ⟨rfl, rfl⟩
        go_wp2
        go_ret
        refine ⟨⟨_, rfl, ?_⟩, rfl⟩
        have hz := HQ.out.mul IsPow.byte
        have h2 := HO.out
        rw [HE.out, show 8 * (M / 2) + 8 * (M / 2) + 8 = 8 * ((M : Int).toNat) by omega] at hz
        exact hz
      · have ho : ((M : Int) % 2 == 1) = false := by rw [beq_eq_false_iff_ne]; omega
        have HO := Lib.hid hodd
        clear hodd
        go_enter Try.func65, Try.ntmps65
        go_wp2_with fail
        refine (IH.out ((M : Int) / 2) HN2.out (by omega) w).mono ?_
        rintro e w1 ⟨⟨p, rfl, hp⟩, rfl⟩
        have HP := Lib.hid hp
        clear hp
        go_wp2_with fail
        refine (times_calls p p w).mono ?_
        rintro e w1 ⟨rfl, rfl⟩
        go_wp2
        go_ret
        refine ⟨⟨_, rfl, ?_⟩, rfl⟩
        have hz := HP.out.mul HP.out
        have h2 := HO.out
        rw [HE.out, show 8 * (M / 2) + 8 * (M / 2) = 8 * ((M : Int).toNat) by omega] at hz
        exact hz

end Go.Proofs.Ytfhoekcmkbeabaa
