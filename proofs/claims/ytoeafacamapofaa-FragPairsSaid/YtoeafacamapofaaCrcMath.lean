
/-
  The sum's register: a linear map; what is turned within 32 bits is told.
-/
import GoSem.Core.Value
namespace Go.Proofs.Ytoeafacamapofaa
set_option linter.unusedVariables false

/-- one step of the sum's register -/
def crcStep (r : BitVec 32) : BitVec 32 := if r.getLsbD 0 then (r >>> 1) ^^^ 2197175160#32 else r >>> 1
def crcSteps : Nat → BitVec 32 → BitVec 32
  | 0, r => r
  | n + 1, r => crcStep (crcSteps n r)
/-- eight steps of the lowest byte -/
def crcEight (b : BitVec 8) : BitVec 32 := crcSteps 8 (b.setWidth 32)

/-- a byte more -/
def crcByte (r : BitVec 32) (b : BitVec 8) : BitVec 32 := (r >>> 8) ^^^ crcEight (r.setWidth 8 ^^^ b)
def crcMoreB (crc : BitVec 32) (xs : List (BitVec 8)) : BitVec 32 := ~~~ (xs.foldl crcByte (~~~ crc))
def crcB (xs : List (BitVec 8)) : BitVec 32 := crcMoreB 0 xs


theorem crcStep_xor (r s : BitVec 32) : crcStep (r ^^^ s) = crcStep r ^^^ crcStep s := by
  unfold crcStep
  rw [BitVec.getLsbD_xor, BitVec.ushiftRight_xor_distrib]
  cases r.getLsbD 0 <;> cases s.getLsbD 0 <;> simp
  · ac_rfl
  · ac_rfl
  · have e : (r >>> 1 ^^^ 2197175160#32) ^^^ (s >>> 1 ^^^ 2197175160#32) = (r >>> 1 ^^^ s >>> 1) ^^^ (2197175160#32 ^^^ 2197175160#32) := by ac_rfl
    rw [e, BitVec.xor_self, BitVec.xor_zero]
theorem crcStep_zero : crcStep 0#32 = 0#32 := by decide
theorem crcSteps_xor (n : Nat) (r s : BitVec 32) : crcSteps n (r ^^^ s) = crcSteps n r ^^^ crcSteps n s := by
  induction n with
  | zero => rfl
  | succ n ih => simp only [crcSteps]; rw [ih, crcStep_xor]
theorem crcSteps_zero (n : Nat) : crcSteps n 0#32 = 0#32 := by
  induction n with
  | zero => rfl
  | succ n ih => simp only [crcSteps]; rw [ih, crcStep_zero]
theorem crcSteps_add (m n : Nat) (r : BitVec 32) : crcSteps (m + n) r = crcSteps n (crcSteps m r) := by
  induction n with
  | zero => rfl
  | succ n ih => rw [← Nat.add_assoc]; simp only [crcSteps]; rw [ih]
theorem crcSteps_succ' (n : Nat) (r : BitVec 32) : crcSteps (n + 1) r = crcSteps n (crcStep r) := by
  rw [Nat.add_comm, crcSteps_add]; rfl
/-- the step loses nothing -/
theorem crcStep_eq_zero (r : BitVec 32) (h : crcStep r = 0#32) : r = 0#32 := by
  have h31 := congrArg (fun x => x.getLsbD 31) h
  unfold crcStep at h h31
  cases h0 : r.getLsbD 0
  · rw [h0] at h
    simp only [Bool.false_eq_true, if_false] at h
    apply BitVec.eq_of_getLsbD_eq
    intro i hi
    cases i with
    | zero => rw [h0]; rfl
    | succ i =>
      have := congrArg (fun x => x.getLsbD i) h
      simp only [BitVec.getLsbD_ushiftRight] at this
      rw [Nat.add_comm] at this
      simpa using this
  · exfalso
    rw [h0] at h31
    simp only [if_true, BitVec.getLsbD_xor, BitVec.getLsbD_ushiftRight] at h31
    rw [BitVec.getLsbD_of_ge r (1 + 31) (by omega)] at h31
    revert h31
    decide
theorem crcSteps_eq_zero (n : Nat) (r : BitVec 32) (h : crcSteps n r = 0#32) : r = 0#32 := by
  induction n with
  | zero => exact h
  | succ n ih => exact ih (crcStep_eq_zero _ h)

/-- a matrix at work: its first k columns -/
def matTo (ms : List (BitVec 32)) (r : BitVec 32) : Nat → BitVec 32
  | 0 => 0#32
  | k + 1 => if r.getLsbD k then matTo ms r k ^^^ ms.getD k 0#32 else matTo ms r k
theorem matTo_end (ms : List (BitVec 32)) (r : BitVec 32) (k : Nat) (h : r >>> k = 0#32) : ∀ n, k ≤ n → matTo ms r n = matTo ms r k := by
  intro n hn
  induction n with
  | zero => rw [show k = 0 by omega]
  | succ n ih =>
    by_cases he : k = n + 1
    · rw [he]
    · have hb : r.getLsbD n = false := by
        have := congrArg (fun x => x.getLsbD (n - k)) h
        simp only [BitVec.getLsbD_ushiftRight] at this
        rw [show k + (n - k) = n by omega] at this
        simpa using this
      simp only [matTo]
      rw [hb]
      exact ih (by omega)
/-- the matrix of a map -/
def MatOf (ms : List (BitVec 32)) (f : BitVec 32 → BitVec 32) : Prop := ms.length = 32 ∧ ∀ i, i < 32 → ms.getD i 0#32 = f (1#32 <<< i)
theorem matTo_steps (ms : List (BitVec 32)) (n : Nat) (h : MatOf ms (crcSteps n)) (r : BitVec 32) : ∀ k, k ≤ 32 → matTo ms r k = crcSteps n (r &&& (BitVec.allOnes 32 >>> (32 - k))) := by
  intro k hk
  induction k with
  | zero =>
    have : r &&& (BitVec.allOnes 32 >>> (32 - 0)) = 0#32 := by
      rw [show (BitVec.allOnes 32 >>> (32 - 0) : BitVec 32) = 0#32 by decide]
      simp
    rw [this, crcSteps_zero]; rfl
  | succ k ih =>
    have hbit : r &&& (BitVec.allOnes 32 >>> (32 - (k + 1))) = (r &&& (BitVec.allOnes 32 >>> (32 - k))) ^^^ (if r.getLsbD k then 1#32 <<< k else 0#32) := by
      apply BitVec.eq_of_getLsbD_eq
      intro i hi
      have e1 : (BitVec.allOnes 32 >>> (32 - (k + 1)) : BitVec 32).getLsbD i = decide (i < k + 1) := by
        rw [BitVec.getLsbD_ushiftRight, BitVec.getLsbD_allOnes]
        apply decide_eq_decide.2; omega
      have e2 : (BitVec.allOnes 32 >>> (32 - k) : BitVec 32).getLsbD i = decide (i < k) := by
        rw [BitVec.getLsbD_ushiftRight, BitVec.getLsbD_allOnes]
        apply decide_eq_decide.2; omega
      rw [BitVec.getLsbD_and, BitVec.getLsbD_xor, BitVec.getLsbD_and, e1, e2]
      by_cases hik : i = k
      · subst hik
        cases hr : r.getLsbD i
        · simp
        · simp [hi]
      · have e3 : (if r.getLsbD k = true then 1#32 <<< k else 0#32).getLsbD i = false := by
          split
          · rw [BitVec.getLsbD_shiftLeft]
            by_cases h1 : i < k
            · simp [h1]
            · simp [BitVec.getLsbD_one, show ¬ i - k = 0 by omega]
          · simp
        rw [e3, show decide (i < k + 1) = decide (i < k) from decide_eq_decide.2 (by omega)]
        simp
    rw [hbit, crcSteps_xor]
    simp only [matTo]
    rw [ih (by omega), h.2 k (by omega)]
    split
    · rfl
    · rw [crcSteps_zero, BitVec.xor_zero]
theorem mat_all (ms : List (BitVec 32)) (n : Nat) (h : MatOf ms (crcSteps n)) (r : BitVec 32) : matTo ms r 32 = crcSteps n r := by
  rw [matTo_steps ms n h r 32 (Nat.le_refl _)]
  congr 1
  rw [show (BitVec.allOnes 32 >>> (32 - 32) : BitVec 32) = BitVec.allOnes 32 by decide, BitVec.and_allOnes]

/-- bit by bit -/
def bitW (b : Bool) : BitVec 32 := if b then 1#32 else 0#32
def bitRun (r : BitVec 32) (l : List Bool) : BitVec 32 := l.foldl (fun r b => crcStep (r ^^^ bitW b)) r
/-- the number of a list of bits, the lowest first -/
def bitVal : List Bool → BitVec 32
  | [] => 0#32
  | b :: bs => (bitVal bs <<< 1) ^^^ bitW b
theorem bitVal_bit : ∀ (l : List Bool) (i : Nat), i < 32 → (bitVal l).getLsbD i = (l[i]?).getD false
  | [], i, hi => by simp [bitVal]
  | b :: bs, i, hi => by
    simp only [bitVal, BitVec.getLsbD_xor, BitVec.getLsbD_shiftLeft]
    cases i with
    | zero => cases b <;> simp [bitW]
    | succ i =>
      have h1 : (bitW b).getLsbD (i + 1) = false := by cases b <;> simp [bitW]
      rw [h1]
      simp [hi, bitVal_bit bs i (by omega)]
theorem crcStep_shl (v : BitVec 32) (h : v.getLsbD 31 = false) : crcStep (v <<< 1) = v := by
  unfold crcStep
  have h0 : (v <<< 1).getLsbD 0 = false := by simp
  rw [h0]
  simp only [Bool.false_eq_true, if_false]
  apply BitVec.eq_of_getLsbD_eq
  intro i hi
  simp only [BitVec.getLsbD_ushiftRight, BitVec.getLsbD_shiftLeft]
  by_cases h31 : i = 31
  · subst h31; simpa using h
  · have : 1 + i < 32 := by omega
    simp [this]
theorem bitRun_val : ∀ (l : List Bool) (r : BitVec 32), l.length ≤ 32 → bitRun r l = crcSteps l.length (r ^^^ bitVal l)
  | [], r, _ => by simp [bitRun, bitVal, crcSteps]
  | b :: bs, r, h => by
    have hb : bs.length ≤ 31 := by simpa using h
    have e : bitRun r (b :: bs) = bitRun (crcStep (r ^^^ bitW b)) bs := rfl
    rw [e, bitRun_val bs _ (by omega), List.length_cons, crcSteps_succ']
    congr 1
    simp only [bitVal]
    rw [BitVec.xor_comm (bitVal bs <<< 1), ← BitVec.xor_assoc, crcStep_xor (r ^^^ bitW b)]
    congr 1
    refine (crcStep_shl _ ?_).symm
    rw [bitVal_bit _ _ (by omega), List.getElem?_eq_none (by omega)]
    rfl
theorem bitRun_app (r : BitVec 32) (a b : List Bool) : bitRun r (a ++ b) = bitRun (bitRun r a) b := by simp [bitRun]
theorem bitRun_false (n : Nat) (r : BitVec 32) : bitRun r (List.replicate n false) = crcSteps n r := by
  induction n generalizing r with
  | zero => rfl
  | succ n ih =>
    rw [List.replicate_succ, crcSteps_succ']
    show bitRun (crcStep (r ^^^ bitW false)) _ = _
    rw [ih]
    simp [bitW]
theorem bitRun_zip : ∀ (p q : List Bool) (r s : BitVec 32), p.length = q.length → bitRun r p ^^^ bitRun s q = bitRun (r ^^^ s) (List.zipWith (fun a b => a != b) p q)
  | [], [], r, s, _ => rfl
  | a :: p, b :: q, r, s, h => by
    show bitRun (crcStep (r ^^^ bitW a)) p ^^^ bitRun (crcStep (s ^^^ bitW b)) q = bitRun (crcStep ((r ^^^ s) ^^^ bitW (a != b))) (List.zipWith (fun a b => a != b) p q)
    rw [bitRun_zip p q _ _ (by simpa using h), ← crcStep_xor]
    congr 2
    have : bitW (a != b) = bitW a ^^^ bitW b := by cases a <;> cases b <;> decide
    rw [this, BitVec.xor_assoc, BitVec.xor_assoc, ← BitVec.xor_assoc (bitW a), BitVec.xor_comm (bitW a) s, BitVec.xor_assoc s]
/-- a byte's bits, the lowest first -/
def byteBits (b : BitVec 8) : List Bool := (List.range 8).map fun i => b.getLsbD i
def bitsOf (xs : List (BitVec 8)) : List Bool := xs.flatMap byteBits
theorem byteBits_len (b : BitVec 8) : (byteBits b).length = 8 := rfl
theorem bitsOf_len (xs : List (BitVec 8)) : (bitsOf xs).length = 8 * xs.length := by
  induction xs with
  | nil => rfl
  | cons b bs ih => simp only [bitsOf, List.flatMap_cons, List.length_append, byteBits_len, List.length_cons] at ih ⊢; rw [ih]; omega
theorem bitVal_byte (b : BitVec 8) : bitVal (byteBits b) = b.setWidth 32 := by
  apply BitVec.eq_of_getLsbD_eq
  intro i hi
  rw [bitVal_bit _ _ hi, BitVec.getLsbD_setWidth]
  by_cases h : i < 8
  · simp [byteBits, h, hi]
  · rw [List.getElem?_eq_none (by rw [byteBits_len]; omega), BitVec.getLsbD_of_ge b i (by omega)]
    simp
theorem crcByte_steps (r : BitVec 32) (b : BitVec 8) : crcByte r b = crcSteps 8 (r ^^^ b.setWidth 32) := by
  have e : r ^^^ b.setWidth 32 = ((r >>> 8) <<< 8) ^^^ ((r.setWidth 8 ^^^ b).setWidth 32) := by
    apply BitVec.eq_of_getLsbD_eq
    intro i hi
    simp only [BitVec.getLsbD_xor, BitVec.getLsbD_setWidth, BitVec.getLsbD_shiftLeft, BitVec.getLsbD_ushiftRight]
    by_cases h : i < 8
    · simp [h, hi]
    · rw [BitVec.getLsbD_of_ge b i (by omega)]
      simp [h, hi, show 8 + (i - 8) = i by omega]
  rw [e, crcSteps_xor]
  unfold crcByte crcEight
  congr 1
  have step : ∀ v : BitVec 32, v.getLsbD 31 = false → crcStep (v <<< 1) = v := crcStep_shl
  have e8 : (r >>> 8) <<< 8 = ((((((((r >>> 8) <<< 1) <<< 1) <<< 1) <<< 1) <<< 1) <<< 1) <<< 1) <<< 1 := by
    simp only [← BitVec.shiftLeft_add]
  rw [e8]
  simp only [crcSteps]
  have top : ∀ k, k < 8 → ((r >>> 8) <<< k).getLsbD 31 = false := by
    intro k hk
    simp only [BitVec.getLsbD_shiftLeft, BitVec.getLsbD_ushiftRight]
    rw [BitVec.getLsbD_of_ge r _ (by omega)]
    simp
  have t0 : (r >>> 8).getLsbD 31 = false := by have h := top 0 (by omega); rwa [BitVec.shiftLeft_zero] at h
  have t1 := top 1 (by omega)
  have t2 : (((r >>> 8) <<< 1) <<< 1).getLsbD 31 = false := by rw [← BitVec.shiftLeft_add]; exact top 2 (by omega)
  have t3 : ((((r >>> 8) <<< 1) <<< 1) <<< 1).getLsbD 31 = false := by rw [← BitVec.shiftLeft_add, ← BitVec.shiftLeft_add]; exact top 3 (by omega)
  have t4 : (((((r >>> 8) <<< 1) <<< 1) <<< 1) <<< 1).getLsbD 31 = false := by simp only [← BitVec.shiftLeft_add]; exact top 4 (by omega)
  have t5 : ((((((r >>> 8) <<< 1) <<< 1) <<< 1) <<< 1) <<< 1).getLsbD 31 = false := by simp only [← BitVec.shiftLeft_add]; exact top 5 (by omega)
  have t6 : (((((((r >>> 8) <<< 1) <<< 1) <<< 1) <<< 1) <<< 1) <<< 1).getLsbD 31 = false := by simp only [← BitVec.shiftLeft_add]; exact top 6 (by omega)
  have t7 : ((((((((r >>> 8) <<< 1) <<< 1) <<< 1) <<< 1) <<< 1) <<< 1) <<< 1).getLsbD 31 = false := by simp only [← BitVec.shiftLeft_add]; exact top 7 (by omega)
  rw [step _ t7, step _ t6, step _ t5, step _ t4, step _ t3, step _ t2, step _ t1, step _ t0]
theorem crcByte_bits (r : BitVec 32) (b : BitVec 8) : crcByte r b = bitRun r (byteBits b) := by
  rw [bitRun_val _ _ (by rw [byteBits_len]; omega), byteBits_len, bitVal_byte, crcByte_steps]
theorem crc_bits (xs : List (BitVec 8)) : ∀ r : BitVec 32, xs.foldl crcByte r = bitRun r (bitsOf xs) := by
  induction xs with
  | nil => intro r; rfl
  | cons b bs ih =>
    intro r
    rw [List.foldl_cons, ih, crcByte_bits]
    show _ = bitRun r (byteBits b ++ bitsOf bs)
    rw [bitRun_app]


/-- the bit at p -/
def bitAt (xs : List (BitVec 8)) (p : Nat) : Bool := (xs.getD (p / 8) 0#8).getLsbD (p % 8)
theorem bitsOf_eq (xs : List (BitVec 8)) : bitsOf xs = (List.range (8 * xs.length)).map (bitAt xs) := by
  induction xs with
  | nil => rfl
  | cons b bs ih =>
    have e : bitsOf (b :: bs) = byteBits b ++ bitsOf bs := rfl
    rw [e, ih, List.length_cons, Nat.mul_succ, Nat.add_comm, List.range_add, List.map_append, List.map_map]
    congr 1
    apply List.map_congr_left
    intro i hi
    show bitAt bs i = bitAt (b :: bs) (8 + i)
    unfold bitAt
    rw [show (8 + i) / 8 = i / 8 + 1 by omega, show (8 + i) % 8 = i % 8 by omega]
    rfl
theorem bits_inj {xs ys : List (BitVec 8)} (hl : xs.length = ys.length) (h : ∀ p, p < 8 * xs.length → bitAt xs p = bitAt ys p) : xs = ys := by
  apply List.ext_getElem hl
  intro j h1 h2
  apply BitVec.eq_of_getLsbD_eq
  intro i hi
  have := h (8 * j + i) (by omega)
  unfold bitAt at this
  rw [show (8 * j + i) / 8 = j by omega, show (8 * j + i) % 8 = i by omega, List.getD_eq_getElem?_getD, List.getD_eq_getElem?_getD, List.getElem?_eq_getElem h1, List.getElem?_eq_getElem h2] at this
  exact this
theorem all_false (l : List Bool) (h : ∀ (i : Nat) (b : Bool), l[i]? = some b → b = false) : l = List.replicate l.length false := by
  apply List.ext_getElem?
  intro i
  by_cases hi : i < l.length
  · rw [List.getElem?_eq_getElem hi]
    have := h i _ (List.getElem?_eq_getElem hi)
    rw [this]
    simp [hi]
  · simp [hi]
theorem bitVal_zero {l : List Bool} (hl : l.length ≤ 32) (h : bitVal l = 0#32) : ∀ (i : Nat) (b : Bool), l[i]? = some b → b = false := by
  intro i b hb
  have hi : i < l.length := (List.getElem?_eq_some_iff.1 hb).1
  have := bitVal_bit l i (by omega)
  rw [h, hb] at this
  simpa using this.symm

/-- of two texts of one length that part within 32 bits alone: their sums are alike where they are -/
theorem burst {xs ys : List (BitVec 8)} (r : BitVec 32) (hl : xs.length = ys.length) (at_ : Nat) (h : ∀ p, p < 8 * xs.length → bitAt xs p ≠ bitAt ys p → at_ ≤ p ∧ p < at_ + 32) :
    xs.foldl crcByte r = ys.foldl crcByte r → xs = ys := by
  intro he
  rw [crc_bits, crc_bits] at he
  have hz := bitRun_zip (bitsOf xs) (bitsOf ys) r r (by rw [bitsOf_len, bitsOf_len, hl])
  rw [he, BitVec.xor_self, BitVec.xor_self] at hz
  generalize hD : List.zipWith (fun a b => a != b) (bitsOf xs) (bitsOf ys) = D at hz
  have hDl : D.length = 8 * xs.length := by rw [← hD, List.length_zipWith, bitsOf_len, bitsOf_len, hl]; omega
  have hDp : ∀ (p : Nat) (b : Bool), D[p]? = some b → b = (bitAt xs p != bitAt ys p) := by
    intro p b hb
    have hp : p < 8 * xs.length := by rw [← hDl]; exact (List.getElem?_eq_some_iff.1 hb).1
    rw [← hD, bitsOf_eq, bitsOf_eq, List.getElem?_zipWith] at hb
    simp only [List.getElem?_map] at hb
    rw [List.getElem?_range hp, List.getElem?_range (by rw [← hl]; exact hp)] at hb
    simpa using hb.symm
  have hout : ∀ (p : Nat) (b : Bool), D[p]? = some b → ¬ (at_ ≤ p ∧ p < at_ + 32) → b = false := by
    intro p b hb hn
    have hp : p < 8 * xs.length := by rw [← hDl]; exact (List.getElem?_eq_some_iff.1 hb).1
    rw [hDp p b hb]
    by_cases hq : bitAt xs p = bitAt ys p
    · simp [hq]
    · exact absurd (h p hp hq) hn
  have hsplit : D = D.take at_ ++ ((D.drop at_).take 32 ++ (D.drop at_).drop 32) := by rw [List.take_append_drop, List.take_append_drop]
  have h1 := all_false (D.take at_) (fun i b hb => by
    rw [List.getElem?_take] at hb
    split at hb
    · exact hout i b hb (by omega)
    · cases hb)
  have h3 := all_false ((D.drop at_).drop 32) (fun i b hb => by
    rw [List.getElem?_drop, List.getElem?_drop] at hb
    exact hout _ b hb (by omega))
  have hwl : ((D.drop at_).take 32).length ≤ 32 := List.length_take_le _ _
  rw [hsplit, bitRun_app, bitRun_app, h1, bitRun_false, h3, bitRun_false, crcSteps_zero, bitRun_val _ _ hwl] at hz
  have hw := crcSteps_eq_zero _ _ (crcSteps_eq_zero _ _ hz.symm)
  rw [BitVec.zero_xor] at hw
  have h2 := bitVal_zero hwl hw
  apply bits_inj hl
  intro p hp
  have hpD : p < D.length := by omega
  have hb : D[p]? = some D[p] := List.getElem?_eq_getElem hpD
  have hf : D[p] = false := by
    by_cases hin : at_ ≤ p ∧ p < at_ + 32
    · refine h2 (p - at_) _ ?_
      rw [List.getElem?_take, if_pos (by omega), List.getElem?_drop, show at_ + (p - at_) = p by omega]
      exact hb
    · exact hout p _ hb hin
  have := hDp p _ hb
  rw [hf] at this
  simpa using this.symm

/-- the first n of the named bits turned -/
def turnTo (at_ : Nat) (mask : BitVec 32) : Nat → List (BitVec 8) → List (BitVec 8)
  | 0, xs => xs
  | i + 1, xs =>
    let ys := turnTo at_ mask i xs
    if mask.getLsbD i = true ∧ (at_ + i) / 8 < ys.length then ys.set ((at_ + i) / 8) (ys.getD ((at_ + i) / 8) 0 ^^^ (1#8 <<< ((at_ + i) % 8))) else ys
theorem turnTo_len (at_ : Nat) (mask : BitVec 32) (n : Nat) (xs : List (BitVec 8)) : (turnTo at_ mask n xs).length = xs.length := by
  induction n with
  | zero => rfl
  | succ i ih => simp only [turnTo]; split <;> simp [ih]
theorem turnTo_bit (at_ : Nat) (mask : BitVec 32) (n : Nat) (xs : List (BitVec 8)) (p : Nat) (h : ¬ (at_ ≤ p ∧ p < at_ + n)) : bitAt (turnTo at_ mask n xs) p = bitAt xs p := by
  induction n with
  | zero => rfl
  | succ i ih =>
    have ih := ih (by omega)
    simp only [turnTo]
    split
    · rename_i hc
      rw [← ih]
      unfold bitAt
      by_cases hj : (at_ + i) / 8 = p / 8
      · have hm : (at_ + i) % 8 ≠ p % 8 := by omega
        rw [← hj, List.getD_eq_getElem?_getD, List.getElem?_set_self hc.2, Option.getD_some, BitVec.getLsbD_xor]
        have : (1#8 <<< ((at_ + i) % 8)).getLsbD (p % 8) = false := by
          have h1 : (at_ + i) % 8 < 8 := Nat.mod_lt _ (by omega)
          have h2 : p % 8 < 8 := Nat.mod_lt _ (by omega)
          simp only [BitVec.getLsbD_shiftLeft, BitVec.getLsbD_one]
          by_cases h3 : p % 8 < (at_ + i) % 8
          · simp [h3]
          · have : ¬ p % 8 - (at_ + i) % 8 = 0 := by omega
            simp [this]
        rw [this]
        simp
      · rw [List.getD_eq_getElem?_getD, List.getElem?_set_ne hj, ← List.getD_eq_getElem?_getD]
    · exact ih
theorem turn_told (at_ : Nat) (mask : BitVec 32) (xs : List (BitVec 8)) : xs = turnTo at_ mask 32 xs ↔ crcB xs = crcB (turnTo at_ mask 32 xs) := by
  constructor
  · intro h; rw [← h]
  · intro h
    refine burst (~~~ 0#32) (turnTo_len at_ mask 32 xs).symm at_ (fun p _ hne => ?_) ?_
    · exact Classical.not_not.1 (fun hn => hne (turnTo_bit at_ mask 32 xs p hn).symm)
    · unfold crcB crcMoreB at h
      exact BitVec.not_inj.1 h
theorem crc_check : crcB [49#8, 50#8, 51#8, 52#8, 53#8, 54#8, 55#8, 56#8, 57#8] = 3808858755#32 := by decide +kernel

end Go.Proofs.Ytoeafacamapofaa
