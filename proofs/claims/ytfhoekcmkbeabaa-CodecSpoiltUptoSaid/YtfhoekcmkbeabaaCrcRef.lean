
/-
  The reference's sums by long division: what they come to, in the register's own words.
-/
import Derived.Test.YtfhoekcmkbeabaaCrcMath
namespace Go.Proofs.Ytfhoekcmkbeabaa
set_option linter.unusedVariables false
set_option linter.unusedSimpArgs false

/-- the remainder of p times x plus the bit -/
def stepP (p : BitVec 32) (b : Bool) : BitVec 32 := (if p.getLsbD 31 then (p <<< 1) ^^^ 517762881#32 else p <<< 1) ^^^ bitW b
def topW (b : Bool) : BitVec 32 := if b then 2147483648#32 else 0#32
theorem rev_bit (p : BitVec 32) (i : Nat) (hi : i < 32) : p.reverse.getLsbD i = p.getLsbD (31 - i) := by
  rw [BitVec.getLsbD_reverse, BitVec.getMsbD]
  simp [hi]
theorem rev_rev (p : BitVec 32) : p.reverse.reverse = p := by
  apply BitVec.eq_of_getLsbD_eq
  intro i hi
  rw [rev_bit _ _ hi, rev_bit _ _ (by omega)]
  congr 1; omega
theorem poly_rev : ∀ i : Fin 32, (517762881#32).getLsbD (31 - i.val) = (2197175160#32).getLsbD i.val := by decide
theorem topW_bit (b : Bool) (i : Nat) (hi : i < 32) : (topW b).getLsbD i = (b && decide (i = 31)) := by
  have h : ∀ j : Fin 32, (2147483648#32).getLsbD j.val = decide (j.val = 31) := by decide
  cases b
  · simp [topW]
  · simp only [topW, if_true, Bool.true_and]
    exact h ⟨i, hi⟩
theorem bitW_bit (b : Bool) (i : Nat) : (bitW b).getLsbD i = (b && decide (i = 0)) := by
  cases b
  · simp [bitW]
  · simp [bitW, BitVec.getLsbD_one]
theorem stepP_rev (p : BitVec 32) (b : Bool) : (stepP p b).reverse = crcStep p.reverse ^^^ topW b := by
  apply BitVec.eq_of_getLsbD_eq
  intro i hi
  rw [rev_bit _ _ hi, BitVec.getLsbD_xor, topW_bit b i hi]
  unfold stepP crcStep
  rw [BitVec.getLsbD_xor, bitW_bit, rev_bit p 0 (by omega)]
  have hb : decide (31 - i = 0) = decide (i = 31) := decide_eq_decide.2 (by omega)
  rw [hb]
  congr 1
  have hsh : (p <<< 1).getLsbD (31 - i) = (p.reverse >>> 1).getLsbD i := by
    rw [BitVec.getLsbD_shiftLeft, BitVec.getLsbD_ushiftRight]
    by_cases h31 : i = 31
    · subst h31
      rw [BitVec.getLsbD_of_ge p.reverse (1 + 31) (by omega)]
      simp
    · rw [rev_bit p (1 + i) (by omega)]
      simp [show 31 - i < 32 by omega, show ¬ 31 - i < 1 by omega, show 31 - (1 + i) = 31 - i - 1 by omega]
  cases hp : p.getLsbD 31
  · simp only [hp, Bool.false_eq_true, if_false, Nat.sub_zero]
    exact hsh
  · simp only [hp, if_true, Nat.sub_zero]
    rw [BitVec.getLsbD_xor, BitVec.getLsbD_xor, hsh]
    congr 1
    exact poly_rev ⟨i, hi⟩

/-- Horner's scheme, in the register's words -/
def opN (p v : BitVec 32) : Nat → BitVec 32
  | 0 => 0#32
  | n + 1 => if p.getLsbD (31 - n) then crcStep (opN p v n) ^^^ v else crcStep (opN p v n)
/-- and in the remainder's -/
def timesN (a b : BitVec 32) : Nat → BitVec 32
  | 0 => 0#32
  | n + 1 => if b.getLsbD (31 - n) then stepP (timesN a b n) false ^^^ a else stepP (timesN a b n) false
theorem rev_xor (a b : BitVec 32) : (a ^^^ b).reverse = a.reverse ^^^ b.reverse := by
  apply BitVec.eq_of_getLsbD_eq
  intro i hi
  rw [rev_bit _ _ hi, BitVec.getLsbD_xor, BitVec.getLsbD_xor, rev_bit _ _ hi, rev_bit _ _ hi]
theorem timesN_rev (a b : BitVec 32) (n : Nat) : (timesN a b n).reverse = opN b a.reverse n := by
  induction n with
  | zero => show (0#32).reverse = 0#32; decide +kernel
  | succ n ih =>
    have h0 : (stepP (timesN a b n) false).reverse = crcStep (opN b a.reverse n) := by
      rw [stepP_rev, ih]; simp [topW]
    simp only [timesN, opN]
    split
    · rw [rev_xor, h0]
    · exact h0
theorem opN_xor (p u v : BitVec 32) (n : Nat) : opN p (u ^^^ v) n = opN p u n ^^^ opN p v n := by
  induction n with
  | zero => simp [opN]
  | succ n ih =>
    simp only [opN]
    rw [ih, crcStep_xor]
    split
    · ac_rfl
    · rfl
theorem opN_step (p v : BitVec 32) (n : Nat) : opN p (crcStep v) n = crcStep (opN p v n) := by
  induction n with
  | zero => show 0#32 = crcStep 0#32; decide
  | succ n ih =>
    simp only [opN]
    rw [ih]
    split
    · rw [crcStep_xor]
    · rfl
/-- 1, as a remainder -/
def eW : BitVec 32 := 2147483648#32
theorem eW_bit (i : Nat) (hi : i < 32) : eW.getLsbD i = decide (i = 31) := by
  have := topW_bit true i hi
  rw [Bool.true_and] at this
  exact this
theorem opN_e (p : BitVec 32) (n : Nat) (hn : n ≤ 32) : opN p eW n = (p >>> (32 - n)).reverse := by
  induction n with
  | zero =>
    apply BitVec.eq_of_getLsbD_eq
    intro i hi
    rw [rev_bit _ _ hi, BitVec.getLsbD_ushiftRight, BitVec.getLsbD_of_ge p _ (by omega)]
    simp [opN]
  | succ n ih =>
    have h0 : crcStep (opN p eW n) = (p >>> (32 - n)).reverse >>> 1 := by
      rw [ih (by omega)]
      unfold crcStep
      rw [rev_bit _ 0 (by omega), BitVec.getLsbD_ushiftRight, BitVec.getLsbD_of_ge p _ (by omega)]
      simp
    have h1 : opN p eW (n + 1) = ((p >>> (32 - n)).reverse >>> 1) ^^^ topW (p.getLsbD (31 - n)) := by
      simp only [opN]
      rw [h0]
      cases p.getLsbD (31 - n)
      · simp [topW]
      · rfl
    rw [h1]
    apply BitVec.eq_of_getLsbD_eq
    intro i hi
    rw [BitVec.getLsbD_xor, topW_bit _ _ hi, BitVec.getLsbD_ushiftRight, rev_bit _ i hi, BitVec.getLsbD_ushiftRight]
    by_cases h31 : i = 31
    · subst h31
      rw [BitVec.getLsbD_of_ge _ (1 + 31) (by omega)]
      simp [show 32 - (n + 1) = 31 - n by omega]
    · rw [rev_bit _ (1 + i) (by omega), BitVec.getLsbD_ushiftRight]
      simp [h31, show 32 - n + (31 - (1 + i)) = 32 - (n + 1) + (31 - i) by omega]
def opP (p v : BitVec 32) : BitVec 32 := opN p v 32
theorem opP_e (p : BitVec 32) : opP p eW = p.reverse := by
  unfold opP
  rw [opN_e p 32 (by omega)]
  simp
/-- a map that goes along with the step -/
structure Lin (f : BitVec 32 → BitVec 32) : Prop where
  add : ∀ u v, f (u ^^^ v) = f u ^^^ f v
  step : ∀ v, f (crcStep v) = crcStep (f v)
theorem Lin.zero {f : BitVec 32 → BitVec 32} (h : Lin f) : f 0#32 = 0#32 := by
  have := h.add 0#32 0#32
  rw [BitVec.xor_self] at this
  have h2 : f 0#32 ^^^ f 0#32 = 0#32 := BitVec.xor_self
  rw [← this] at h2
  exact h2
theorem Lin.opN {f : BitVec 32 → BitVec 32} (h : Lin f) (p v : BitVec 32) (n : Nat) : f (opN p v n) = opN p (f v) n := by
  induction n with
  | zero => exact h.zero
  | succ n ih =>
    simp only [Go.Proofs.Ytfhoekcmkbeabaa.opN]
    split
    · rw [h.add, h.step, ih]
    · rw [h.step, ih]
theorem Lin.op {f : BitVec 32 → BitVec 32} (h : Lin f) (v : BitVec 32) : f v = opP v.reverse (f eW) := by
  have e : v = opP v.reverse eW := by rw [opP_e, rev_rev]
  calc f v = f (opP v.reverse eW) := by rw [← e]
    _ = opP v.reverse (f eW) := h.opN _ _ _
theorem Lin.eq {f g : BitVec 32 → BitVec 32} (hf : Lin f) (hg : Lin g) (h : f eW = g eW) (v : BitVec 32) : f v = g v := by
  rw [hf.op v, hg.op v, h]
theorem opP_lin (p : BitVec 32) : Lin (opP p) := ⟨fun u v => opN_xor p u v 32, fun v => opN_step p v 32⟩
theorem steps_lin (n : Nat) : Lin (crcSteps n) := by
  refine ⟨crcSteps_xor n, fun v => ?_⟩
  rw [← crcSteps_succ']; rfl
theorem Lin.comp {f g : BitVec 32 → BitVec 32} (hf : Lin f) (hg : Lin g) : Lin (fun v => f (g v)) :=
  ⟨fun u v => by rw [hg.add, hf.add], fun v => by rw [hg.step, hf.step]⟩
theorem opP_times (a b v : BitVec 32) : opP (timesN a b 32) v = opP b (opP a v) := by
  refine Lin.eq (opP_lin _) ((opP_lin b).comp (opP_lin a)) ?_ v
  rw [opP_e, opP_e, timesN_rev]
  rfl
theorem opP_one (v : BitVec 32) : opP 1#32 v = v := by
  refine Lin.eq (opP_lin _) (f := opP 1#32) (g := fun v => v) ⟨fun _ _ => rfl, fun _ => rfl⟩ ?_ v
  rw [opP_e]; decide +kernel
theorem opP_256 (v : BitVec 32) : opP 256#32 v = crcSteps 8 v := by
  refine Lin.eq (opP_lin _) (steps_lin 8) ?_ v
  rw [opP_e]; decide +kernel
/-- what a power stands for -/
def IsPow (p : BitVec 32) (n : Nat) : Prop := ∀ v, opP p v = crcSteps n v
theorem IsPow.one : IsPow 1#32 0 := opP_one
theorem IsPow.mul {a b : BitVec 32} {m n : Nat} (ha : IsPow a m) (hb : IsPow b n) : IsPow (timesN a b 32) (m + n) := by
  intro v
  rw [opP_times, ha, hb, ← crcSteps_add]
theorem IsPow.byte : IsPow 256#32 8 := opP_256
theorem join_ref (a p : BitVec 32) (n : Nat) (h : IsPow p n) : (timesN a.reverse p 32).reverse = crcSteps n a := by
  rw [timesN_rev, rev_rev]
  exact h a


/-- the long division's run over a stream of bits -/
def divN (s : Nat → Bool) : Nat → BitVec 32
  | 0 => 0#32
  | n + 1 => stepP (divN s n) (s n)
def regN (s : Nat → Bool) : Nat → BitVec 32
  | 0 => 0#32
  | n + 1 => crcStep (regN s n) ^^^ topW (s n)
theorem divN_rev (s : Nat → Bool) (n : Nat) : (divN s n).reverse = regN s n := by
  induction n with
  | zero => show (0#32).reverse = 0#32; decide +kernel
  | succ n ih => simp only [divN, regN]; rw [stepP_rev, ih]
/-- the 32 bits from k on -/
def lookW (m : Nat → Bool) (k : Nat) : BitVec 32 := bitVal ((List.range 32).map fun i => m (k + i))
theorem lookW_bit (m : Nat → Bool) (k i : Nat) (hi : i < 32) : (lookW m k).getLsbD i = m (k + i) := by
  unfold lookW
  rw [bitVal_bit _ _ hi]
  simp [hi]
theorem regN_head (s : Nat → Bool) (n : Nat) (hn : n ≤ 32) (i : Nat) (hi : i < 32) : (regN s n).getLsbD i = (decide (32 - n ≤ i) && s (n + i - 32)) := by
  induction n generalizing i with
  | zero => simp [regN]; omega
  | succ n ih =>
    simp only [regN]
    have h0 : (regN s n).getLsbD 0 = false := by
      rw [ih (by omega) 0 (by omega)]
      have : ¬ 32 - n ≤ 0 := by omega
      simp [this]
    rw [BitVec.getLsbD_xor, topW_bit _ _ hi]
    unfold crcStep
    rw [h0]
    simp only [Bool.false_eq_true, if_false]
    rw [BitVec.getLsbD_ushiftRight]
    by_cases h31 : i = 31
    · subst h31
      rw [BitVec.getLsbD_of_ge _ (1 + 31) (by omega)]
      simp [show n + 1 + 31 - 32 = n by omega]
    · rw [ih (by omega) (1 + i) (by omega)]
      have e1 : decide (32 - n ≤ 1 + i) = decide (32 - (n + 1) ≤ i) := decide_eq_decide.2 (by omega)
      rw [e1, show n + (1 + i) - 32 = n + 1 + i - 32 by omega]
      simp [h31]
/-- the message's bits, zeros behind them, the first 32 turned by r's -/
theorem regN_look (r : BitVec 32) (m : Nat → Bool) (s : Nat → Bool) (hs : ∀ i, s i = (m i != (decide (i < 32) && r.getLsbD i))) (k : Nat) :
    regN s (32 + k) = bitRun r ((List.range k).map m) ^^^ lookW m k := by
  induction k with
  | zero =>
    apply BitVec.eq_of_getLsbD_eq
    intro i hi
    rw [regN_head s 32 (by omega) i hi, BitVec.getLsbD_xor, lookW_bit m 0 i hi]
    simp only [bitRun, List.range_zero, List.map_nil, List.foldl_nil]
    rw [show 32 + i - 32 = i by omega, hs i]
    simp only [hi, decide_true, Bool.true_and, Nat.zero_add, Nat.sub_self, Nat.zero_le]
    cases m i <;> cases r.getLsbD i <;> rfl
  | succ k ih =>
    rw [show 32 + (k + 1) = (32 + k) + 1 by omega]
    simp only [regN]
    rw [ih, List.range_succ, List.map_append, bitRun_app]
    generalize bitRun r ((List.range k).map m) = R
    show crcStep (R ^^^ lookW m k) ^^^ topW (s (32 + k)) = crcStep (R ^^^ bitW (m k)) ^^^ lookW m (k + 1)
    have hsk : s (32 + k) = m (32 + k) := by
      rw [hs]
      have : ¬ 32 + k < 32 := by omega
      simp
    have hl : lookW m k = bitW (m k) ^^^ ((lookW m (k + 1) &&& 2147483647#32) <<< 1) := by
      apply BitVec.eq_of_getLsbD_eq
      intro i hi
      rw [lookW_bit m k i hi, BitVec.getLsbD_xor, bitW_bit, BitVec.getLsbD_shiftLeft]
      cases i with
      | zero => simp
      | succ i =>
        have hm : ∀ j : Fin 31, (2147483647#32).getLsbD j.val = true := by decide
        rw [show i + 1 - 1 = i by omega, BitVec.getLsbD_and, lookW_bit m (k + 1) i (by omega), hm ⟨i, by omega⟩]
        simp [hi, show k + 1 + i = k + (i + 1) by omega]
    have hl2 : lookW m (k + 1) = (lookW m (k + 1) &&& 2147483647#32) ^^^ topW (m (32 + k)) := by
      apply BitVec.eq_of_getLsbD_eq
      intro i hi
      rw [BitVec.getLsbD_xor, BitVec.getLsbD_and, topW_bit _ _ hi, lookW_bit m (k + 1) i hi]
      by_cases h31 : i = 31
      · subst h31
        have h0 : (2147483647#32).getLsbD 31 = false := by decide
        rw [h0, show k + 1 + 31 = 32 + k by omega]
        simp
      · have hm : ∀ j : Fin 31, (2147483647#32).getLsbD j.val = true := by decide
        rw [hm ⟨i, by omega⟩]
        simp [h31]
    rw [hsk, hl]
    generalize hv : lookW m (k + 1) &&& 2147483647#32 = v at *
    rw [hl2, ← BitVec.xor_assoc R, crcStep_xor (R ^^^ bitW (m k)), crcStep_shl v ?_, BitVec.xor_assoc]
    rw [← hv, BitVec.getLsbD_and]
    have h0 : (2147483647#32).getLsbD 31 = false := by decide
    rw [h0]
    simp
/-- the reference's register is the program's -/
theorem register_ref (r : BitVec 32) (xs : List (BitVec 8)) (s : Nat → Bool)
    (hs : ∀ i, s i = ((decide (i < 8 * xs.length) && bitAt xs i) != (decide (i < 32) && r.getLsbD i))) :
    (divN s (8 * xs.length + 32)).reverse = xs.foldl crcByte r := by
  rw [divN_rev, Nat.add_comm, regN_look r (fun i => decide (i < 8 * xs.length) && bitAt xs i) s hs, crc_bits, bitsOf_eq]
  have h1 : (List.range (8 * xs.length)).map (fun i => decide (i < 8 * xs.length) && bitAt xs i) = (List.range (8 * xs.length)).map (bitAt xs) := by
    apply List.map_congr_left
    intro i hi
    have hi : i < 8 * xs.length := by simpa using hi
    simp [hi]
  have h2 : lookW (fun i => decide (i < 8 * xs.length) && bitAt xs i) (8 * xs.length) = 0#32 := by
    apply BitVec.eq_of_getLsbD_eq
    intro i hi
    rw [lookW_bit _ _ i hi]
    have : ¬ 8 * xs.length + i < 8 * xs.length := by omega
    simp [this]
  rw [h1, h2, BitVec.xor_zero]

end Go.Proofs.Ytfhoekcmkbeabaa
