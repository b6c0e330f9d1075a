
/-
  Plain laws: a fragment's datagram in which one byte is another is refused; what Slots tells of one slot.
-/
import Derived.Test.YtoeafacamapofaaJnOne
import Derived.Test.YtoeafacamapofaaJnSlots
namespace Go.Proofs.Ytoeafacamapofaa
open Go.RowKit
set_option linter.unusedVariables false
set_option linter.unusedSimpArgs false

theorem numB_inj4 {xs ys : List B8} (hx : xs.length = 4) (hy : ys.length = 4) (h : numB xs = numB ys) : xs = ys := by
  have key : ∀ a b c d : B8, (numB [a, b, c, d]).toNat = ((a.toNat * 256 + b.toNat) * 256 + c.toNat) * 256 + d.toNat := by
    intro a b c d
    have ha := a.isLt
    have hb := b.isLt
    have hc := c.isLt
    have hd := d.isLt
    rw [show numB [a, b, c, d] = numStep (numStep (numB [a, b]) c) d from rfl, numStep_nat, numStep_nat, numB_two]
    omega
  match xs, hx, ys, hy with
  | [a, b, c, d], _, [a', b', c', d'], _ =>
    have e := congrArg BitVec.toNat h
    rw [key, key] at e
    have := a.isLt
    have := b.isLt
    have := c.isLt
    have := d.isLt
    have := a'.isLt
    have := b'.isLt
    have := c'.isLt
    have := d'.isLt
    have e1 : a = a' := BitVec.eq_of_toNat_eq (by omega)
    have e2 : b = b' := BitVec.eq_of_toNat_eq (by omega)
    have e3 : c = c' := BitVec.eq_of_toNat_eq (by omega)
    have e4 : d = d' := BitVec.eq_of_toNat_eq (by omega)
    rw [e1, e2, e3, e4]
theorem crc_set {xs : List B8} {n : Nat} {v : B8} (h : crcB (xs.set n v) = crcB xs) : xs.set n v = xs := by
  unfold crcB crcMoreB at h
  have e2 := BitVec.not_inj.1 h
  refine burst _ (by simp) (8 * n) (fun p _ hp => ?_) e2
  have h1 : p / 8 = n := by
    refine Classical.byContradiction (fun hn => hp ?_)
    unfold bitAt
    rw [List.getD_eq_getElem?_getD, List.getD_eq_getElem?_getD, List.getElem?_set_ne (fun e => hn e.symm)]
  omega
theorem one_byte (f : Fg) (n : Nat) (v : B8) (hn : n < (dgram f).length) (hv : (dgram f).set n v ≠ dgram f) : lookE ((dgram f).set n v) ≠ 0 := by
  intro h0
  unfold lookE at h0
  split at h0
  · cases h0
  · split at h0
    · cases h0
    · rename_i h1 h2
      have h2 := Classical.not_not.1 h2
      rw [List.length_set] at h2
      have hd : dgram f = headF f ++ beTo ((crcB (headF f)).setWidth 64) 4 4 := rfl
      have ht : (beTo ((crcB (headF f)).setWidth 64) 4 4).length = 4 := beTo_len _ _ _
      have hnum := numB_4 (crcB (headF f))
      generalize hT : beTo ((crcB (headF f)).setWidth 64) 4 4 = T at *
      have hl : (dgram f).length - 4 = (headF f).length := by rw [hd, List.length_append, ht]; omega
      rw [hl] at h2
      by_cases hc : n < (headF f).length
      · rw [hd, List.set_append_left _ _ hc, take_app (by simp), drop_app (by simp), List.take_of_length_le (by omega), hnum] at h2
        have h3 : crcB ((headF f).set n v) = crcB (headF f) := by
          apply BitVec.eq_of_toNat_eq
          have := congrArg BitVec.toNat h2
          rw [BitVec.toNat_setWidth, BitVec.toNat_setWidth] at this
          have a1 := (crcB ((headF f).set n v)).isLt
          have a2 := (crcB (headF f)).isLt
          omega
        exact hv (by rw [hd, List.set_append_left _ _ hc, crc_set h3])
      · have hc' : (headF f).length ≤ n := by omega
        rw [hd, List.set_append_right _ _ hc', take_app rfl, drop_app rfl, List.take_of_length_le (by simp; omega), ← hnum] at h2
        have h3 := numB_inj4 ht (by simp [ht]) h2
        exact hv (by rw [hd, List.set_append_right _ _ hc', ← h3])
theorem set_ne {xs : List B8} {n : Nat} {x : B8} (hn : n < xs.length) (hx : x ≠ 0#8) : xs.set n (xs[n] ^^^ x) ≠ xs := by
  intro e
  have h1 := congrArg (fun l => l[n]?) e
  simp only [List.getElem?_set_self hn, List.getElem?_eq_getElem hn, Option.some.injEq] at h1
  have h2 : xs[n] ^^^ (xs[n] ^^^ x) = xs[n] ^^^ xs[n] := by rw [h1]
  rw [← BitVec.xor_assoc, BitVec.xor_self, BitVec.zero_xor] at h2
  exact hx h2
theorem tellTo_one (s : PS) (h0 : 0 ≤ s.key.1) (n : Nat) : tellTo n [s] = if s.key.1 < (n : Int) then [s.tell] else [] := by
  induction n with
  | zero => rw [if_neg (by omega)]; rfl
  | succ n ih =>
    rw [tellTo_succ, ih]
    unfold tellA
    by_cases h1 : s.key.1 < (n : Int)
    · rw [if_pos h1, if_pos (by omega)]
      have : ¬ s.key.1 = (n : Int) := by omega
      simp [this]
    · rw [if_neg h1]
      by_cases h2 : s.key.1 = (n : Int)
      · rw [if_pos (by omega)]
        simp [h2]
      · rw [if_neg (by omega)]
        simp [h2]
theorem tell_one (s : PS) (h0 : 0 ≤ s.key.1) (h1 : s.key.1 < 255) : tellP [s] = [s.tell] := by
  unfold tellP
  rw [tellTo_one s h0, if_pos (by omega)]
theorem tell_nil : tellP [] = [] := by
  unfold tellP tellTo
  simp [tellA]
/-- what is refused leaves all as it was -/
theorem take_bad {ss : List PS} {frm : Int} (h255 : frm ≠ 255) {d : List B8} (h : lookE d ≠ 0) (sl : Nat) : takeP sl ss frm d = ⟨[], false, lookE d, ss⟩ := by
  unfold takeP
  rw [if_neg h255, if_pos h]
end Go.Proofs.Ytoeafacamapofaa
