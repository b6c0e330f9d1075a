
/-
  Plain laws on fragments: a fragment's datagram is taken for that fragment; a packet's parts, end to end, are the packet.
-/
import Derived.Test.YtoeafacamapofaaFgMath
import Derived.Test.YtoeafacamapofaaCwFrom
namespace Go.Proofs.Ytoeafacamapofaa
open Go.RowKit
set_option linter.unusedVariables false
set_option linter.unusedSimpArgs false

theorem numB_snoc (xs : List B8) (b : B8) : numB (xs ++ [b]) = numStep (numB xs) b := by unfold numB; rw [List.foldl_append]; rfl
/-- the number whose bytes are laid down is read back -/
theorem numB_beTo (x : BitVec 64) (n : Nat) (hn : n ≤ 8) (h0 : x >>> (8 * n) = 0#64) : ∀ j, j ≤ n → numB (beTo x n j) = x >>> (8 * (n - j)) := by
  intro j
  induction j with
  | zero => intro _; rw [Nat.sub_zero, h0]; rfl
  | succ j ih =>
    intro hj
    rw [show beTo x n (j + 1) = beTo x n j ++ [(x >>> (8 * (n - 1 - j))).setWidth 8] from rfl, numB_snoc, ih (by omega)]
    apply BitVec.eq_of_toNat_eq
    rw [numStep_nat, BitVec.toNat_setWidth, BitVec.toNat_ushiftRight, BitVec.toNat_ushiftRight, BitVec.toNat_ushiftRight, Nat.shiftRight_eq_div_pow, Nat.shiftRight_eq_div_pow, Nat.shiftRight_eq_div_pow,
      show 8 * (n - j) = 8 * (n - 1 - j) + 8 by omega, show 8 * (n - (j + 1)) = 8 * (n - 1 - j) by omega, Nat.pow_add, ← Nat.div_div_eq_div_mul]
    have hx := x.isLt
    have hle : x.toNat / 2 ^ (8 * (n - 1 - j)) ≤ x.toNat := Nat.div_le_self _ _
    generalize x.toNat / 2 ^ (8 * (n - 1 - j)) = y at *
    omega
theorem numB_8 (x : BitVec 64) : numB (beTo x 8 8) = x := by
  rw [numB_beTo x 8 (by omega) (by apply BitVec.eq_of_toNat_eq; rw [BitVec.toNat_ushiftRight, Nat.shiftRight_eq_div_pow]; have := x.isLt; simp; omega) 8 (by omega)]
  simp
theorem numB_4 (c : BitVec 32) : numB (beTo (c.setWidth 64) 4 4) = c.setWidth 64 := by
  rw [numB_beTo _ 4 (by omega) (by apply BitVec.eq_of_toNat_eq; rw [BitVec.toNat_ushiftRight, Nat.shiftRight_eq_div_pow, BitVec.toNat_setWidth]; have := c.isLt; simp; omega) 4 (by omega)]
  simp
theorem dgram_parts (f : Fg) : dgram f = [214#8, 1#8] ++ (beTo f.id 8 8 ++ ([BitVec.ofNat 8 (f.total / 256), BitVec.ofNat 8 (f.total % 256)] ++ ([BitVec.ofNat 8 f.index] ++ ([BitVec.ofNat 8 f.count] ++ (f.part ++ beTo ((crcB (headF f)).setWidth 64) 4 4))))) := by
  unfold dgram sealB
  conv => lhs; lhs; unfold headF
  simp only [List.append_assoc, List.cons_append, List.nil_append]
theorem drop_app {α : Type} {a b : List α} {n : Nat} (h : a.length = n) : (a ++ b).drop n = b := by subst h; simp
theorem take_app {α : Type} {a b : List α} {n : Nat} (h : a.length = n) : (a ++ b).take n = a := by subst h; simp
theorem dgram_readF (f : Fg) (ht : f.total ≤ 65535) (hi : f.index ≤ 255) (hc : f.count ≤ 255) : readF (dgram f) = f ∧ (dgram f)[0]? = some 214#8 ∧ (dgram f)[1]? = some 1#8 ∧ (dgram f).take ((dgram f).length - 4) = headF f ∧ ((dgram f).drop ((dgram f).length - 4)).take 4 = beTo ((crcB (headF f)).setWidth 64) 4 4 := by
  have hl := dgram_len f
  have hp := dgram_parts f
  have h2 : (dgram f).drop 2 = beTo f.id 8 8 ++ ([BitVec.ofNat 8 (f.total / 256), BitVec.ofNat 8 (f.total % 256)] ++ ([BitVec.ofNat 8 f.index] ++ ([BitVec.ofNat 8 f.count] ++ (f.part ++ beTo ((crcB (headF f)).setWidth 64) 4 4)))) := by rw [hp]; exact drop_app rfl
  have h10 : (dgram f).drop 10 = ([BitVec.ofNat 8 (f.total / 256), BitVec.ofNat 8 (f.total % 256)] ++ ([BitVec.ofNat 8 f.index] ++ ([BitVec.ofNat 8 f.count] ++ (f.part ++ beTo ((crcB (headF f)).setWidth 64) 4 4)))) := by
    rw [show (10 : Nat) = 2 + 8 from rfl, ← List.drop_drop, h2]; exact drop_app (by rw [beTo_len])
  have h12 : (dgram f).drop 12 = ([BitVec.ofNat 8 f.index] ++ ([BitVec.ofNat 8 f.count] ++ (f.part ++ beTo ((crcB (headF f)).setWidth 64) 4 4))) := by
    rw [show (12 : Nat) = 10 + 2 from rfl, ← List.drop_drop, h10]; exact drop_app rfl
  have h13 : (dgram f).drop 13 = ([BitVec.ofNat 8 f.count] ++ (f.part ++ beTo ((crcB (headF f)).setWidth 64) 4 4)) := by
    rw [show (13 : Nat) = 12 + 1 from rfl, ← List.drop_drop, h12]; exact drop_app rfl
  have h14 : (dgram f).drop 14 = (f.part ++ beTo ((crcB (headF f)).setWidth 64) 4 4) := by
    rw [show (14 : Nat) = 13 + 1 from rfl, ← List.drop_drop, h13]; exact drop_app rfl
  have hhd : dgram f = headF f ++ beTo ((crcB (headF f)).setWidth 64) 4 4 := rfl
  refine ⟨?_, by rw [hp]; rfl, by rw [hp]; rfl, ?_, ?_⟩
  · unfold readF
    have e2 : ((dgram f).drop 2).take 8 = beTo f.id 8 8 := by rw [h2]; exact take_app (by rw [beTo_len])
    have e10 : ((dgram f).drop 10).take 2 = [BitVec.ofNat 8 (f.total / 256), BitVec.ofNat 8 (f.total % 256)] := by rw [h10]; exact take_app rfl
    have e12 : ((dgram f).drop 12).take 1 = [BitVec.ofNat 8 f.index] := by rw [h12]; exact take_app rfl
    have e13 : ((dgram f).drop 13).take 1 = [BitVec.ofNat 8 f.count] := by rw [h13]; exact take_app rfl
    have e14 : ((dgram f).drop 14).take ((dgram f).length - 18) = f.part := by rw [h14]; exact take_app (by rw [hl]; omega)
    rw [e2, e10, e12, e13, e14, numB_8, numB_one, numB_one, numB_two]
    clear e2 e10 e12 e13 e14 h2 h10 h12 h13 h14 hp hl hhd
    obtain ⟨id, I, C, T, part⟩ := f
    simp only at ht hi hc
    simp only [BitVec.toNat_ofNat]
    congr 1 <;> omega
  · conv => lhs; arg 2; rw [hhd]
    exact take_app (by rw [hl, headF_len]; omega)
  · have e : (dgram f).drop ((dgram f).length - 4) = beTo ((crcB (headF f)).setWidth 64) 4 4 := by
      conv => lhs; arg 2; rw [hhd]
      exact drop_app (by rw [hl, headF_len]; omega)
    rw [e, List.take_of_length_le (by rw [beTo_len]; omega)]
/-- a right fragment's datagram is taken for it -/
theorem dgram_look (f : Fg) (h : shapedN f.total f.count f.index f.part.length) (h1 : 1 ≤ f.part.length) (h2 : f.part.length ≤ 1006) : lookE (dgram f) = 0 ∧ lookF (dgram f) = f := by
  obtain ⟨a1, a2, a3, a4, a5, a6, a7⟩ := h
  obtain ⟨hr, hb0, hb1, ht, hs⟩ := dgram_readF f (by omega) (by omega) (by omega)
  have hl := dgram_len f
  have hE : lookE (dgram f) = 0 := by
    unfold lookE
    rw [hb0, hb1, ht, hs, numB_4, hr, hl, if_neg (by simp; omega), if_neg (by simp), show 18 + f.part.length - 18 = f.part.length by omega, if_pos ⟨a1, a2, a3, a4, a5, a6, a7⟩]
  exact ⟨hE, by unfold lookF; rw [hE, if_pos rfl, hr]⟩
/-- a packet's fragments are right -/
theorem fragB_shaped {packet : List B8} {id : BitVec 64} {mtu i : Nat} (h1 : 64 ≤ mtu) (h2 : mtu ≤ 1024) (h3 : 1 ≤ packet.length) (h4 : packet.length ≤ 4096) (hi : i < countN packet.length mtu) :
    shapedN packet.length (countN packet.length mtu) i (partB packet (countN packet.length mtu) i).length ∧ 1 ≤ (partB packet (countN packet.length mtu) i).length ∧ (partB packet (countN packet.length mtu) i).length ≤ mtu - 18 := by
  obtain ⟨s1, s2, s3, s4, s5, s6⟩ := split_facts h1 h2 h3 h4
  rw [partB_len]
  generalize countN packet.length mtu = C at *
  generalize hS : sizeN packet.length C = S at *
  have hm : i * S ≤ (C - 1) * S := Nat.mul_le_mul_right _ (by omega)
  refine ⟨⟨h3, h4, s1, by omega, hi, by rw [hS]; exact s5, ?_⟩, by omega, by omega⟩
  rw [hS]
  by_cases hl : i < C - 1
  · have h1 : (i + 1) * S ≤ (C - 1) * S := Nat.mul_le_mul_right _ (by omega)
    rw [Nat.succ_mul] at h1
    rw [if_pos hl]
    omega
  · obtain rfl : i = C - 1 := by omega
    rw [if_neg hl]
    have e : C * S = (C - 1) * S + S := by
      obtain ⟨c, rfl⟩ : ∃ c, C = c + 1 := ⟨C - 1, by omega⟩
      rw [Nat.succ_mul]; rfl
    omega
/-- the first parts, end to end -/
theorem parts_app (packet : List B8) (C i : Nat) : packet.take (i * sizeN packet.length C) ++ partB packet C i = packet.take ((i + 1) * sizeN packet.length C) := by
  unfold partB
  rw [Nat.succ_mul, List.take_add]
end Go.Proofs.Ytoeafacamapofaa
