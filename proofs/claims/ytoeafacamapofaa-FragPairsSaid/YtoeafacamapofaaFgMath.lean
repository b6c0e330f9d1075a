
/-
  Plain words on fragments: how many parts, how long they are, a fragment's bytes, what a datagram is taken for.
-/
import Derived.Test.YtoeafacamapofaaCwReader2
import Derived.Test.YtoeafacamapofaaCwWriter2
import Derived.Test.YtoeafacamapofaaCrcMath
namespace Go.Proofs.Ytoeafacamapofaa
open Go.RowKit
set_option linter.unusedVariables false
set_option linter.unusedSimpArgs false

/-- a division rounded up -/
def ceilN (l m : Nat) : Nat := (l + m - 1) / m
theorem ceil_le {l m k : Nat} (hm : 0 < m) : ceilN l m ≤ k ↔ l ≤ k * m := by
  unfold ceilN
  rw [← Nat.lt_succ_iff, Nat.div_lt_iff_lt_mul hm, Nat.succ_mul]
  omega
theorem ceil_lt {l m k : Nat} (hm : 0 < m) : k < ceilN l m ↔ k * m < l := by
  have := ceil_le (l := l) (k := k) hm
  omega
theorem ceil_pos {l m : Nat} (hl : 0 < l) (hm : 0 < m) : 0 < ceilN l m := (ceil_lt hm).2 (by omega)
/-- the parts' length, of so many bytes in so many parts -/
def sizeN (total count : Nat) : Nat := ceilN total count
/-- part number i -/
def partB (packet : List B8) (count i : Nat) : List B8 := (packet.drop (i * sizeN packet.length count)).take (sizeN packet.length count)
/-- a fragment -/
structure Fg where
  id : BitVec 64
  index : Nat
  count : Nat
  total : Nat
  part : List B8
/-- a fragment's bytes ahead of the sum -/
def headF (f : Fg) : List B8 :=
  [214#8, 1#8] ++ beTo f.id 8 8 ++ [BitVec.ofNat 8 (f.total / 256), BitVec.ofNat 8 (f.total % 256), BitVec.ofNat 8 f.index, BitVec.ofNat 8 f.count] ++ f.part
def sealB (bs : List B8) : List B8 := bs ++ beTo ((crcB bs).setWidth 64) 4 4
def dgram (f : Fg) : List B8 := sealB (headF f)
theorem headF_len (f : Fg) : (headF f).length = 14 + f.part.length := by
  unfold headF
  simp [beTo_len]
  omega
theorem sealB_len (bs : List B8) : (sealB bs).length = bs.length + 4 := by simp [sealB, beTo_len]
theorem dgram_len (f : Fg) : (dgram f).length = 18 + f.part.length := by unfold dgram; rw [sealB_len, headF_len]; omega
/-- how many parts -/
def countN (len mtu : Nat) : Nat := ceilN len (mtu - 18)
/-- the part's shape fits -/
def shapedN (total count index plen : Nat) : Prop :=
  1 ≤ total ∧ total ≤ 4096 ∧ 1 ≤ count ∧ count ≤ 128 ∧ index < count ∧ (count - 1) * sizeN total count < total ∧
    plen = if index < count - 1 then sizeN total count else total - (count - 1) * sizeN total count
instance (total count index plen : Nat) : Decidable (shapedN total count index plen) := by unfold shapedN; infer_instance
def noF : Fg := ⟨0, 0, 0, 0, []⟩
/-- what a datagram holds -/
def readF (d : List B8) : Fg := ⟨numB ((d.drop 2).take 8), (numB ((d.drop 12).take 1)).toNat, (numB ((d.drop 13).take 1)).toNat, (numB ((d.drop 10).take 2)).toNat, (d.drop 14).take (d.length - 18)⟩
/-- what a datagram is taken for -/
def lookE (d : List B8) : Int :=
  if d.length < 19 ∨ 1024 < d.length ∨ d[0]? ≠ some 214#8 ∨ d[1]? ≠ some 1#8 then 42
  else if (crcB (d.take (d.length - 4))).setWidth 64 ≠ numB ((d.drop (d.length - 4)).take 4) then 43
  else if shapedN (readF d).total (readF d).count (readF d).index (d.length - 18) then 0 else 42
def lookF (d : List B8) : Fg := if lookE d = 0 then readF d else noF
/-- a packet's datagrams -/
def splitE (len : Nat) (mtu : Int) : Int := if mtu < 64 ∨ 1024 < mtu then 40 else if len = 0 ∨ 4096 < len then 41 else 0
def fragB (packet : List B8) (id : BitVec 64) (count i : Nat) : Fg := ⟨id, i, count, packet.length, partB packet count i⟩
def splitL (packet : List B8) (id : BitVec 64) (count : Nat) : List (List B8) := (List.range count).map fun i => dgram (fragB packet id count i)
def splitB (packet : List B8) (id : BitVec 64) (mtu : Int) : List (List B8) := if splitE packet.length mtu = 0 then splitL packet id (countN packet.length (mtu.toNat)) else []

/-- the facts on a packet's parts -/
theorem split_facts {len mtu : Nat} (h1 : 64 ≤ mtu) (h2 : mtu ≤ 1024) (h3 : 1 ≤ len) (h4 : len ≤ 4096) :
    1 ≤ countN len mtu ∧ countN len mtu ≤ 90 ∧ 1 ≤ sizeN len (countN len mtu) ∧ sizeN len (countN len mtu) ≤ mtu - 18 ∧ (countN len mtu - 1) * sizeN len (countN len mtu) < len ∧ len ≤ countN len mtu * sizeN len (countN len mtu) := by
  have hm : 0 < mtu - 18 := by omega
  have c1 : 0 < countN len mtu := ceil_pos (by omega) hm
  have c2 : countN len mtu ≤ 90 := (ceil_le hm).2 (by omega)
  have c3 : len ≤ countN len mtu * (mtu - 18) := (ceil_le hm).1 (Nat.le_refl _)
  have c4 : (countN len mtu - 1) * (mtu - 18) < len := (ceil_lt hm).1 (by show _ < countN len mtu; omega)
  generalize countN len mtu = c at *
  have s1 : 0 < sizeN len c := ceil_pos (by omega) c1
  have s2 : sizeN len c ≤ mtu - 18 := (ceil_le c1).2 (by rw [Nat.mul_comm]; exact c3)
  have s3 : len ≤ sizeN len c * c := (ceil_le c1).1 (Nat.le_refl _)
  have s4 : (c - 1) * sizeN len c ≤ (c - 1) * (mtu - 18) := Nat.mul_le_mul_left _ s2
  exact ⟨c1, c2, s1, s2, by omega, by rw [Nat.mul_comm]; exact s3⟩
theorem partB_len {packet : List B8} {count i : Nat} : (partB packet count i).length = min (sizeN packet.length count) (packet.length - i * sizeN packet.length count) := by
  unfold partB
  rw [List.length_take, List.length_drop]
/-- the shape, as the reference asks for it -/
theorem shaped_cut {total count index plen : Nat} (h : 1 ≤ total ∧ total ≤ 4096 ∧ 1 ≤ count ∧ count ≤ 128 ∧ index < count) :
    shapedN total count index plen ↔ min (sizeN total count) (total - (count - 1) * sizeN total count) ≠ 0 ∧ min (sizeN total count) (total - index * sizeN total count) = plen := by
  have hS : 0 < sizeN total count := ceil_pos (by omega) (by omega)
  have hT : total ≤ sizeN total count * count := (ceil_le (by omega)).1 (Nat.le_refl _)
  unfold shapedN
  generalize sizeN total count = S at *
  obtain ⟨c, rfl⟩ : ∃ c, count = c + 1 := ⟨count - 1, by omega⟩
  rw [Nat.mul_succ, Nat.mul_comm] at hT
  simp only [Nat.add_sub_cancel]
  by_cases hl : c * S < total
  · by_cases hi : index < c
    · have h1 : (index + 1) * S ≤ c * S := Nat.mul_le_mul_right _ (by omega)
      rw [Nat.succ_mul] at h1
      rw [if_pos hi]
      omega
    · obtain rfl : index = c := by omega
      rw [if_neg hi]
      omega
  · constructor
    · intro h2; omega
    · intro h2; omega
theorem numB_one (b : B8) : (numB [b]).toNat = b.toNat := by
  have := b.isLt
  show ((0#64 <<< 8) ||| b.setWidth 64).toNat = _
  simp
  omega
theorem numB_two (a b : B8) : (numB [a, b]).toNat = a.toNat * 256 + b.toNat := by
  have ha := a.isLt
  have hb := b.isLt
  have e : numB [a, b] = numStep (numB [a]) b := rfl
  have h0 : (numB [a] <<< 8) &&& b.setWidth 64 = 0#64 := by
    ext i hi
    simp
    intro h1 _
    by_cases h : i < 8
    · omega
    · exact BitVec.getLsbD_of_ge b i (by omega)
  rw [e]
  unfold numStep
  rw [← BitVec.add_eq_or_of_and_eq_zero _ _ h0, BitVec.toNat_add, BitVec.toNat_shiftLeft, BitVec.toNat_setWidth, Nat.shiftLeft_eq, numB_one]
  omega
theorem take1 {d : List B8} {i : Nat} (h : i < d.length) : (d.drop i).take 1 = [d[i]] := by
  rw [List.drop_eq_getElem_cons h]; rfl
theorem take2 {d : List B8} {i : Nat} (h : i + 1 < d.length) : (d.drop i).take 2 = [d[i], d[i + 1]] := by
  rw [List.drop_eq_getElem_cons (by omega), List.take_succ_cons, take1 h]
theorem readF_eq {d : List B8} (h : 19 ≤ d.length) : readF d = ⟨numB ((d.drop 2).take 8), (d[12]'(by omega)).toNat, (d[13]'(by omega)).toNat, (d[10]'(by omega)).toNat * 256 + (d[11]'(by omega)).toNat, (d.drop 14).take (d.length - 18)⟩ := by
  unfold readF
  rw [take1 (by omega), take1 (by omega), take2 (by omega), numB_one, numB_one, numB_two]
end Go.Proofs.Ytoeafacamapofaa
