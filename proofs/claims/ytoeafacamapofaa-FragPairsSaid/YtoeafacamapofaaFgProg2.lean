
/-
  The walks over the program's fragments: sizeOf, seal, Split.
  The walk over the program's Split.
-/
import Derived.Test.YtoeafacamapofaaFgGrams
import Derived.Test.YtoeafacamapofaaCwBase
namespace Go.Proofs.Ytoeafacamapofaa
open Go.RowKit
set_option linter.unusedVariables false
set_option linter.unusedSimpArgs false

set_option maxRecDepth 100000 in
theorem sizeOf_calls (total count : Nat) (h1 : 1 ≤ count) (h2 : count ≤ 4294967296) (h3 : total ≤ 4294967296) (w : World) :
    Calls Try.prog 70 #[.int .i64 total, .int .i64 count] w fun e w' => e = .returned (.int .i64 (sizeN total count : Int)) ∧ w = w' := by
  have HE : Hid (((total : Int) + (count : Int) - 1) / (count : Int) = (sizeN total count : Int)) := Lib.hid (by unfold sizeN ceilN; rw [Int.natCast_ediv]; congr 1; omega)
  have hz : ¬ (count : Int) = 0 := by omega
  have hb : ((count : Int) == 0) = false := beq_eq_false_iff_ne.2 hz
  have hle : ((total : Int) + (count : Int) - 1) / (count : Int) ≤ 4294967296 * 2 := by
    have h := Int.ediv_le_self (a := (total : Int) + (count : Int) - 1) (count : Int) (by omega)
    omega
  have hge : 0 ≤ ((total : Int) + (count : Int) - 1) / (count : Int) := Int.ediv_nonneg (by omega) (by omega)
  clear hz
  go_enter Try.func70, Try.ntmps70
  go_wp2
  go_ret
  exact ⟨ret_int HE.out, rfl⟩

theorem put_fit {lim : Int} {o bs : List B8} (h : ((o.length + bs.length : Nat) : Int) ≤ lim) : putT true ⟨lim, o, 0⟩ bs = ⟨lim, o ++ bs, 0⟩ := by
  unfold putT WS.put
  rw [if_pos rfl, if_pos rfl, if_neg (by simp only; omega)]
theorem Bs.apart {w : World} {a : Option Addr} {bs : List B8} {F : Nat → Prop} (h : Bs w a bs) (hF : ∀ k, F k → w.heap.size ≤ k) : Apart F a bs := by
  cases bs with
  | nil => exact .inl rfl
  | cons b l =>
    right
    obtain ⟨x, rfl, hc⟩ := h.at 0 (by simp)
    have := World.block_lt_of_cell? w _ hc
    rw [addr_block] at this
    rintro k hk ⟨y, hy, rfl⟩
    cases hy
    exact absurd this (Nat.not_lt.2 (hF _ hk))
theorem St.newOf {F : Nat → Prop} {w w' : World} (s : St No w F w') : ∀ k, F k → w.heap.size ≤ k := fun k hk => (s.new k hk).elim (fun h => h.elim) id
theorem beTo_u8 (x : B8) : beTo (x.setWidth 64) 1 1 = [x] := by
  show [(x.setWidth 64 >>> (8 * (1 - 1 - 0))).setWidth 8] = [x]
  congr 1
  apply BitVec.eq_of_toNat_eq
  have := x.isLt
  rw [BitVec.toNat_setWidth, BitVec.toNat_ushiftRight, BitVec.toNat_setWidth, Nat.shiftRight_eq_div_pow]
  simp
  omega
theorem beTo_u16 (n : Nat) (h : n ≤ 65535) : beTo ((BitVec.ofNat 16 n).setWidth 64) 2 2 = [BitVec.ofNat 8 (n / 256), BitVec.ofNat 8 (n % 256)] := by
  show [((BitVec.ofNat 16 n).setWidth 64 >>> 8).setWidth 8, ((BitVec.ofNat 16 n).setWidth 64 >>> 0).setWidth 8] = _
  have e : (BitVec.setWidth 64 (BitVec.ofNat 16 n)).toNat = n := by
    rw [BitVec.toNat_setWidth, BitVec.toNat_ofNat]; omega
  congr 1
  · apply BitVec.eq_of_toNat_eq
    rw [BitVec.toNat_setWidth, BitVec.toNat_ushiftRight, e, BitVec.toNat_ofNat, Nat.shiftRight_eq_div_pow]
  · congr 1
    apply BitVec.eq_of_toNat_eq
    rw [BitVec.toNat_setWidth, BitVec.toNat_ushiftRight, e, BitVec.toNat_ofNat, Nat.shiftRight_eq_div_pow]
    omega

/-- a datagram in new memory -/
def DOut (w : World) (bs : List B8) (e : Ending) (w' : World) : Prop :=
  ∃ g, e = .returned (.tuple #[.slice (some ⟨g, 0, none⟩) bs.length bs.length, .int .i64 0]) ∧ OwB w' (.slice (some ⟨g, 0, none⟩) bs.length bs.length) bs ∧ w.heap.size ≤ g ∧ St No w No w'
set_option maxRecDepth 100000 in
set_option maxHeartbeats 2000000 in
theorem seal_calls (f : Fg) (a : Option Addr) (c : Nat) (hac : a = none → c = 0) (hp : f.part.length ≤ 1006) (hi : f.index ≤ 255) (hc : f.count ≤ 255) (ht : f.total ≤ 65535) (w : World) (ha : Bs w a f.part) :
    Calls Try.prog 71 #[.agg (f.cells a c)] w (DOut w (dgram f)) := by
  obtain ⟨id, index, count, total, part⟩ := f
  simp only at hp hi hc ht ha
  have HDG : Hid (dgram ⟨id, index, count, total, part⟩ = sealB ([] ++ [214#8] ++ [1#8] ++ beTo id 8 8 ++ [BitVec.ofNat 8 (total / 256), BitVec.ofNat 8 (total % 256)] ++ [BitVec.ofNat 8 index] ++ [BitVec.ofNat 8 count] ++ part)) := Lib.hid (by
    unfold dgram headF
    simp only [List.append_assoc, List.cons_append, List.nil_append])
  have HST : Hid (St No w No (w.alloc (.cells (Fg.cells ⟨id, index, count, total, part⟩ a c) 70))) := Lib.hid (St.alloc' No w _)
  have HB : Hid (Bs (w.alloc (.cells (Fg.cells ⟨id, index, count, total, part⟩ a c) 70)) a part) := Lib.hid (ha.st (St.alloc' No w _) (Dj.no _))
  have HOB : Hid (Ob (w.alloc (.cells (Fg.cells ⟨id, index, count, total, part⟩ a c) 70)) w.heap.size 70 (Fg.cells ⟨id, index, count, total, part⟩ a c)) := Lib.hid (Ob.alloc w _ _)
  unfold Fg.cells at *
  simp only at *
  have HAC := Lib.hid hac
  have HSZ : Hid (w.heap.size < (w.alloc (.cells #[.int .u64 (id.toNat : Int), .int .i64 (index : Int), .int .i64 (count : Int), .int .i64 (total : Int), .slice a part.length c] 70)).heap.size) := Lib.hid (by simp)
  clear ha hac
  go_enter Try.func71, Try.ntmps71
  go_wp2_with fail
  generalize w.alloc (.cells #[.int .u64 (id.toNat : Int), .int .i64 (index : Int), .int .i64 (count : Int), .int .i64 (total : Int), .slice a part.length c] 70) = w0 at *
  have KF : Hid (∀ w' F', St No w0 F' w' → w'.cell? ⟨w.heap.size, 0, none⟩ = some (.int .u64 (id.toNat : Int)) ∧ w'.cell? ⟨w.heap.size, 1, none⟩ = some (.int .i64 (index : Int)) ∧ w'.cell? ⟨w.heap.size, 2, none⟩ = some (.int .i64 (count : Int)) ∧ w'.cell? ⟨w.heap.size, 3, none⟩ = some (.int .i64 (total : Int)) ∧ w'.cell? ⟨w.heap.size, 4, none⟩ = some (.slice a part.length c)) := Lib.hid (fun w' F' s => by
    have hob := HOB.out.move (s.block _ HOB.out.lt (fun h => h))
    exact ⟨by rw [hob.cell 0]; rfl, by rw [hob.cell 1]; rfl, by rw [hob.cell 2]; rfl, by rw [hob.cell 3]; rfl, by rw [hob.cell 4]; rfl⟩)
  refine (newWriter_calls 1024 w0).mono ?_
  rintro e w1 (⟨hno, _⟩ | ⟨_, p, F1, rfl, hw1, hs1⟩)
  · exact absurd hno (by decide)
  have HW1 : Hid (Wh w1 F1 (.pointer (some ⟨p, 0, none⟩)) true ⟨1024, [], 0⟩) := Lib.hid (.inr ⟨rfl, ⟨by simp, by simp, by simp⟩, p, rfl, hw1⟩)
  have HS1 := Lib.hid hs1
  obtain ⟨f10, f11, f12, f13, f14⟩ := KF.out w1 _ hs1
  clear hw1 hs1
  go_wp2_with fail
  refine (wU8_calls 214#8 w1 F1 _ true _ HW1.out).mono ?_
  rintro e w2 ⟨rfl, F2, hw2, hs2⟩
  rw [put_fit (by rw [beTo_len]; simp), beTo_u8] at hw2
  have HW2 := Lib.hid hw2
  have HS2 := Lib.hid (HS1.out.trans hs2)
  clear hw2 hs2 f10 f11 f12 f13 f14
  go_wp2_with fail
  refine (wU8_calls 1#8 w2 F2 _ true _ HW2.out).mono ?_
  rintro e w3 ⟨rfl, F3, hw3, hs3⟩
  rw [put_fit (by rw [beTo_len]; simp), beTo_u8] at hw3
  have HW3 := Lib.hid hw3
  have HS3 := Lib.hid (HS2.out.trans hs3)
  obtain ⟨f30, f31, f32, f33, f34⟩ := KF.out w3 _ HS3.out
  clear hw3 hs3
  go_wp2_with fail
  refine (wU64_calls id w3 F3 _ true _ HW3.out).mono ?_
  rintro e w4 ⟨rfl, F4, hw4, hs4⟩
  rw [put_fit (by rw [beTo_len]; simp)] at hw4
  have HW4 := Lib.hid hw4
  have HS4 := Lib.hid (HS3.out.trans hs4)
  obtain ⟨f40, f41, f42, f43, f44⟩ := KF.out w4 _ HS4.out
  have q1 : (total : Int) = ((BitVec.ofNat 16 total).toNat : Int) := by rw [BitVec.toNat_ofNat, Nat.mod_eq_of_lt (by omega)]
  have Q1 := Lib.hid q1
  clear hw4 hs4 f30 f31 f32 f33 f34 q1
  go_wp2_with fail
  rw [Q1.out]
  refine (wU16_calls (BitVec.ofNat 16 total) w4 F4 _ true _ HW4.out).mono ?_
  rintro e w5 ⟨rfl, F5, hw5, hs5⟩
  rw [put_fit (by simp [beTo_len]), beTo_u16 total ht] at hw5
  have HW5 := Lib.hid hw5
  have HS5 := Lib.hid (HS4.out.trans hs5)
  obtain ⟨f50, f51, f52, f53, f54⟩ := KF.out w5 _ HS5.out
  have q3 : (index : Int) = ((BitVec.ofNat 8 index).toNat : Int) := by rw [BitVec.toNat_ofNat, Nat.mod_eq_of_lt (by omega)]
  have q4 : (count : Int) = ((BitVec.ofNat 8 count).toNat : Int) := by rw [BitVec.toNat_ofNat, Nat.mod_eq_of_lt (by omega)]
  have Q3 := Lib.hid q3
  have Q4 := Lib.hid q4
  clear hw5 hs5 f40 f41 f42 f43 f44 q3 q4
  go_wp2_with fail
  rw [Q3.out]
  refine (wU8_calls (BitVec.ofNat 8 index) w5 F5 _ true _ HW5.out).mono ?_
  rintro e w6 ⟨rfl, F6, hw6, hs6⟩
  rw [put_fit (by simp [beTo_len]), beTo_u8] at hw6
  have HW6 := Lib.hid hw6
  have HS6 := Lib.hid (HS5.out.trans hs6)
  obtain ⟨f60, f61, f62, f63, f64⟩ := KF.out w6 _ HS6.out
  clear hw6 hs6 f50 f51 f52 f53 f54
  go_wp2_with fail
  rw [Q4.out]
  refine (wU8_calls (BitVec.ofNat 8 count) w6 F6 _ true _ HW6.out).mono ?_
  rintro e w7 ⟨rfl, F7, hw7, hs7⟩
  rw [put_fit (by simp [beTo_len]), beTo_u8] at hw7
  have HW7 := Lib.hid hw7
  have HS7 := Lib.hid (HS6.out.trans hs7)
  obtain ⟨f70, f71, f72, f73, f74⟩ := KF.out w7 _ HS7.out
  clear hw7 hs7 f60 f61 f62 f63 f64
  go_wp2_with fail
  refine (raw_h a c part HAC.out w7 F7 _ true _ HW7.out (HB.out.st HS7.out (Dj.no _)) (HB.out.apart HS7.out.newOf)).mono ?_
  rintro e w8 ⟨rfl, F8, hw8, hs8⟩
  rw [put_fit (by simp [beTo_len]; omega)] at hw8
  have HHD : Hid (([] : List B8) ++ [214#8] ++ [1#8] ++ beTo id 8 8 ++ [BitVec.ofNat 8 (total / 256), BitVec.ofNat 8 (total % 256)] ++ [BitVec.ofNat 8 index] ++ [BitVec.ofNat 8 count] ++ part = [] ++ [214#8] ++ [1#8] ++ beTo id 8 8 ++ [BitVec.ofNat 8 (total / 256), BitVec.ofNat 8 (total % 256)] ++ [BitVec.ofNat 8 index] ++ [BitVec.ofNat 8 count] ++ part) := Lib.hid rfl
  have hbl : (([] : List B8) ++ [214#8] ++ [1#8] ++ beTo id 8 8 ++ [BitVec.ofNat 8 (total / 256), BitVec.ofNat 8 (total % 256)] ++ [BitVec.ofNat 8 index] ++ [BitVec.ofNat 8 count] ++ part).length ≤ 1020 := by simp [beTo_len]; omega
  generalize ([] : List B8) ++ [214#8] ++ [1#8] ++ beTo id 8 8 ++ [BitVec.ofNat 8 (total / 256), BitVec.ofNat 8 (total % 256)] ++ [BitVec.ofNat 8 index] ++ [BitVec.ofNat 8 count] ++ part = out at *
  have HBL := Lib.hid hbl
  have HW8 := Lib.hid hw8
  have HS8 := Lib.hid (HS7.out.trans hs8)
  clear hw8 hs8 f70 f71 f72 f73 f74 hbl
  go_wp2_with fail
  refine (wOut_calls w8 F8 _ true _ HW8.out).mono ?_
  rintro e w9 (⟨hno, _⟩ | ⟨_, g, rfl, ho9, hg9, hs9⟩)
  · exact absurd rfl hno
  have HW9 := Lib.hid (HW8.out.st hs9 (Dj.no _))
  have HS9 := Lib.hid (HS8.out.trans (hs9.wide (F' := F8) (G' := F8) (fun _ h => h.elim) (fun _ h => .inl h)))
  have HCR := Lib.hid (crc_calls (some ⟨g, 0, none⟩) out.length out (by unfold maxLen; have := HBL.out; omega) w9 ho9.bs)
  clear ho9 hg9 hs9
  go_wp2_with (go_at_call 85; refine HCR.out.mono ?_; rintro e w10 ⟨rfl, rfl⟩)
  refine (wU32_calls (crcB out) w9 F8 _ true _ HW9.out).mono ?_
  rintro e w10 ⟨rfl, F10, hw10, hs10⟩
  rw [put_fit (by rw [beTo_len]; have := HBL.out; omega)] at hw10
  have HW10 := Lib.hid hw10
  have HS10 := Lib.hid (HS9.out.trans hs10)
  have HSL : Hid (sealB out = out ++ beTo ((crcB out).setWidth 64) 4 4) := Lib.hid rfl
  rw [← HSL.out, ← HDG.out] at HW10
  clear hw10 hs10 HSL
  generalize dgram ⟨id, index, count, total, part⟩ = dg at *
  go_wp2_with fail
  refine (wOut_calls w10 F10 _ true _ HW10.out).mono ?_
  rintro e w11 (⟨hno, _⟩ | ⟨_, g2, rfl, ho11, hg11, hs11⟩)
  · exact absurd rfl hno
  have HO11 := Lib.hid ho11
  have HG11 := Lib.hid hg11
  have HS11 := Lib.hid hs11
  clear ho11 hg11 hs11
  go_wp2
  go_ret2
  exact ⟨g2, rfl, HO11.out, Nat.le_trans (Nat.le_of_lt HSZ.out) (Nat.le_trans HS10.out.size HG11.out), HST.out.trans ((HS10.out.drop (fun _ h => h.elim)).trans (HS11.out.drop (fun _ h => h.elim)))⟩
end Go.Proofs.Ytoeafacamapofaa
namespace Go.Proofs.Ytoeafacamapofaa
open Go.RowKit
set_option linter.unusedVariables false
set_option linter.unusedSimpArgs false

theorem Bs.drop4 {w : World} {a : Option Addr} {xs : List B8} (h : Bs w a xs) (n : Nat) : Bs w (a.map (fun x => x.add n)) (xs.drop n) := Bs.drop h n
set_option maxRecDepth 100000 in
set_option maxHeartbeats 2000000 in
theorem split_calls (a : Option Addr) (c : Nat) (xs : List B8) (hl : xs.length ≤ 140737488351232) (hlc : xs.length ≤ c) (hcm : c ≤ maxLen) (hac : a = none → c = 0) (id : BitVec 64) (mtu : Int) (w : World) (ha : Bs w a xs) :
    Calls Try.prog 33 #[.slice a xs.length c, .int .u64 (id.toNat : Int), .int .i64 mtu] w (GOut w (splitB xs id mtu) (splitE xs.length mtu)) := by
  have HSE : Hid (splitE xs.length mtu = if mtu < 64 ∨ 1024 < mtu then 40 else if xs.length = 0 ∨ 4096 < xs.length then 41 else 0) := Lib.hid rfl
  have HSB : Hid (splitB xs id mtu = if splitE xs.length mtu = 0 then splitL xs id (countN xs.length mtu.toNat) else []) := Lib.hid rfl
  have HAC := Lib.hid hac
  generalize splitE xs.length mtu = er at *
  unfold maxLen at hcm
  clear hac
  by_cases h1 : mtu < 64
  · rw [if_pos (.inl h1)] at HSE
    rw [HSE.out, if_neg (by decide)] at HSB
    have hd1 : decide (mtu < 64) = true := decide_eq_true h1
    clear ha
    go_enter Try.func33, Try.ntmps33
    go_wp2
    go_ret2
    exact GOut.nil HSB.out (by rw [HSE.out]; rfl) (St.refl _ _)
  by_cases h2 : 1024 < mtu
  · rw [if_pos (.inr h2)] at HSE
    rw [HSE.out, if_neg (by decide)] at HSB
    have hd1 : decide (mtu < 64) = false := decide_eq_false h1
    have hd2 : decide (1024 < mtu) = true := decide_eq_true h2
    clear ha
    go_enter Try.func33, Try.ntmps33
    go_wp2
    go_ret2
    exact GOut.nil HSB.out (by rw [HSE.out]; rfl) (St.refl _ _)
  rw [if_neg (by omega)] at HSE
  have hd1 : decide (mtu < 64) = false := decide_eq_false h1
  have hd2 : decide (1024 < mtu) = false := decide_eq_false h2
  by_cases h3 : xs.length = 0
  · rw [if_pos (.inl h3)] at HSE
    rw [HSE.out, if_neg (by decide)] at HSB
    obtain rfl : xs = [] := List.eq_nil_of_length_eq_zero h3
    clear ha h3
    go_enter Try.func33, Try.ntmps33
    go_wp2
    go_ret2
    exact GOut.nil HSB.out (by rw [HSE.out]; rfl) (St.refl _ _)
  have hd3 : ((xs.length : Int) == 0) = false := beq_eq_false_iff_ne.2 (by omega)
  have hd3' : (xs.length == 0) = false := beq_eq_false_iff_ne.2 (by omega)
  by_cases h4 : 4096 < xs.length
  · rw [if_pos (.inr h4)] at HSE
    rw [HSE.out, if_neg (by decide)] at HSB
    have hd4 : decide (4096 < (xs.length : Int)) = true := decide_eq_true (by omega)
    clear ha h3
    go_enter Try.func33, Try.ntmps33
    go_wp2
    go_ret2
    exact GOut.nil HSB.out (by rw [HSE.out]; rfl) (St.refl _ _)
  rw [if_neg (by omega)] at HSE
  rw [HSE.out, if_pos rfl] at HSB
  obtain ⟨m, rfl⟩ : ∃ m : Nat, mtu = (m : Int) := ⟨mtu.toNat, by omega⟩
  rw [Int.toNat_natCast] at HSB
  have HFA := Lib.hid (split_facts (len := xs.length) (mtu := m) (by omega) (by omega) (by omega) (by omega))
  have hd4 : decide (4096 < (xs.length : Int)) = false := decide_eq_false (by omega)
  have hd6 : decide (4096 < xs.length) = false := decide_eq_false (by omega)
  have hcn : ((xs.length : Int) + ((m : Int) - 18) - 1) / ((m : Int) - 18) = (countN xs.length m : Int) := by
    unfold countN ceilN
    rw [Int.natCast_ediv, show ((xs.length + (m - 18) - 1 : Nat) : Int) = (xs.length : Int) + ((m : Int) - 18) - 1 by omega, show ((m - 18 : Nat) : Int) = (m : Int) - 18 by omega]
  have HA := Lib.hid ha
  have hl2 : xs.length ≤ 4096 := by omega
  have hm1 : 64 ≤ m := by omega
  have hm2 : m ≤ 1024 := by omega
  have hx1 : 1 ≤ xs.length := by omega
  clear ha h1 h2 h3 h4
  generalize hC : countN xs.length m = C at *
  have hC1 := HFA.out.1
  have hC2 := HFA.out.2.1
  have HPL : Hid (∀ k, (partB xs C k).length = min (sizeN xs.length C) (xs.length - k * sizeN xs.length C)) := Lib.hid (fun k => partB_len)
  have HPB : Hid (∀ k, partB xs C k = (xs.drop (k * sizeN xs.length C)).take (sizeN xs.length C)) := Lib.hid (fun k => rfl)
  have HSZ := Lib.hid (sizeOf_calls xs.length C (by omega) (by omega) (by omega))
  clear hC
  generalize hS : sizeN xs.length C = S at *
  clear hS
  have hS1 := HFA.out.2.2.1
  have hS2 := HFA.out.2.2.2.1
  go_enter Try.func33, Try.ntmps33
  go_wp2_with (go_at_call 70; refine (HSZ.out _).mono ?_; rintro e w1 ⟨rfl, rfl⟩)
  go_loopw [11, 12, 13, 14, 15] (fun V i _ _ _ wr => ∃ (k : Nat) (vs : List Value), k ≤ C ∧ i = .int .i64 k ∧ Hid (Grams wr V vs ((splitL xs id C).take k)) ∧ Hid (St No w (fpG V vs) wr)) (fun _ i _ _ _ _ => C - (intOf i).toNat)
  case atStart => exact ⟨0, [], by omega, rfl, Lib.hid (by rw [List.take_zero]; exact Grams.nil _), Lib.hid ((St.refl No _).drop (fun k hk => by rcases hk with hk | ⟨v, hv, _⟩ <;> simp [fpV, Value.ownBlock] at *))⟩
  case round =>
    obtain ⟨k, vs, hk, rfl, HG, HS⟩ := hrel
    by_cases hlt : k < C
    · have HSN := Lib.hid (splitL_take xs id C k hlt)
      have HTL : Hid (((splitL xs id C).take k).length ≤ 90) := Lib.hid (by rw [List.length_take]; omega)
      generalize (splitL xs id C).take k = pre at *
      have HB2 := Lib.hid (HA.out.st HS.out (Dj.no _))
      have hm3 : k * S ≤ (C - 1) * S := Nat.mul_le_mul_right _ (by omega)
      have hm4 : k * S < xs.length := Nat.lt_of_le_of_lt hm3 HFA.out.2.2.2.2.1
      have hw1 : IntKind.i64.wrap ((k : Int) * (S : Int)) = ((k * S : Nat) : Int) := by rw [← Int.natCast_mul, IntKind.wrap_i64]; omega
      have e2 : (k + 1) * S = k * S + S := Nat.succ_mul k S
      have hw2 : IntKind.i64.wrap (((k : Int) + 1) * (S : Int)) = ((k * S + S : Nat) : Int) := by rw [← e2, show (((k : Int) + 1) * (S : Int)) = (((k + 1) * S : Nat) : Int) by simp, IntKind.wrap_i64]; omega
      have hpl := HPL.out k
      have hpb := HPB.out k
      generalize hst : k * S = st at *
      have HBP : Hid (Bs wr (a.map (fun x => x.add st)) (partB xs C k)) := Lib.hid (by rw [hpb]; exact (HB2.out.drop4 st).take _)
      clear hpb hm3 e2 hst
      have hpl7 : (partB xs C k).length ≤ 1006 := by omega
      have HSE0 : Hid (∀ c', (a.map (fun x => x.add st) = none → c' = 0) → Calls Try.prog 71 #[.agg #[.int .u64 (id.toNat : Int), .int .i64 (k : Int), .int .i64 (C : Int), .int .i64 (xs.length : Int), .slice (a.map (fun x => x.add st)) (partB xs C k).length c']] wr (DOut wr (dgram (fragB xs id C k)))) :=
        Lib.hid (fun c' h => seal_calls (fragB xs id C k) _ c' h hpl7 (by show k ≤ 255; omega) (by show C ≤ 255; omega) (by show xs.length ≤ 65535; omega) wr HBP.out)
      clear hpl7
      by_cases hle : xs.length ≤ st + S
      · have hmin : min (xs.length : Int) ((st + S : Nat) : Int) = (xs.length : Int) := by omega
        have hpl2 : (partB xs C k).length = xs.length - st := by omega
        rw [hpl2] at HSE0
        have HSEAL := HSE0
        clear hpl hpl2 HSE0
        go_wp2_with fail
        refine (HSEAL.out _ (fun h => by rw [HAC.out (by cases a with | none => rfl | some x => cases h)]; omega)).mono ?_
        rintro e w2 ⟨g2, rfl, ho2, hg2, hs2⟩
        generalize hn2 : (dgram (fragB xs id C k)).length = n2 at ho2
        have HO2 := Lib.hid ho2
        have HS2 : Hid (St No wr (fpV (.slice (some ⟨g2, 0, none⟩) n2 n2)) w2) := Lib.hid (hs2.toNew.drop (fun j hj => .inr (by simp [fpV, Value.ownBlock] at hj; show wr.heap.size ≤ j; omega)))
        have HG2 := Lib.hid (HG.out.st hs2 (Dj.no _))
        have HDJ : Hid (Dj (fpV (.slice (some ⟨g2, 0, none⟩) n2 n2)) (fpG u11 vs)) := Lib.hid (HG.out.in.dj_new HS2.out)
        clear ho2 hs2 hg2 hn2
        go_wp2_with (at_builtin; refine wpList_appG rfl (.tmp 74) (.tmp 76) rfl _ vs pre rfl (HG2.out.st (St.alloc' No _ _) (Dj.no _)) _ (.slice (some ⟨g2, 0, none⟩) n2 n2) _ rfl (ob_one4 _) (HO2.out.newB _) HDJ.out (by have := HTL.out; omega) ?_; intro V3 w3 hg3 hs3; have HG3 := Lib.hid hg3; have HS3 := Lib.hid hs3; clear hg3 hs3)
        go_roundw
        case rel => exact ⟨k + 1, vs ++ [.slice (some ⟨g2, 0, none⟩) n2 n2], by omega, by go_num, Lib.hid (by rw [HSN.out]; exact HG3.out), Lib.hid (HS.out.trans (fpG_app (St.refl No _) (HS2.out.trans (St.alloc' (fpV (.slice (some ⟨g2, 0, none⟩) n2 n2)) _ _)) HS3.out))⟩
        case measure => simp [intOf]; omega
      · have hmin : min (xs.length : Int) ((st + S : Nat) : Int) = ((st + S : Nat) : Int) := by omega
        have hpl2 : (partB xs C k).length = S := by omega
        rw [hpl2] at HSE0
        have HSEAL := HSE0
        clear hpl hpl2 HSE0
        go_wp2_with fail
        refine (HSEAL.out _ (fun h => by rw [HAC.out (by cases a with | none => rfl | some x => cases h)]; omega)).mono ?_
        rintro e w2 ⟨g2, rfl, ho2, hg2, hs2⟩
        generalize hn2 : (dgram (fragB xs id C k)).length = n2 at ho2
        have HO2 := Lib.hid ho2
        have HS2 : Hid (St No wr (fpV (.slice (some ⟨g2, 0, none⟩) n2 n2)) w2) := Lib.hid (hs2.toNew.drop (fun j hj => .inr (by simp [fpV, Value.ownBlock] at hj; show wr.heap.size ≤ j; omega)))
        have HG2 := Lib.hid (HG.out.st hs2 (Dj.no _))
        have HDJ : Hid (Dj (fpV (.slice (some ⟨g2, 0, none⟩) n2 n2)) (fpG u11 vs)) := Lib.hid (HG.out.in.dj_new HS2.out)
        clear ho2 hs2 hg2 hn2
        go_wp2_with (at_builtin; refine wpList_appG rfl (.tmp 74) (.tmp 76) rfl _ vs pre rfl (HG2.out.st (St.alloc' No _ _) (Dj.no _)) _ (.slice (some ⟨g2, 0, none⟩) n2 n2) _ rfl (ob_one4 _) (HO2.out.newB _) HDJ.out (by have := HTL.out; omega) ?_; intro V3 w3 hg3 hs3; have HG3 := Lib.hid hg3; have HS3 := Lib.hid hs3; clear hg3 hs3)
        go_roundw
        case rel => exact ⟨k + 1, vs ++ [.slice (some ⟨g2, 0, none⟩) n2 n2], by omega, by go_num, Lib.hid (by rw [HSN.out]; exact HG3.out), Lib.hid (HS.out.trans (fpG_app (St.refl No _) (HS2.out.trans (St.alloc' (fpV (.slice (some ⟨g2, 0, none⟩) n2 n2)) _ _)) HS3.out))⟩
        case measure => simp [intOf]; omega
    · obtain rfl : k = C := by omega
      have hg := HG.out
      rw [List.take_of_length_le (by rw [splitL_len]; exact Nat.le_refl _)] at hg
      have HG1 := Lib.hid hg
      clear hg HG
      go_wp2
      go_ret2
      exact ⟨_, vs, by rw [HSE.out]; rfl, by rw [HSB.out]; exact HG1.out, HS.out⟩
end Go.Proofs.Ytoeafacamapofaa
