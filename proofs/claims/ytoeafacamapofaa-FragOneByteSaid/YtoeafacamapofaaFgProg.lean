
/-
  The walks over the program's fragments: sizeOf, seal, Split.
-/
import Derived.Test.YtoeafacamapofaaFgGrams
import Derived.Test.YtoeafacamapofaaCwBase
namespace Go.Proofs.Ytoeafacamapofaa
open Go.RowKit
set_option linter.unusedVariables false
set_option linter.unusedSimpArgs false

set_option maxRecDepth 100000 in
theorem sizeOf_calls (total count : Nat) (h1 : 1 ≤ count) (h2 : count ≤ 4294967296) (h3 : total ≤ 4294967296) (w : World) :
    Calls Try.prog 70 #[.int .i64 total, .int .i64 count] w fun e w' => e = .returned (.int .i64 (sizeN total count : Int)) ∧ w = w' := by
  have HE : Hid (((total : Int) + (count : Int) - 1) / (count : Int) = (sizeN total count : Int)) := Lib.hid (by unfold sizeN ceilN; rw [Int.natCast_ediv]; congr 1; omega)
  have hz : ¬ (count : Int) = 0 := by omega
  have hb : ((count : Int) == 0) = false := beq_eq_false_iff_ne.2 hz
  have hle : ((total : Int) + (count : Int) - 1) / (count : Int) ≤ 4294967296 * 2 := by
    have h := Int.ediv_le_self (a := (total : Int) + (count : Int) - 1) (count : Int) (by omega)
    omega
  have hge : 0 ≤ ((total : Int) + (count : Int) - 1) / (count : Int) := Int.ediv_nonneg (by omega) (by omega)
  clear hz
  go_enter Try.func70, Try.ntmps70
  go_wp2
  go_ret
  exact ⟨ret_int HE.out, rfl⟩

theorem put_fit {lim : Int} {o bs : List B8} (h : ((o.length + bs.length : Nat) : Int) ≤ lim) : putT true ⟨lim, o, 0⟩ bs = ⟨lim, o ++ bs, 0⟩ := by
  unfold putT WS.put
  rw [if_pos rfl, if_pos rfl, if_neg (by simp only; omega)]
theorem Bs.apart {w : World} {a : Option Addr} {bs : List B8} {F : Nat → Prop} (h : Bs w a bs) (hF : ∀ k, F k → w.heap.size ≤ k) : Apart F a bs := by
  cases bs with
  | nil => exact .inl rfl
  | cons b l =>
    right
    obtain ⟨x, rfl, hc⟩ := h.at 0 (by simp)
    have := World.block_lt_of_cell? w _ hc
    rw [addr_block] at this
    rintro k hk ⟨y, hy, rfl⟩
    cases hy
    exact absurd this (Nat.not_lt.2 (hF _ hk))
theorem St.newOf {F : Nat → Prop} {w w' : World} (s : St No w F w') : ∀ k, F k → w.heap.size ≤ k := fun k hk => (s.new k hk).elim (fun h => h.elim) id
theorem beTo_u8 (x : B8) : beTo (x.setWidth 64) 1 1 = [x] := by
  show [(x.setWidth 64 >>> (8 * (1 - 1 - 0))).setWidth 8] = [x]
  congr 1
  apply BitVec.eq_of_toNat_eq
  have := x.isLt
  rw [BitVec.toNat_setWidth, BitVec.toNat_ushiftRight, BitVec.toNat_setWidth, Nat.shiftRight_eq_div_pow]
  simp
  omega
theorem beTo_u16 (n : Nat) (h : n ≤ 65535) : beTo ((BitVec.ofNat 16 n).setWidth 64) 2 2 = [BitVec.ofNat 8 (n / 256), BitVec.ofNat 8 (n % 256)] := by
  show [((BitVec.ofNat 16 n).setWidth 64 >>> 8).setWidth 8, ((BitVec.ofNat 16 n).setWidth 64 >>> 0).setWidth 8] = _
  have e : (BitVec.setWidth 64 (BitVec.ofNat 16 n)).toNat = n := by
    rw [BitVec.toNat_setWidth, BitVec.toNat_ofNat]; omega
  congr 1
  · apply BitVec.eq_of_toNat_eq
    rw [BitVec.toNat_setWidth, BitVec.toNat_ushiftRight, e, BitVec.toNat_ofNat, Nat.shiftRight_eq_div_pow]
  · congr 1
    apply BitVec.eq_of_toNat_eq
    rw [BitVec.toNat_setWidth, BitVec.toNat_ushiftRight, e, BitVec.toNat_ofNat, Nat.shiftRight_eq_div_pow]
    omega

/-- a datagram in new memory -/
def DOut (w : World) (bs : List B8) (e : Ending) (w' : World) : Prop :=
  ∃ g, e = .returned (.tuple #[.slice (some ⟨g, 0, none⟩) bs.length bs.length, .int .i64 0]) ∧ OwB w' (.slice (some ⟨g, 0, none⟩) bs.length bs.length) bs ∧ w.heap.size ≤ g ∧ St No w No w'
set_option maxRecDepth 100000 in
set_option maxHeartbeats 2000000 in
theorem seal_calls (f : Fg) (a : Option Addr) (c : Nat) (hac : a = none → c = 0) (hp : f.part.length ≤ 1006) (hi : f.index ≤ 255) (hc : f.count ≤ 255) (ht : f.total ≤ 65535) (w : World) (ha : Bs w a f.part) :
    Calls Try.prog 71 #[.agg (f.cells a c)] w (DOut w (dgram f)) := by
  obtain ⟨id, index, count, total, part⟩ := f
  simp only at hp hi hc ht ha
  have HDG : Hid (dgram ⟨id, index, count, total, part⟩ = sealB ([] ++ [214#8] ++ [1#8] ++ beTo id 8 8 ++ [BitVec.ofNat 8 (total / 256), BitVec.ofNat 8 (total % 256)] ++ [BitVec.ofNat 8 index] ++ [BitVec.ofNat 8 count] ++ part)) := Lib.hid (by
    unfold dgram headF
    simp only [List.append_assoc, List.cons_append, List.nil_append])
  have HST : Hid (St No w No (w.alloc (.cells (Fg.cells ⟨id, index, count, total, part⟩ a c) 70))) := Lib.hid (St.alloc' No w _)
  have HB : Hid (Bs (w.alloc (.cells (Fg.cells ⟨id, index, count, total, part⟩ a c) 70)) a part) := Lib.hid (ha.st (St.alloc' No w _) (Dj.no _))
  have HOB : Hid (Ob (w.alloc (.cells (Fg.cells ⟨id, index, count, total, part⟩ a c) 70)) w.heap.size 70 (Fg.cells ⟨id, index, count, total, part⟩ a c)) := Lib.hid (Ob.alloc w _ _)
  unfold Fg.cells at *
  simp only at *
  have HAC := Lib.hid hac
  have HSZ : Hid (w.heap.size < (w.alloc (.cells #[.int .u64 (id.toNat : Int), .int .i64 (index : Int), .int .i64 (count : Int), .int .i64 (total : Int), .slice a part.length c] 70)).heap.size) := Lib.hid (by simp)
  clear ha hac
  go_enter Try.func71, Try.ntmps71
  go_wp2_with fail
  generalize w.alloc (.cells #[.int .u64 (id.toNat : Int), .int .i64 (index : Int), .int .i64 (count : Int), .int .i64 (total : Int), .slice a part.length c] 70) = w0 at *
  have KF : Hid (∀ w' F', St No w0 F' w' → w'.cell? ⟨w.heap.size, 0, none⟩ = some (.int .u64 (id.toNat : Int)) ∧ w'.cell? ⟨w.heap.size, 1, none⟩ = some (.int .i64 (index : Int)) ∧ w'.cell? ⟨w.heap.size, 2, none⟩ = some (.int .i64 (count : Int)) ∧ w'.cell? ⟨w.heap.size, 3, none⟩ = some (.int .i64 (total : Int)) ∧ w'.cell? ⟨w.heap.size, 4, none⟩ = some (.slice a part.length c)) := Lib.hid (fun w' F' s => by
    have hob := HOB.out.move (s.block _ HOB.out.lt (fun h => h))
    exact ⟨by rw [hob.cell 0]; rfl, by rw [hob.cell 1]; rfl, by rw [hob.cell 2]; rfl, by rw [hob.cell 3]; rfl, by rw [hob.cell 4]; rfl⟩)
  refine (newWriter_calls 1024 w0).mono ?_
  rintro e w1 (⟨hno, _⟩ | ⟨_, p, F1, rfl, hw1, hs1⟩)
  · exact absurd hno (by decide)
  have HW1 : Hid (Wh w1 F1 (.pointer (some ⟨p, 0, none⟩)) true ⟨1024, [], 0⟩) := Lib.hid (.inr ⟨rfl, ⟨by simp, by simp, by simp⟩, p, rfl, hw1⟩)
  have HS1 := Lib.hid hs1
  obtain ⟨f10, f11, f12, f13, f14⟩ := KF.out w1 _ hs1
  clear hw1 hs1
  go_wp2_with fail
  refine (wU8_calls 214#8 w1 F1 _ true _ HW1.out).mono ?_
  rintro e w2 ⟨rfl, F2, hw2, hs2⟩
  rw [put_fit (by rw [beTo_len]; simp), beTo_u8] at hw2
  have HW2 := Lib.hid hw2
  have HS2 := Lib.hid (HS1.out.trans hs2)
  clear hw2 hs2 f10 f11 f12 f13 f14
  go_wp2_with fail
  refine (wU8_calls 1#8 w2 F2 _ true _ HW2.out).mono ?_
  rintro e w3 ⟨rfl, F3, hw3, hs3⟩
  rw [put_fit (by rw [beTo_len]; simp), beTo_u8] at hw3
  have HW3 := Lib.hid hw3
  have HS3 := Lib.hid (HS2.out.trans hs3)
  obtain ⟨f30, f31, f32, f33, f34⟩ := KF.out w3 _ HS3.out
  clear hw3 hs3
  go_wp2_with fail
  refine (wU64_calls id w3 F3 _ true _ HW3.out).mono ?_
  rintro e w4 ⟨rfl, F4, hw4, hs4⟩
  rw [put_fit (by rw [beTo_len]; simp)] at hw4
  have HW4 := Lib.hid hw4
  have HS4 := Lib.hid (HS3.out.trans hs4)
  obtain ⟨f40, f41, f42, f43, f44⟩ := KF.out w4 _ HS4.out
  have q1 : (total : Int) = ((BitVec.ofNat 16 total).toNat : Int) := by rw [BitVec.toNat_ofNat, Nat.mod_eq_of_lt (by omega)]
  have Q1 := Lib.hid q1
  clear hw4 hs4 f30 f31 f32 f33 f34 q1
  go_wp2_with fail
  rw [Q1.out]
  refine (wU16_calls (BitVec.ofNat 16 total) w4 F4 _ true _ HW4.out).mono ?_
  rintro e w5 ⟨rfl, F5, hw5, hs5⟩
  rw [put_fit (by simp [beTo_len]), beTo_u16 total ht] at hw5
  have HW5 := Lib.hid hw5
  have HS5 := Lib.hid (HS4.out.trans hs5)
  obtain ⟨f50, f51, f52, f53, f54⟩ := KF.out w5 _ HS5.out
  have q3 : (index : Int) = ((BitVec.ofNat 8 index).toNat : Int) := by rw [BitVec.toNat_ofNat, Nat.mod_eq_of_lt (by omega)]
  have q4 : (count : Int) = ((BitVec.ofNat 8 count).toNat : Int) := by rw [BitVec.toNat_ofNat, Nat.mod_eq_of_lt (by omega)]
  have Q3 := Lib.hid q3
  have Q4 := Lib.hid q4
  clear hw5 hs5 f40 f41 f42 f43 f44 q3 q4
  go_wp2_with fail
  rw [Q3.out]
  refine (wU8_calls (BitVec.ofNat 8 index) w5 F5 _ true _ HW5.out).mono ?_
  rintro e w6 ⟨rfl, F6, hw6, hs6⟩
  rw [put_fit (by simp [beTo_len]), beTo_u8] at hw6
  have HW6 := Lib.hid hw6
  have HS6 := Lib.hid (HS5.out.trans hs6)
  obtain ⟨f60, f61, f62, f63, f64⟩ := KF.out w6 _ HS6.out
  clear hw6 hs6 f50 f51 f52 f53 f54
  go_wp2_with fail
  rw [Q4.out]
  refine (wU8_calls (BitVec.ofNat 8 count) w6 F6 _ true _ HW6.out).mono ?_
  rintro e w7 ⟨rfl, F7, hw7, hs7⟩
  rw [put_fit (by simp [beTo_len]), beTo_u8] at hw7
  have HW7 := Lib.hid hw7
  have HS7 := Lib.hid (HS6.out.trans hs7)
  obtain ⟨f70, f71, f72, f73, f74⟩ := KF.out w7 _ HS7.out
  clear hw7 hs7 f60 f61 f62 f63 f64
  go_wp2_with fail
  refine (raw_h a c part HAC.out w7 F7 _ true _ HW7.out (HB.out.st HS7.out (Dj.no _)) (HB.out.apart HS7.out.newOf)).mono ?_
  rintro e w8 ⟨rfl, F8, hw8, hs8⟩
  rw [put_fit (by simp [beTo_len]; omega)] at hw8
  have HHD : Hid (([] : List B8) ++ [214#8] ++ [1#8] ++ beTo id 8 8 ++ [BitVec.ofNat 8 (total / 256), BitVec.ofNat 8 (total % 256)] ++ [BitVec.ofNat 8 index] ++ [BitVec.ofNat 8 count] ++ part = [] ++ [214#8] ++ [1#8] ++ beTo id 8 8 ++ [BitVec.ofNat 8 (total / 256), BitVec.ofNat 8 (total % 256)] ++ [BitVec.ofNat 8 index] ++ [BitVec.ofNat 8 count] ++ part) := Lib.hid rfl
  have hbl : (([] : List B8) ++ [214#8] ++ [1#8] ++ beTo id 8 8 ++ [BitVec.ofNat 8 (total / 256), BitVec.ofNat 8 (total % 256)] ++ [BitVec.ofNat 8 index] ++ [BitVec.ofNat 8 count] ++ part).length ≤ 1020 := by simp [beTo_len]; omega
  generalize ([] : List B8) ++ [214#8] ++ [1#8] ++ beTo id 8 8 ++ [BitVec.ofNat 8 (total / 256), BitVec.ofNat 8 (total % 256)] ++ [BitVec.ofNat 8 index] ++ [BitVec.ofNat 8 count] ++ part = out at *
  have HBL := Lib.hid hbl
  have HW8 := Lib.hid hw8
  have HS8 := Lib.hid (HS7.out.trans hs8)
  clear hw8 hs8 f70 f71 f72 f73 f74 hbl
  go_wp2_with fail
  refine (wOut_calls w8 F8 _ true _ HW8.out).mono ?_
  rintro e w9 (⟨hno, _⟩ | ⟨_, g, rfl, ho9, hg9, hs9⟩)
  · exact absurd rfl hno
  have HW9 := Lib.hid (HW8.out.st hs9 (Dj.no _))
  have HS9 := Lib.hid (HS8.out.trans (hs9.wide (F' := F8) (G' := F8) (fun _ h => h.elim) (fun _ h => .inl h)))
  have HCR := Lib.hid (crc_calls (some ⟨g, 0, none⟩) out.length out (by unfold maxLen; have := HBL.out; omega) w9 ho9.bs)
  clear ho9 hg9 hs9
  go_wp2_with (go_at_call 85; refine HCR.out.mono ?_; rintro e w10 ⟨rfl, rfl⟩)
  refine (wU32_calls (crcB out) w9 F8 _ true _ HW9.out).mono ?_
  rintro e w10 ⟨rfl, F10, hw10, hs10⟩
  rw [put_fit (by rw [beTo_len]; have := HBL.out; omega)] at hw10
  have HW10 := Lib.hid hw10
  have HS10 := Lib.hid (HS9.out.trans hs10)
  have HSL : Hid (sealB out = out ++ beTo ((crcB out).setWidth 64) 4 4) := Lib.hid rfl
  rw [← HSL.out, ← HDG.out] at HW10
  clear hw10 hs10 HSL
  generalize dgram ⟨id, index, count, total, part⟩ = dg at *
  go_wp2_with fail
  refine (wOut_calls w10 F10 _ true _ HW10.out).mono ?_
  rintro e w11 (⟨hno, _⟩ | ⟨_, g2, rfl, ho11, hg11, hs11⟩)
  · exact absurd rfl hno
  have HO11 := Lib.hid ho11
  have HG11 := Lib.hid hg11
  have HS11 := Lib.hid hs11
  clear ho11 hg11 hs11
  go_wp2
  go_ret2
  exact ⟨g2, rfl, HO11.out, Nat.le_trans (Nat.le_of_lt HSZ.out) (Nat.le_trans HS10.out.size HG11.out), HST.out.trans ((HS10.out.drop (fun _ h => h.elim)).trans (HS11.out.drop (fun _ h => h.elim)))⟩
end Go.Proofs.Ytoeafacamapofaa
