
/-
  The walk over the reference's Look: the shape, and the part.
-/
import Derived.Test.YtoeafacamapofaaFgLookR
namespace Go.Proofs.Ytoeafacamapofaa
open Go.RowKit
set_option linter.unusedVariables false
set_option linter.unusedSimpArgs false

set_option maxRecDepth 100000 in
set_option maxHeartbeats 2000000 in
theorem refLook_rest (y : Addr) (c : Nat) (d : List B8) (h1 : ¬ d.length < 19) (h2 : ¬ 1024 < d.length) (hlc : d.length ≤ c) (hcm : c ≤ 9223372036854775807) (w : World) (ha : Bs w (some y) d) (h3 : d[0]? = some 214#8) (h4 : d[1]? = some 1#8) (hq :  (crcB (d.take (d.length - 4))).setWidth 64 = numB ((d.drop (d.length - 4)).take 4)) (hp :  (1 ≤ (readF d).total ∧ (readF d).total ≤ 4096 ∧ 1 ≤ (readF d).count ∧ (readF d).count ≤ 128 ∧ (readF d).index < (readF d).count)) :
    Calls Try.prog 47 #[.slice (some y) d.length c] w (FOut w (lookF d) (lookE d)) := by
  have hu := Try.underlying73
  have g1 : decide ((d.length : Int) < 19) = false := decide_eq_false (by omega)
  have g2 : decide (d.length < 19) = false := decide_eq_false (by omega)
  have g3 : decide (1024 < (d.length : Int)) = false := decide_eq_false (by omega)
  have g4 : decide (1024 < d.length) = false := decide_eq_false (by omega)
  have HA1 := Lib.hid (ha.st (St.alloc' No w (.cells #[.int .u64 0, .int .i64 0, .int .i64 0, .int .i64 0, .slice none 0 0] 73)) (Dj.no _))
  have e0 : d[0]'(by omega) = 214#8 := by rw [List.getElem?_eq_getElem (by omega)] at h3; exact Option.some.inj h3
  have e1 : d[1]'(by omega) = 1#8 := by rw [List.getElem?_eq_getElem (by omega)] at h4; exact Option.some.inj h4
  have hc1 := HA1.out.lit 0 (by omega)
  have hc0 := HA1.out.lit0 (by omega)
  simp only [Nat.zero_add] at hc1
  rw [e0] at hc0
  rw [e1] at hc1
  replace hc0 : (w.alloc (.cells #[.int .u64 0, .int .i64 0, .int .i64 0, .int .i64 0, .slice none 0 0] 73)).cell? y = some (.int .u8 214) := hc0
  replace hc1 : (w.alloc (.cells #[.int .u64 0, .int .i64 0, .int .i64 0, .int .i64 0, .slice none 0 0] 73)).cell? ⟨y.block, y.off + 1, none⟩ = some (.int .u8 1) := hc1
  have HA0 := Lib.hid ha
  clear e0 e1 ha
  have HE : Hid (lookE d = if min (sizeN (readF d).total (readF d).count) ((readF d).total - ((readF d).count - 1) * sizeN (readF d).total (readF d).count) ≠ 0 ∧ min (sizeN (readF d).total (readF d).count) ((readF d).total - (readF d).index * sizeN (readF d).total (readF d).count) = d.length - 18 then 0 else 42) := Lib.hid (by
    unfold lookE
    rw [h3, h4, if_neg (by simp; omega), if_neg (by simp [hq])]
    by_cases hs : shapedN (readF d).total (readF d).count (readF d).index (d.length - 18)
    · rw [if_pos hs, if_pos ((shaped_cut hp).1 hs)]
    · rw [if_neg hs, if_neg (fun h => hs ((shaped_cut hp).2 h))])
  have HF : Hid (lookF d = if lookE d = 0 then readF d else noF) := Lib.hid rfl
  rw [readF_eq (by omega)] at hp HE HF
  simp only at hp HE
  clear h3 h4 
  go_enter Try.func47, Try.ntmps47
  go_wp2_with fail
  have HO0 : Hid (Ob (w.alloc (.cells #[.int .u64 0, .int .i64 0, .int .i64 0, .int .i64 0, .slice none 0 0] 73)) w.heap.size 73 #[.int .u64 0, .int .i64 0, .int .i64 0, .int .i64 0, .slice none 0 0]) := Lib.hid (Ob.alloc w _ _)
  have HS0 : Hid (St No w No (w.alloc (.cells #[.int .u64 0, .int .i64 0, .int .i64 0, .int .i64 0, .slice none 0 0] 73))) := Lib.hid (St.alloc' No w _)
  have hcA := HA1.out.lit 9 (by omega)
  have hcB := HA1.out.lit 10 (by omega)
  have hcC := HA1.out.lit 11 (by omega)
  have hcD := HA1.out.lit 12 (by omega)
  simp only [Nat.reduceAdd] at hcA hcB hcC hcD
  have HW0 : Hid (w.heap.size < (w.alloc (.cells #[.int .u64 0, .int .i64 0, .int .i64 0, .int .i64 0, .slice none 0 0] 73)).heap.size) := Lib.hid (by simp)
  have HWS : Hid (∀ k, w.heap.size ≤ k → Nw w k) := Lib.hid (fun k h => h)
  generalize (w.alloc (.cells #[.int .u64 0, .int .i64 0, .int .i64 0, .int .i64 0, .slice none 0 0] 73)) = w0 at *
  have HR0 : Hid (Nw w w.heap.size) := Lib.hid (Nat.le_refl _)
  generalize w.heap.size = r0 at *
  have q0 : w0.cell? ⟨r0, 0, none⟩ = some (.int .u64 0) := by rw [HO0.out.cell 0]; rfl
  have q1 : w0.cell? ⟨r0, 1, none⟩ = some (.int .i64 0) := by rw [HO0.out.cell 1]; rfl
  have q2 : w0.cell? ⟨r0, 2, none⟩ = some (.int .i64 0) := by rw [HO0.out.cell 2]; rfl
  have q3 : w0.cell? ⟨r0, 3, none⟩ = some (.int .i64 0) := by rw [HO0.out.cell 3]; rfl
  have q4 : w0.cell? ⟨r0, 4, none⟩ = some (.slice none 0 0) := by rw [HO0.out.cell 4]; rfl
  have p0 := HO0.out.free 0
  have p1 := HO0.out.free 1
  have p2 := HO0.out.free 2
  have p3 := HO0.out.free 3
  have p4 := HO0.out.free 4
  have hyb : y.block < w0.heap.size := World.block_lt_of_cell? w0 _ hc0
  have hyn : y.block ≠ w0.heap.size := Nat.ne_of_lt hyb
  have hrb : r0 < w0.heap.size := HO0.out.lt
  have hrn : r0 ≠ w0.heap.size := Nat.ne_of_lt hrb
  have i10 : (10 : Int) < (d.length : Int) := by omega
  have i11 : (11 : Int) < (d.length : Int) := by omega
  have i12 : (12 : Int) < (d.length : Int) := by omega
  have i13 : (13 : Int) < (d.length : Int) := by omega
  have HCR : Hid (Calls Try.prog 88 #[.slice (some y) (d.length - 4) c] w0 fun e w' => e = .returned (.int .u32 ((crcB (d.take (d.length - 4))).toNat : Int)) ∧ w0 = w') := Lib.hid (by
    have e := crc4_calls (some y) c (d.take (d.length - 4)) (by rw [List.length_take]; omega) w0 (HA1.out.take _)
    rw [List.length_take, Nat.min_eq_left (by omega)] at e
    exact e)
  have HN1 : Hid (Calls Try.prog 89 #[.slice (some y) d.length c, .int .i64 ((d.length : Int) - 4), .int .i64 4] w0 fun e w' => e = .returned (.int .u64 ((numB ((d.drop (d.length - 4)).take 4)).toNat : Int)) ∧ w0 = w') := Lib.hid (by
    have e := number4_calls (some y) c d (by omega) (d.length - 4) 4 (by omega) w0 HA1.out
    rw [show ((d.length - 4 : Nat) : Int) = (d.length : Int) - 4 by omega] at e
    exact e)
  have HN2 : Hid (Calls Try.prog 89 #[.slice (some y) d.length c, .int .i64 2, .int .i64 8] w0 fun e w' => e = .returned (.int .u64 ((numB ((d.drop 2).take 8)).toNat : Int)) ∧ w0 = w') := Lib.hid (number4_calls (some y) c d (by omega) 2 8 (by omega) w0 HA1.out)
  generalize crcB (d.take (d.length - 4)) = cr at *
  generalize numB ((d.drop (d.length - 4)).take 4) = nb at *
  generalize numB ((d.drop 2).take 8) = id at *
  generalize (d[12]'(by omega)) = bC at *
  generalize (d[13]'(by omega)) = bD at *
  generalize (d[10]'(by omega)) = bA at *
  generalize (d[11]'(by omega)) = bB at *
  clear hc0 hc1
  have hcn : (((cr.toNat : Nat) : Int) == ((nb.toNat : Nat) : Int)) = decide (cr.setWidth 64 = nb) := by
    have e := int_eq_bv (cr.setWidth 64) nb
    rw [show ((cr.setWidth 64).toNat : Int) = (cr.toNat : Int) by rw [BitVec.toNat_setWidth, Nat.mod_eq_of_lt (by have := cr.isLt; omega)]] at e
    exact e
  have hcne : (((cr.toNat : Nat) : Int) != ((nb.toNat : Nat) : Int)) = false := by unfold bne; rw [hcn, decide_eq_true hq]; rfl
  have hcl := cr.isLt
  clear hcn hq
  refine HCR.out.mono ?_
  rintro e w1 ⟨rfl, rfl⟩
  go_wp2_with fail
  refine HN1.out.mono ?_
  rintro e w1 ⟨rfl, rfl⟩
  go_wp2_with fail
  refine HN2.out.mono ?_
  rintro e w1 ⟨rfl, rfl⟩
  go_wp2
  go_region
  have hAl := bA.isLt
  have hBl := bB.isLt
  have hCl := bC.isLt
  have hDl := bD.isLt
  obtain ⟨T, hT⟩ : ∃ T : Nat, T = bA.toNat * 256 + bB.toNat := ⟨_, rfl⟩
  rw [show 256 * (bA.toNat : Int) + (bB.toNat : Int) = (T : Int) by omega]
  rw [← hT] at hp HE HF
  clear hT hcA hcB hcC hcD hAl hBl
  generalize bC.toNat = I at *
  generalize bD.toNat = C at *
  obtain ⟨b1, b2, b3, b4, b5⟩ := hp
  have HO7 : Hid (Ob (w0.alloc (.cells #[.int .u64 (id.toNat : Int), .int .i64 (I : Int), .int .i64 (C : Int), .int .i64 (T : Int), .slice none 0 0] 73)).drew w0.heap.size 73 #[.int .u64 (id.toNat : Int), .int .i64 (I : Int), .int .i64 (C : Int), .int .i64 (T : Int), .slice none 0 0]) := Lib.hid (Ob.alloc w0 _ _)
  have HO01 : Hid (Ob (w0.alloc (.cells #[.int .u64 (id.toNat : Int), .int .i64 (I : Int), .int .i64 (C : Int), .int .i64 (T : Int), .slice none 0 0] 73)).drew r0 73 #[.int .u64 0, .int .i64 0, .int .i64 0, .int .i64 0, .slice none 0 0]) := Lib.hid (HO0.out.new _)
  have HS1 : Hid (St No w0 No (w0.alloc (.cells #[.int .u64 (id.toNat : Int), .int .i64 (I : Int), .int .i64 (C : Int), .int .i64 (T : Int), .slice none 0 0] 73)).drew) := Lib.hid ((St.alloc' No w0 _).trans (St.drew No _))
  have HSZ : Hid (r0 < w0.heap.size) := Lib.hid hrb
  have HA2 := Lib.hid (HA1.out.st HS1.out (Dj.no _))
  generalize (w0.alloc (.cells #[.int .u64 (id.toNat : Int), .int .i64 (I : Int), .int .i64 (C : Int), .int .i64 (T : Int), .slice none 0 0] 73)).drew = w1 at *
  have HW1 : Hid (St No w No w1) := Lib.hid (HS0.out.trans HS1.out)
  have HP7 : Hid (Nw w w0.heap.size) := Lib.hid HS0.out.size
  clear q0 q1 q2 q3 q4 p0 p1 p2 p3 p4 hyb hyn hrb hrn HS1
  generalize w0.heap.size = p7 at *
  have KF : Hid (∀ w' F', St No w1 F' w' → w'.cell? ⟨p7, 0, none⟩ = some (.int .u64 (id.toNat : Int)) ∧ w'.cell? ⟨p7, 1, none⟩ = some (.int .i64 (I : Int)) ∧ w'.cell? ⟨p7, 2, none⟩ = some (.int .i64 (C : Int)) ∧ w'.cell? ⟨p7, 3, none⟩ = some (.int .i64 (T : Int)) ∧ w'.cell? ⟨p7, 4, none⟩ = some (.slice none 0 0)) := Lib.hid (fun w' F' s => by
    have hob := HO7.out.move (s.block _ HO7.out.lt (fun h => h))
    exact ⟨by rw [hob.cell 0]; rfl, by rw [hob.cell 1]; rfl, by rw [hob.cell 2]; rfl, by rw [hob.cell 3]; rfl, by rw [hob.cell 4]; rfl⟩)
  obtain ⟨k0, k1, k2, k3, k4⟩ := KF.out w1 _ (St.refl No w1)
  have t1 : decide ((T : Int) < 1) = false := decide_eq_false (by omega)
  have t1' : decide (T < 1) = false := decide_eq_false (by omega)
  have t2 : decide (4096 < (T : Int)) = false := decide_eq_false (by omega)
  have t3 : decide ((C : Int) < 1) = false := decide_eq_false (by omega)
  have t3' : decide (C < 1) = false := decide_eq_false (by omega)
  have t4 : decide (128 < (C : Int)) = false := decide_eq_false (by omega)
  have t5 : decide ((C : Int) ≤ (I : Int)) = false := decide_eq_false (by omega)
  have t5' : decide (C ≤ I) = false := decide_eq_false (by omega)
  go_wp2_with (at_make; refine wpList_makeB rfl (.tmp 98) (.tmp 98) rfl .i64 .i64 (T : Int) (T : Int) T T rfl rfl rfl rfl (Nat.le_refl _) (by omega) ?_; intro w2 ho2 hob2 hs2; have HO2 := Lib.hid ho2; have HS2 := Lib.hid hs2; obtain ⟨m0, m1, m2, m3, m4⟩ := KF.out w2 _ hs2; clear ho2 hob2 hs2)
  have HC1 : Hid (Calls Try.prog 68 #[.slice (some ⟨w1.heap.size, 0, none⟩) T T, .int .i64 (C : Int), .int .i64 ((C : Int) - 1)] w2 (BOut w2 (partB (List.replicate T 0#8) C (C - 1)))) := Lib.hid (by
    have e := cut_calls (some ⟨w1.heap.size, 0, none⟩) T (List.replicate T 0#8) (by simp; omega) C (C - 1) (by omega) (by omega) (by omega) w2 (by have h := HO2.out; exact Own.rd (by unfold OwB at h; rw [List.length_replicate] at h; exact h))
    rw [List.length_replicate, show ((C - 1 : Nat) : Int) = (C : Int) - 1 by omega] at e
    exact e)
  have HL1 : Hid ((partB (List.replicate T 0#8) C (C - 1)).length = min (sizeN T C) (T - (C - 1) * sizeN T C)) := Lib.hid (by rw [partB_len, List.length_replicate])
  have HL2 : Hid ((partB (List.replicate T 0#8) C I).length = min (sizeN T C) (T - I * sizeN T C)) := Lib.hid (by rw [partB_len, List.length_replicate])
  rw [← HL1.out, ← HL2.out] at HE
  clear HL1 HL2 k0 k1 k2 k3 k4
  refine HC1.out.mono ?_
  rintro e w3 ⟨v3, rfl, ho3, hs3⟩
  obtain ⟨a3, c3, rfl, _, _⟩ := ho3.any
  have HW3 : Hid (St No w1 No w3) := Lib.hid ((HS2.out.drop (G' := No) (fun _ h => h.elim)).trans (hs3.drop (fun _ h => h.elim)))
  obtain ⟨k0, k1, k2, k3, k4⟩ := KF.out w3 _ HW3.out
  have HC2 : Hid (Calls Try.prog 68 #[.slice (some ⟨w1.heap.size, 0, none⟩) T T, .int .i64 (C : Int), .int .i64 (I : Int)] w3 (BOut w3 (partB (List.replicate T 0#8) C I))) := Lib.hid (by
    have e := cut_calls (some ⟨w1.heap.size, 0, none⟩) T (List.replicate T 0#8) (by simp; omega) C I (by omega) (by omega) (by omega) w3 (by have h := HO2.out.st hs3 (Dj.no _); exact Own.rd (by unfold OwB at h; rw [List.length_replicate] at h; exact h))
    rw [List.length_replicate] at e
    exact e)
  clear ho3 hs3 HC1 m0 m1 m2 m3 m4
  generalize (partB (List.replicate T 0#8) C (C - 1)).length = L1 at *
  go_wp2_with fail
  refine HC2.out.mono ?_
  rintro e w4 ⟨v4, rfl, ho4, hs4⟩
  obtain ⟨a4, c4, rfl, _, _⟩ := ho4.any
  have HW4 : Hid (St No w1 No w4) := Lib.hid (HW3.out.trans (hs4.drop (fun _ h => h.elim)))
  clear ho4 hs4 HC2 k0 k1 k2 k3 k4 HO2 HS2
  generalize (partB (List.replicate T 0#8) C I).length = L2 at *
  have HO04 : Hid (Ob w4 r0 73 #[.int .u64 0, .int .i64 0, .int .i64 0, .int .i64 0, .slice none 0 0]) := Lib.hid (HO01.out.move (HW4.out.block _ HO01.out.lt (fun h => h)))
  have HO74 : Hid (Ob w4 p7 73 #[.int .u64 (id.toNat : Int), .int .i64 (I : Int), .int .i64 (C : Int), .int .i64 (T : Int), .slice none 0 0]) := Lib.hid (HO7.out.move (HW4.out.block _ HO7.out.lt (fun h => h)))
  have q0 : w4.cell? ⟨r0, 0, none⟩ = some (.int .u64 0) := by rw [HO04.out.cell 0]; rfl
  have q1 : w4.cell? ⟨r0, 1, none⟩ = some (.int .i64 0) := by rw [HO04.out.cell 1]; rfl
  have q2 : w4.cell? ⟨r0, 2, none⟩ = some (.int .i64 0) := by rw [HO04.out.cell 2]; rfl
  have q3 : w4.cell? ⟨r0, 3, none⟩ = some (.int .i64 0) := by rw [HO04.out.cell 3]; rfl
  have q4 : w4.cell? ⟨r0, 4, none⟩ = some (.slice none 0 0) := by rw [HO04.out.cell 4]; rfl
  have p0 := HO04.out.free 0
  have p1 := HO04.out.free 1
  have p2 := HO04.out.free 2
  have p3 := HO04.out.free 3
  have p4 := HO04.out.free 4
  by_cases z1 : L1 = 0
  · subst z1
    rw [if_neg (by simp)] at HE
    have z1d : (((0 : Nat) : Int) == 0) = true := rfl
    have HOZ : Hid (Ob (((((w4.setCell ⟨r0, 0, none⟩ (.int .u64 0)).setCell ⟨r0, 1, none⟩ (.int .i64 0)).setCell ⟨r0, 2, none⟩ (.int .i64 0)).setCell ⟨r0, 3, none⟩ (.int .i64 0)).setCell ⟨r0, 4, none⟩ (.slice none 0 0)) r0 73 #[.int .u64 0, .int .i64 0, .int .i64 0, .int .i64 0, .slice none 0 0]) := Lib.hid (((((HO04.out.set 0 (.int .u64 0)).set 1 (.int .i64 0)).set 2 (.int .i64 0)).set 3 (.int .i64 0)).set 4 (.slice none 0 0))
    have HSE : Hid (St No w No (((((w4.setCell ⟨r0, 0, none⟩ (.int .u64 0)).setCell ⟨r0, 1, none⟩ (.int .i64 0)).setCell ⟨r0, 2, none⟩ (.int .i64 0)).setCell ⟨r0, 3, none⟩ (.int .i64 0)).setCell ⟨r0, 4, none⟩ (.slice none 0 0))) := Lib.hid (((HW1.out.trans HW4.out).toNew.trans (((((St.setCell w4 ⟨r0, 0, none⟩ _ HR0.out).trans (St.setCell _ ⟨r0, 1, none⟩ _ HR0.out)).trans (St.setCell _ ⟨r0, 2, none⟩ _ HR0.out)).trans (St.setCell _ ⟨r0, 3, none⟩ _ HR0.out)).trans (St.setCell _ ⟨r0, 4, none⟩ _ HR0.out))).drop (fun _ h => h.elim))
    go_wp2
    refine bodyPost_ret (results_cell_row_tmp rfl _ _ r0 _ _ _ _ rfl HOZ.out hu rfl frinfo) rfl ?_
    exact FOut.bad HE.out (by decide) HSE.out
  · have z1d : ((L1 : Int) == 0) = false := beq_eq_false_iff_ne.2 (by omega)
    have z1n : (L1 == 0) = false := beq_eq_false_iff_ne.2 z1
    by_cases z2 : L2 = d.length - 18
    · have z2d : ((L2 : Int) != (d.length : Int) - 18) = false := by rw [bne_eq_false_iff_eq]; omega
      rw [if_pos ⟨z1, z2⟩] at HE
      rw [HE.out, if_pos rfl] at HF
      have HW40 : Hid (St No w No w4) := Lib.hid (HW1.out.trans HW4.out)
      have HSZ4 : Hid (w.heap.size ≤ w4.heap.size) := Lib.hid HW40.out.size
      have HNE : Hid (p7 ≠ r0) := Lib.hid (by have := HSZ.out; omega)
      clear z1 z2 q0 q1 q2 q3 q4 p0 p1 p2 p3 p4 HO7 HO01 KF HA1 HA2 HO0 HS0
      go_wp2
      go_loopw [11] (fun i wr => ∃ (m : Nat) (V : Value), m ≤ d.length - 18 ∧ i = .int .i64 ((14 + m : Nat) : Int) ∧ Hid (Ob wr p7 73 #[.int .u64 (id.toNat : Int), .int .i64 (I : Int), .int .i64 (C : Int), .int .i64 (T : Int), V]) ∧ Hid (OwB wr V ((d.drop 14).take m)) ∧ Hid (∀ k, fpV V k → w4.heap.size ≤ k) ∧ Hid (Ob wr r0 73 #[.int .u64 0, .int .i64 0, .int .i64 0, .int .i64 0, .slice none 0 0]) ∧ Hid (St No w No wr) ∧ Hid (w4.heap.size ≤ wr.heap.size)) (fun i _ => d.length - (intOf i).toNat)
      case atStart => exact ⟨0, .slice none 0 0, by omega, rfl, HO74, Lib.hid (by rw [List.take_zero]; exact OwB.nil _), Lib.hid (fun k hk => by simp [fpV, Value.ownBlock] at hk), HO04, HW40, Lib.hid (Nat.le_refl _)⟩
      case round =>
        obtain ⟨m, V, hm, rfl, HO7, HOV, HNV, HOR, HWR, HZR⟩ := hrel
        obtain ⟨aV, cV, rfl, _, _, _, _⟩ := HOV.out.form
        have hmt : ((d.drop 14).take m).length = m := by simp; omega
        rw [hmt] at HO7 HOV HNV
        by_cases hlt : m < d.length - 18
        · have hc := (HA0.out.st HWR.out (Dj.no _)).at_some (14 + m) (by omega)
          have hml : m < (d.drop 14).length := by simp; omega
          have hts : (d.drop 14).take (m + 1) = (d.drop 14).take m ++ [d[14 + m]'(by omega)] := by rw [List.take_succ_eq_append_getElem hml, List.getElem_drop]
          generalize d[14 + m]'(by omega) = b0 at *
          generalize (d.drop 14).take m = pre at *
          have HTS := Lib.hid hts
          have HTL := Lib.hid hmt
          have k4 : wr.cell? ⟨p7, 4, none⟩ = some (.slice aV m cV) := by rw [HO7.out.cell 4]; rfl
          have f4 := HO7.out.free 4
          have HP74 : Hid (p7 < w4.heap.size) := Lib.hid HO74.out.lt
          have HR04 : Hid (r0 < w4.heap.size) := Lib.hid HO04.out.lt
          have HNP : Hid (¬ fpV (.slice aV m cV) p7) := Lib.hid (fun h => by have := HNV.out _ h; have := HP74.out; omega)
          have HNR : Hid (¬ fpV (.slice aV m cV) r0) := Lib.hid (fun h => by have := HNV.out _ h; have := HR04.out; omega)
          have hp7l : p7 < wr.heap.size := HO7.out.lt
          have hp7n : p7 ≠ wr.heap.size := Nat.ne_of_lt hp7l
          have hybl : y.block < wr.heap.size := by have := World.block_lt_of_cell? wr _ hc; rwa [addr_block] at this
          have hybn : y.block ≠ wr.heap.size := Nat.ne_of_lt hybl
          have s14 : (14 : Int) + (m : Int) < (d.length : Int) - 4 := by omega
          have s15 : (14 : Int) + (m : Int) < (d.length : Int) := by omega
          have s16 : (0 : Int) ≤ 14 + (m : Int) := by omega
          have s17 : ((14 : Int) + (m : Int)).toNat = 14 + m := by omega
          clear hts hml hmt
          go_wp2
          go_region_law (refine step_appB rfl (.tmp 133) (.tmp 138) rfl _ pre rfl (HOV.out.new _) (some ⟨wr.heap.size, 0, none⟩) 1 1 [b0] rfl rfl (bs_one rfl) (fun h => by cases h) (by have := HTL.out; simp; omega) ?_; intro v' w6 ho2 hs2 hn2; have HO2 := Lib.hid ho2; have HS2 := Lib.hid hs2; clear ho2 hs2 hn2; have hob := (HO7.out.new _).behind HNP.out HS2.out; have k4' := hob.cell 4; have f4' := hob.free 4; simp only [List.getElem?_toArray, List.getElem?_cons_zero, List.getElem?_cons_succ] at k4'; obtain ⟨a', c', rfl, _, _, _, _⟩ := HO2.out.form; clear hob)
          all_goals
            go_wp2
            go_roundw
            case rel =>
              have hown : OwB w6 (.slice a' (pre.length + 1) c') (pre ++ [b0]) := by have h := HO2.out; rw [List.length_append] at h; exact h
              have e1 : (pre ++ [b0]).length = pre.length + 1 := by simp
              have hst := HS2.out
              rw [e1] at hst
              have hnew : ∀ k, fpV (.slice a' (pre.length + 1) c') k → w4.heap.size ≤ k := fun k hk => (hst.new k hk).elim (HNV.out k) (fun h => by have := HZR.out; simp at h; omega)
              have hnp : ¬ fpV (.slice a' (pre.length + 1) c') p7 := fun h => by have := hnew _ h; have := HP74.out; omega
              refine ⟨m + 1, .slice a' (pre.length + 1) c', by omega, by go_num, Lib.hid (((HO7.out.new _).behind HNP.out hst).set 4 _), Lib.hid ?_, Lib.hid hnew, Lib.hid ?_, Lib.hid ?_, Lib.hid ?_⟩
              · rw [HTS.out]
                exact hown.move (fun k hk => Below.heap_setCell _ _ _ _ (fun e => hnp (by have e2 : k = p7 := e; rw [← e2]; exact hk)))
              · exact ((HOR.out.new _).behind HNR.out HS2.out).move (Below.heap_setCell _ _ _ _ (fun e => HNE.out e.symm))
              · exact ((((HWR.out.trans (St.alloc' No _ _)).trans (St.drew No _)).toNew.trans (HS2.out.wide (F' := Nw w) (fun k hk => Nat.le_trans HSZ4.out (HNV.out k hk)) (fun k hk => .inr hk))).toNew.trans (St.setCell _ ⟨p7, 4, none⟩ _ HP7.out)).drop (fun _ h => h.elim)
              · exact Nat.le_trans HZR.out (Nat.le_trans (St.alloc' No wr (.cells #[.int .u8 (b0.toNat : Int)] 5)).size (Nat.le_trans hst.size (St.setCell (F := fpR p7) w6 ⟨p7, 4, none⟩ (.slice a' (pre.length + 1) c') rfl).size))
            case measure => simp [intOf]; omega
        · obtain rfl : m = d.length - 18 := by omega
          have k0 : wr.cell? ⟨p7, 0, none⟩ = some (.int .u64 (id.toNat : Int)) := by rw [HO7.out.cell 0]; rfl
          have k1 : wr.cell? ⟨p7, 1, none⟩ = some (.int .i64 (I : Int)) := by rw [HO7.out.cell 1]; rfl
          have k2 : wr.cell? ⟨p7, 2, none⟩ = some (.int .i64 (C : Int)) := by rw [HO7.out.cell 2]; rfl
          have k3 : wr.cell? ⟨p7, 3, none⟩ = some (.int .i64 (T : Int)) := by rw [HO7.out.cell 3]; rfl
          have k4 : wr.cell? ⟨p7, 4, none⟩ = some (.slice aV (d.length - 18) cV) := by rw [HO7.out.cell 4]; rfl
          have q0 : wr.cell? ⟨r0, 0, none⟩ = some (.int .u64 0) := by rw [HOR.out.cell 0]; rfl
          have q1 : wr.cell? ⟨r0, 1, none⟩ = some (.int .i64 0) := by rw [HOR.out.cell 1]; rfl
          have q2 : wr.cell? ⟨r0, 2, none⟩ = some (.int .i64 0) := by rw [HOR.out.cell 2]; rfl
          have q3 : wr.cell? ⟨r0, 3, none⟩ = some (.int .i64 0) := by rw [HOR.out.cell 3]; rfl
          have q4 : wr.cell? ⟨r0, 4, none⟩ = some (.slice none 0 0) := by rw [HOR.out.cell 4]; rfl
          have p0 := HOR.out.free 0
          have p1 := HOR.out.free 1
          have p2 := HOR.out.free 2
          have p3 := HOR.out.free 3
          have p4 := HOR.out.free 4
          have HOZ : Hid (Ob (((((wr.setCell ⟨r0, 0, none⟩ (.int .u64 (id.toNat : Int))).setCell ⟨r0, 1, none⟩ (.int .i64 (I : Int))).setCell ⟨r0, 2, none⟩ (.int .i64 (C : Int))).setCell ⟨r0, 3, none⟩ (.int .i64 (T : Int))).setCell ⟨r0, 4, none⟩ (.slice aV (d.length - 18) cV)) r0 73 #[.int .u64 (id.toNat : Int), .int .i64 (I : Int), .int .i64 (C : Int), .int .i64 (T : Int), .slice aV (d.length - 18) cV]) := Lib.hid (((((HOR.out.set 0 (.int .u64 (id.toNat : Int))).set 1 (.int .i64 (I : Int))).set 2 (.int .i64 (C : Int))).set 3 (.int .i64 (T : Int))).set 4 (.slice aV (d.length - 18) cV))
          have HNR : Hid (¬ fpV (.slice aV (d.length - 18) cV) r0) := Lib.hid (fun h => by have := HNV.out _ h; have := HO04.out.lt; omega)
          have HSE : Hid (St No w (fpV (.slice aV (d.length - 18) cV)) (((((wr.setCell ⟨r0, 0, none⟩ (.int .u64 (id.toNat : Int))).setCell ⟨r0, 1, none⟩ (.int .i64 (I : Int))).setCell ⟨r0, 2, none⟩ (.int .i64 (C : Int))).setCell ⟨r0, 3, none⟩ (.int .i64 (T : Int))).setCell ⟨r0, 4, none⟩ (.slice aV (d.length - 18) cV))) := Lib.hid ((HWR.out.toNew.trans (((((St.setCell wr ⟨r0, 0, none⟩ _ HR0.out).trans (St.setCell _ ⟨r0, 1, none⟩ _ HR0.out)).trans (St.setCell _ ⟨r0, 2, none⟩ _ HR0.out)).trans (St.setCell _ ⟨r0, 3, none⟩ _ HR0.out)).trans (St.setCell _ ⟨r0, 4, none⟩ _ HR0.out))).drop (fun k hk => .inr (Nat.le_trans HSZ4.out (HNV.out k hk))))
          have HOE : Hid (OwB (((((wr.setCell ⟨r0, 0, none⟩ (.int .u64 (id.toNat : Int))).setCell ⟨r0, 1, none⟩ (.int .i64 (I : Int))).setCell ⟨r0, 2, none⟩ (.int .i64 (C : Int))).setCell ⟨r0, 3, none⟩ (.int .i64 (T : Int))).setCell ⟨r0, 4, none⟩ (.slice aV (d.length - 18) cV)) (.slice aV (d.length - 18) cV) ((d.drop 14).take (d.length - 18))) := Lib.hid (HOV.out.st (st5 wr (F := fpR r0) rfl _ _ _ _ _) (fun k hk h => HNR.out (by have e : k = r0 := hk; rw [← e]; exact h)))
          clear hmt HNR
          go_wp2
          refine bodyPost_ret (results_cell_row_tmp rfl _ _ r0 _ _ _ _ rfl HOZ.out hu rfl frinfo) rfl ?_
          rw [HF.out, HE.out]
          exact ⟨_, rfl, HOE.out, HSE.out⟩
    · have z2d : ((L2 : Int) != (d.length : Int) - 18) = true := by rw [bne_iff_ne]; omega
      rw [if_neg (fun h => z2 h.2)] at HE
      have HOZ : Hid (Ob (((((w4.setCell ⟨r0, 0, none⟩ (.int .u64 0)).setCell ⟨r0, 1, none⟩ (.int .i64 0)).setCell ⟨r0, 2, none⟩ (.int .i64 0)).setCell ⟨r0, 3, none⟩ (.int .i64 0)).setCell ⟨r0, 4, none⟩ (.slice none 0 0)) r0 73 #[.int .u64 0, .int .i64 0, .int .i64 0, .int .i64 0, .slice none 0 0]) := Lib.hid (((((HO04.out.set 0 (.int .u64 0)).set 1 (.int .i64 0)).set 2 (.int .i64 0)).set 3 (.int .i64 0)).set 4 (.slice none 0 0))
      have HSE : Hid (St No w No (((((w4.setCell ⟨r0, 0, none⟩ (.int .u64 0)).setCell ⟨r0, 1, none⟩ (.int .i64 0)).setCell ⟨r0, 2, none⟩ (.int .i64 0)).setCell ⟨r0, 3, none⟩ (.int .i64 0)).setCell ⟨r0, 4, none⟩ (.slice none 0 0))) := Lib.hid (((HW1.out.trans HW4.out).toNew.trans (((((St.setCell w4 ⟨r0, 0, none⟩ _ HR0.out).trans (St.setCell _ ⟨r0, 1, none⟩ _ HR0.out)).trans (St.setCell _ ⟨r0, 2, none⟩ _ HR0.out)).trans (St.setCell _ ⟨r0, 3, none⟩ _ HR0.out)).trans (St.setCell _ ⟨r0, 4, none⟩ _ HR0.out))).drop (fun _ h => h.elim))
      go_wp2
      refine bodyPost_ret (results_cell_row_tmp rfl _ _ r0 _ _ _ _ rfl HOZ.out hu rfl frinfo) rfl ?_
      exact FOut.bad HE.out (by decide) HSE.out
end Go.Proofs.Ytoeafacamapofaa
