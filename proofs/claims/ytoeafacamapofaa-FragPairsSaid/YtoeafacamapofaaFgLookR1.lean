
/-
  The walk over the reference's Look: the sum is wrong.
-/
import Derived.Test.YtoeafacamapofaaFgLookR
namespace Go.Proofs.Ytoeafacamapofaa
open Go.RowKit
set_option linter.unusedVariables false
set_option linter.unusedSimpArgs false

set_option maxRecDepth 100000 in
set_option maxHeartbeats 2000000 in
theorem refLook_nosum (y : Addr) (c : Nat) (d : List B8) (h1 : ¬ d.length < 19) (h2 : ¬ 1024 < d.length) (hlc : d.length ≤ c) (hcm : c ≤ 9223372036854775807) (w : World) (ha : Bs w (some y) d) (h3 : d[0]? = some 214#8) (h4 : d[1]? = some 1#8) (hq : ¬ (crcB (d.take (d.length - 4))).setWidth 64 = numB ((d.drop (d.length - 4)).take 4)) :
    Calls Try.prog 47 #[.slice (some y) d.length c] w (FOut w (lookF d) (lookE d)) := by
  have hu := Try.underlying73
  have g1 : decide ((d.length : Int) < 19) = false := decide_eq_false (by omega)
  have g2 : decide (d.length < 19) = false := decide_eq_false (by omega)
  have g3 : decide (1024 < (d.length : Int)) = false := decide_eq_false (by omega)
  have g4 : decide (1024 < d.length) = false := decide_eq_false (by omega)
  have HA1 := Lib.hid (ha.st (St.alloc' No w (.cells #[.int .u64 0, .int .i64 0, .int .i64 0, .int .i64 0, .slice none 0 0] 73)) (Dj.no _))
  have e0 : d[0]'(by omega) = 214#8 := by rw [List.getElem?_eq_getElem (by omega)] at h3; exact Option.some.inj h3
  have e1 : d[1]'(by omega) = 1#8 := by rw [List.getElem?_eq_getElem (by omega)] at h4; exact Option.some.inj h4
  have hc1 := HA1.out.lit 0 (by omega)
  have hc0 := HA1.out.lit0 (by omega)
  simp only [Nat.zero_add] at hc1
  rw [e0] at hc0
  rw [e1] at hc1
  replace hc0 : (w.alloc (.cells #[.int .u64 0, .int .i64 0, .int .i64 0, .int .i64 0, .slice none 0 0] 73)).cell? y = some (.int .u8 214) := hc0
  replace hc1 : (w.alloc (.cells #[.int .u64 0, .int .i64 0, .int .i64 0, .int .i64 0, .slice none 0 0] 73)).cell? ⟨y.block, y.off + 1, none⟩ = some (.int .u8 1) := hc1
  have HA0 := Lib.hid ha
  clear e0 e1 ha
  have HE : Hid (lookE d = 43) := Lib.hid (by
    unfold lookE
    rw [h3, h4, if_neg (by simp; omega), if_pos hq])
  clear h3 h4 
  go_enter Try.func47, Try.ntmps47
  go_wp2_with fail
  have HO0 : Hid (Ob (w.alloc (.cells #[.int .u64 0, .int .i64 0, .int .i64 0, .int .i64 0, .slice none 0 0] 73)) w.heap.size 73 #[.int .u64 0, .int .i64 0, .int .i64 0, .int .i64 0, .slice none 0 0]) := Lib.hid (Ob.alloc w _ _)
  have HS0 : Hid (St No w No (w.alloc (.cells #[.int .u64 0, .int .i64 0, .int .i64 0, .int .i64 0, .slice none 0 0] 73))) := Lib.hid (St.alloc' No w _)
  have hcA := HA1.out.lit 9 (by omega)
  have hcB := HA1.out.lit 10 (by omega)
  have hcC := HA1.out.lit 11 (by omega)
  have hcD := HA1.out.lit 12 (by omega)
  simp only [Nat.reduceAdd] at hcA hcB hcC hcD
  have HW0 : Hid (w.heap.size < (w.alloc (.cells #[.int .u64 0, .int .i64 0, .int .i64 0, .int .i64 0, .slice none 0 0] 73)).heap.size) := Lib.hid (by simp)
  have HWS : Hid (∀ k, w.heap.size ≤ k → Nw w k) := Lib.hid (fun k h => h)
  generalize (w.alloc (.cells #[.int .u64 0, .int .i64 0, .int .i64 0, .int .i64 0, .slice none 0 0] 73)) = w0 at *
  have HR0 : Hid (Nw w w.heap.size) := Lib.hid (Nat.le_refl _)
  generalize w.heap.size = r0 at *
  have q0 : w0.cell? ⟨r0, 0, none⟩ = some (.int .u64 0) := by rw [HO0.out.cell 0]; rfl
  have q1 : w0.cell? ⟨r0, 1, none⟩ = some (.int .i64 0) := by rw [HO0.out.cell 1]; rfl
  have q2 : w0.cell? ⟨r0, 2, none⟩ = some (.int .i64 0) := by rw [HO0.out.cell 2]; rfl
  have q3 : w0.cell? ⟨r0, 3, none⟩ = some (.int .i64 0) := by rw [HO0.out.cell 3]; rfl
  have q4 : w0.cell? ⟨r0, 4, none⟩ = some (.slice none 0 0) := by rw [HO0.out.cell 4]; rfl
  have p0 := HO0.out.free 0
  have p1 := HO0.out.free 1
  have p2 := HO0.out.free 2
  have p3 := HO0.out.free 3
  have p4 := HO0.out.free 4
  have hyb : y.block < w0.heap.size := World.block_lt_of_cell? w0 _ hc0
  have hyn : y.block ≠ w0.heap.size := Nat.ne_of_lt hyb
  have hrb : r0 < w0.heap.size := HO0.out.lt
  have hrn : r0 ≠ w0.heap.size := Nat.ne_of_lt hrb
  have i10 : (10 : Int) < (d.length : Int) := by omega
  have i11 : (11 : Int) < (d.length : Int) := by omega
  have i12 : (12 : Int) < (d.length : Int) := by omega
  have i13 : (13 : Int) < (d.length : Int) := by omega
  have HCR : Hid (Calls Try.prog 88 #[.slice (some y) (d.length - 4) c] w0 fun e w' => e = .returned (.int .u32 ((crcB (d.take (d.length - 4))).toNat : Int)) ∧ w0 = w') := Lib.hid (by
    have e := crc4_calls (some y) c (d.take (d.length - 4)) (by rw [List.length_take]; omega) w0 (HA1.out.take _)
    rw [List.length_take, Nat.min_eq_left (by omega)] at e
    exact e)
  have HN1 : Hid (Calls Try.prog 89 #[.slice (some y) d.length c, .int .i64 ((d.length : Int) - 4), .int .i64 4] w0 fun e w' => e = .returned (.int .u64 ((numB ((d.drop (d.length - 4)).take 4)).toNat : Int)) ∧ w0 = w') := Lib.hid (by
    have e := number4_calls (some y) c d (by omega) (d.length - 4) 4 (by omega) w0 HA1.out
    rw [show ((d.length - 4 : Nat) : Int) = (d.length : Int) - 4 by omega] at e
    exact e)
  have HN2 : Hid (Calls Try.prog 89 #[.slice (some y) d.length c, .int .i64 2, .int .i64 8] w0 fun e w' => e = .returned (.int .u64 ((numB ((d.drop 2).take 8)).toNat : Int)) ∧ w0 = w') := Lib.hid (number4_calls (some y) c d (by omega) 2 8 (by omega) w0 HA1.out)
  generalize crcB (d.take (d.length - 4)) = cr at *
  generalize numB ((d.drop (d.length - 4)).take 4) = nb at *
  generalize numB ((d.drop 2).take 8) = id at *
  generalize (d[12]'(by omega)) = bC at *
  generalize (d[13]'(by omega)) = bD at *
  generalize (d[10]'(by omega)) = bA at *
  generalize (d[11]'(by omega)) = bB at *
  clear hc0 hc1
  have hcn : (((cr.toNat : Nat) : Int) == ((nb.toNat : Nat) : Int)) = decide (cr.setWidth 64 = nb) := by
    have e := int_eq_bv (cr.setWidth 64) nb
    rw [show ((cr.setWidth 64).toNat : Int) = (cr.toNat : Int) by rw [BitVec.toNat_setWidth, Nat.mod_eq_of_lt (by have := cr.isLt; omega)]] at e
    exact e
  have hcne : (((cr.toNat : Nat) : Int) != ((nb.toNat : Nat) : Int)) = true := by unfold bne; rw [hcn, decide_eq_false hq]; rfl
  have hcl := cr.isLt
  clear hcn hq
  refine HCR.out.mono ?_
  rintro e w1 ⟨rfl, rfl⟩
  go_wp2_with fail
  refine HN1.out.mono ?_
  rintro e w1 ⟨rfl, rfl⟩
  go_wp2
  have hob := ((((HO0.out.set 0 (.int .u64 0)).set 1 (.int .i64 0)).set 2 (.int .i64 0)).set 3 (.int .i64 0)).set 4 (.slice none 0 0)
  refine bodyPost_ret (results_cell_row_tmp rfl _ _ r0 _ _ _ _ rfl hob hu rfl frinfo) rfl ?_
  exact FOut.bad HE.out (by decide) ((HS0.out.toNew.trans (((((St.setCell w0 ⟨r0, 0, none⟩ _ HR0.out).trans (St.setCell _ ⟨r0, 1, none⟩ _ HR0.out)).trans (St.setCell _ ⟨r0, 2, none⟩ _ HR0.out)).trans (St.setCell _ ⟨r0, 3, none⟩ _ HR0.out)).trans (St.setCell _ ⟨r0, 4, none⟩ _ HR0.out))).drop (fun _ h => h.elim))
end Go.Proofs.Ytoeafacamapofaa
