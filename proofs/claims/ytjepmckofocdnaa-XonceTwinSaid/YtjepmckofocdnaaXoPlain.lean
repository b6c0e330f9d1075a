
/-
  plain: has a message no field but its kind's?
-/
import Derived.Test.YtjepmckofocdnaaXoFits
namespace Go.Proofs.Ytjepmckofocdnaa
open Go.RowKit
set_option linter.unusedVariables false
set_option linter.unusedSimpArgs false

def kindB (m : MV) : Bool := decide (m.kind = 10 ∧ m.mask = 0 ∨ m.kind = 11 ∧ m.pn = 0)
def plainB (m : MV) : Bool := decide (m.s4.2.1 + m.s5.2.1 + m.s14.2.1 + m.s15.2.1 = 0 ∧ m.b6 = false ∧ (m.k2 = 0 ∧ m.k3 = 0) ∧ (m.k10 = 0 ∧ m.k11 = 0) ∧ m.k7 = 0 ∧ m.k8 = 0 ∧ m.k9 = 0 ∧ m.k13 = 0) && kindB m
/-- a message's numbers are in their kinds -/
structure MV.Wf (m : MV) : Prop where
  seq : m.seq ≤ 18446744073709551615
  k2 : 0 ≤ m.k2 ∧ m.k2 ≤ 18446744073709551615
  k3 : 0 ≤ m.k3 ∧ m.k3 ≤ 18446744073709551615
  k10 : 0 ≤ m.k10 ∧ m.k10 ≤ 4294967295
  k11 : 0 ≤ m.k11 ∧ m.k11 ≤ 4294967295
  l4 : m.s4.2.1 ≤ 140737488351232
  l5 : m.s5.2.1 ≤ 140737488351232
  l14 : m.s14.2.1 ≤ 140737488351232
  l15 : m.s15.2.1 ≤ 140737488351232
theorem wrap_u32x (n : Int) : IntKind.u32.wrap n = n % 4294967296 := by simp [IntKind.wrap, IntKind.bits, IntKind.signed]
theorem bits_or_u32 (a b : BitVec 32) : bits .or .u32 (a.toNat : Int) (b.toNat : Int) = ((a ||| b).toNat : Int) := by
  simp only [bits, IntKind.bits, BitVec.ofInt_natCast, BitVec.ofNat_toNat, BitVec.setWidth_eq]
  rw [wrap_u32x]
  exact Int.emod_eq_of_lt (Int.natCast_nonneg _) (Int.ofNat_lt.mpr (a ||| b).isLt)
theorem or_u32 (a b : Nat) (ha : a < 4294967296) (hb : b < 4294967296) : bits .or .u32 (a : Int) (b : Int) = ((a ||| b : Nat) : Int) := by
  have h := bits_or_u32 (BitVec.ofNat 32 a) (BitVec.ofNat 32 b)
  rw [BitVec.toNat_or, BitVec.toNat_ofNat, BitVec.toNat_ofNat, Nat.mod_eq_of_lt ha, Nat.mod_eq_of_lt hb] at h
  exact h
theorem MV.n17 {w : World} {v : MV} {g : Nat} {T : TypeId} (h : Ob w g T v.cells) : w.cell? ⟨g, 0, none⟩ = some (.int .u8 v.kind) ∧ w.cell? ⟨g, 2, none⟩ = some (.int .u64 v.k2) ∧ w.cell? ⟨g, 3, none⟩ = some (.int .u64 v.k3) ∧ w.cell? ⟨g, 4, none⟩ = some (.slice v.s4.1 v.s4.2.1 v.s4.2.2) ∧ w.cell? ⟨g, 5, none⟩ = some (.slice v.s5.1 v.s5.2.1 v.s5.2.2) ∧ w.cell? ⟨g, 6, none⟩ = some (.bool v.b6) ∧ w.cell? ⟨g, 7, none⟩ = some (.int .u8 v.k7) ∧ w.cell? ⟨g, 8, none⟩ = some (.int .u8 v.k8) ∧ w.cell? ⟨g, 9, none⟩ = some (.int .u8 v.k9) ∧ w.cell? ⟨g, 10, none⟩ = some (.int .u32 v.k10) ∧ w.cell? ⟨g, 11, none⟩ = some (.int .u32 v.k11) ∧ w.cell? ⟨g, 12, none⟩ = some (.int .u64 (v.mask.toNat : Int)) ∧ w.cell? ⟨g, 13, none⟩ = some (.int .u8 v.k13) ∧ w.cell? ⟨g, 14, none⟩ = some (.slice v.s14.1 v.s14.2.1 v.s14.2.2) ∧ w.cell? ⟨g, 15, none⟩ = some (.slice v.s15.1 v.s15.2.1 v.s15.2.2) ∧ w.cell? ⟨g, 16, none⟩ = some (.slice v.pa v.pn v.pc) :=
  ⟨by rw [h.cell 0]; rfl, by rw [h.cell 2]; rfl, by rw [h.cell 3]; rfl, by rw [h.cell 4]; rfl, by rw [h.cell 5]; rfl, by rw [h.cell 6]; rfl, by rw [h.cell 7]; rfl, by rw [h.cell 8]; rfl, by rw [h.cell 9]; rfl, by rw [h.cell 10]; rfl, by rw [h.cell 11]; rfl, by rw [h.cell 12]; rfl, by rw [h.cell 13]; rfl, by rw [h.cell 14]; rfl, by rw [h.cell 15]; rfl, by rw [h.cell 16]; rfl⟩
set_option maxRecDepth 100000 in
set_option maxHeartbeats 2000000 in
theorem plain_calls (w : World) (m : MV) (h : m.Wf) : Calls Try.prog 65 #[.agg m.cells] w fun e w' => e = .returned (.bool (plainB m)) ∧ St No w No w' := by
  have hsz : m.cells.size = 17 := rfl
  obtain ⟨x2, hx2⟩ := Int.eq_ofNat_of_zero_le h.k2.1
  obtain ⟨x3, hx3⟩ := Int.eq_ofNat_of_zero_le h.k3.1
  obtain ⟨x10, hx10⟩ := Int.eq_ofNat_of_zero_le h.k10.1
  obtain ⟨x11, hx11⟩ := Int.eq_ofNat_of_zero_le h.k11.1
  have q2 := h.k2.2
  have q3 := h.k3.2
  have q10 := h.k10.2
  have q11 := h.k11.2
  have l4 := h.l4
  have l5 := h.l5
  have l14 := h.l14
  have l15 := h.l15
  have o1 : bits .or .u64 m.k2 m.k3 = ((x2 ||| x3 : Nat) : Int) := by rw [hx2, hx3]; exact or_u64 x2 x3 (by omega) (by omega)
  have o2 : bits .or .u32 m.k10 m.k11 = ((x10 ||| x11 : Nat) : Int) := by rw [hx10, hx11]; exact or_u32 x10 x11 (by omega) (by omega)
  have z1 : x2 ||| x3 = 0 ↔ m.k2 = 0 ∧ m.k3 = 0 := by rw [Nat.or_eq_zero_iff]; omega
  have z2 : x10 ||| x11 = 0 ↔ m.k10 = 0 ∧ m.k11 = 0 := by rw [Nat.or_eq_zero_iff]; omega
  have w1 : IntKind.i64.wrap ((m.s4.2.1 : Int) + (m.s5.2.1 : Int)) = (m.s4.2.1 : Int) + (m.s5.2.1 : Int) := IntWalk.i64_in _ (by omega)
  have w2 : IntKind.i64.wrap ((m.s4.2.1 : Int) + (m.s5.2.1 : Int) + (m.s14.2.1 : Int)) = (m.s4.2.1 : Int) + (m.s5.2.1 : Int) + (m.s14.2.1 : Int) := IntWalk.i64_in _ (by omega)
  have w3 : IntKind.i64.wrap ((m.s4.2.1 : Int) + (m.s5.2.1 : Int) + (m.s14.2.1 : Int) + (m.s15.2.1 : Int)) = (m.s4.2.1 : Int) + (m.s5.2.1 : Int) + (m.s14.2.1 : Int) + (m.s15.2.1 : Int) := IntWalk.i64_in _ (by omega)
  generalize x2 ||| x3 = y1 at *
  generalize x10 ||| x11 = y2 at *
  have HP : Hid (plainB m = (decide (m.s4.2.1 + m.s5.2.1 + m.s14.2.1 + m.s15.2.1 = 0 ∧ m.b6 = false ∧ y1 = 0 ∧ y2 = 0 ∧ m.k7 = 0 ∧ m.k8 = 0 ∧ m.k9 = 0 ∧ m.k13 = 0) && kindB m)) := Lib.hid (by unfold plainB; congr 1; rw [decide_eq_decide, z1, z2])
  obtain ⟨b0, b2, b3, b4, b5, b6, b7, b8, b9, b10, b11, b12, b13, b14, b15, b16⟩ := MV.n17 (Ob.alloc w m.cells 60)
  have HS := Lib.hid (St.alloc' No w (.cells m.cells 60))
  clear hx2 hx3 hx10 hx11 q2 q3 q10 q11 l4 l5 l14 l15 z1 z2 h
  go_enter Try.func65, Try.ntmps65
  by_cases a1 : m.s4.2.1 + m.s5.2.1 + m.s14.2.1 + m.s15.2.1 = 0
  case neg =>
    have a1i : (0 : Int) < (m.s4.2.1 : Int) + (m.s5.2.1 : Int) + (m.s14.2.1 : Int) + (m.s15.2.1 : Int) := by omega
    have HR : Hid (plainB m = false) := Lib.hid (by rw [HP.out, decide_eq_false (fun e => a1 e.1)]; rfl)
    clear a1
    go_wp2
    go_ret
    exact ⟨by rw [HR.out]; rfl, HS.out⟩
  have a1i : ¬ (0 : Int) < (m.s4.2.1 : Int) + (m.s5.2.1 : Int) + (m.s14.2.1 : Int) + (m.s15.2.1 : Int) := by omega
  by_cases a2 : m.b6 = false
  case neg =>
    have a2i : m.b6 = true := by simpa using a2
    have HR : Hid (plainB m = false) := Lib.hid (by rw [HP.out, decide_eq_false (fun e => a2 e.2.1)]; rfl)
    clear a2
    go_wp2
    go_ret
    exact ⟨by rw [HR.out]; rfl, HS.out⟩
  have a2i := a2
  by_cases a3 : y1 = 0
  case neg =>
    have a3i : ((y1 : Int) != 0) = true := by rw [bne_iff_ne]; omega
    have HR : Hid (plainB m = false) := Lib.hid (by rw [HP.out, decide_eq_false (fun e => a3 e.2.2.1)]; rfl)
    clear a3
    go_wp2
    go_ret
    exact ⟨by rw [HR.out]; rfl, HS.out⟩
  have a3i : ((y1 : Int) != 0) = false := by simp [a3]
  by_cases a4 : y2 = 0
  case neg =>
    have a4i : ((y2 : Int) != 0) = true := by rw [bne_iff_ne]; omega
    have HR : Hid (plainB m = false) := Lib.hid (by rw [HP.out, decide_eq_false (fun e => a4 e.2.2.2.1)]; rfl)
    clear a4
    go_wp2
    go_ret
    exact ⟨by rw [HR.out]; rfl, HS.out⟩
  have a4i : ((y2 : Int) != 0) = false := by simp [a4]
  by_cases a5 : m.k7 = 0
  case neg =>
    have a5i : (m.k7 != 0) = true := by rw [bne_iff_ne]; exact a5
    have HR : Hid (plainB m = false) := Lib.hid (by rw [HP.out, decide_eq_false (fun e => a5 e.2.2.2.2.1)]; rfl)
    clear a5
    go_wp2
    go_ret
    exact ⟨by rw [HR.out]; rfl, HS.out⟩
  have a5i : (m.k7 != 0) = false := by simp [a5]
  by_cases a6 : m.k8 = 0
  case neg =>
    have a6i : (m.k8 != 0) = true := by rw [bne_iff_ne]; exact a6
    have HR : Hid (plainB m = false) := Lib.hid (by rw [HP.out, decide_eq_false (fun e => a6 e.2.2.2.2.2.1)]; rfl)
    clear a6
    go_wp2
    go_ret
    exact ⟨by rw [HR.out]; rfl, HS.out⟩
  have a6i : (m.k8 != 0) = false := by simp [a6]
  by_cases a7 : m.k9 = 0
  case neg =>
    have a7i : (m.k9 != 0) = true := by rw [bne_iff_ne]; exact a7
    have HR : Hid (plainB m = false) := Lib.hid (by rw [HP.out, decide_eq_false (fun e => a7 e.2.2.2.2.2.2.1)]; rfl)
    clear a7
    go_wp2
    go_ret
    exact ⟨by rw [HR.out]; rfl, HS.out⟩
  have a7i : (m.k9 != 0) = false := by simp [a7]
  by_cases a8 : m.k13 = 0
  case neg =>
    have a8i : (m.k13 != 0) = true := by rw [bne_iff_ne]; exact a8
    have HR : Hid (plainB m = false) := Lib.hid (by rw [HP.out, decide_eq_false (fun e => a8 e.2.2.2.2.2.2.2)]; rfl)
    clear a8
    go_wp2
    go_ret
    exact ⟨by rw [HR.out]; rfl, HS.out⟩
  have a8i : (m.k13 != 0) = false := by simp [a8]
  have HP2 : Hid (plainB m = kindB m) := Lib.hid (by rw [HP.out, decide_eq_true ⟨a1, a2, a3, a4, a5, a6, a7, a8⟩]; rfl)
  clear a1 a2 a3 a4 a5 a6 a7 a8
  by_cases k1 : m.kind = 10
  · have k1i : (m.kind == 10) = true := by rw [beq_iff_eq]; exact k1
    have k2i : (m.kind == 11) = false := by rw [beq_eq_false_iff_ne, k1]; decide
    by_cases k2 : m.mask = 0
    · have k3i : ((m.mask.toNat : Int) == 0) = true := by rw [k2]; rfl
      have HR : Hid (plainB m = true) := Lib.hid (by rw [HP2.out]; exact decide_eq_true (.inl ⟨k1, k2⟩))
      clear k1 k2
      go_wp2
      go_ret
      exact ⟨by rw [HR.out]; rfl, HS.out⟩
    · have k3i : ((m.mask.toNat : Int) == 0) = false := by
        rw [beq_eq_false_iff_ne]
        intro e
        exact k2 (BitVec.eq_of_toNat_eq (by simpa using e))
      have HR : Hid (plainB m = false) := Lib.hid (by rw [HP2.out]; exact decide_eq_false (fun e => e.elim (fun e => k2 e.2) (fun e => by rw [k1] at e; exact absurd e.1 (by decide))))
      clear k1 k2
      go_wp2
      go_ret
      exact ⟨by rw [HR.out]; rfl, HS.out⟩
  · have k1i : (m.kind == 10) = false := by rw [beq_eq_false_iff_ne]; exact k1
    by_cases k2 : m.kind = 11
    · have k2i : (m.kind == 11) = true := by rw [beq_iff_eq]; exact k2
      by_cases k3 : m.pn = 0
      · have k3i : ((m.pn : Int) == 0) = true := by rw [beq_iff_eq]; omega
        have HR : Hid (plainB m = true) := Lib.hid (by rw [HP2.out]; exact decide_eq_true (.inr ⟨k2, k3⟩))
        clear k1 k2 k3
        go_wp2
        go_ret
        exact ⟨by rw [HR.out]; rfl, HS.out⟩
      · have k3i : ((m.pn : Int) == 0) = false := by rw [beq_eq_false_iff_ne]; omega
        have HR : Hid (plainB m = false) := Lib.hid (by rw [HP2.out]; exact decide_eq_false (fun e => e.elim (fun e => k1 e.1) (fun e => k3 e.2)))
        clear k1 k2 k3
        go_wp2
        go_ret
        exact ⟨by rw [HR.out]; rfl, HS.out⟩
    · have k2i : (m.kind == 11) = false := by rw [beq_eq_false_iff_ne]; exact k2
      have HR : Hid (plainB m = false) := Lib.hid (by rw [HP2.out]; exact decide_eq_false (fun e => e.elim (fun e => k1 e.1) (fun e => k2 e.1)))
      clear k1 k2
      go_wp2
      go_ret
      exact ⟨by rw [HR.out]; rfl, HS.out⟩
end Go.Proofs.Ytjepmckofocdnaa
