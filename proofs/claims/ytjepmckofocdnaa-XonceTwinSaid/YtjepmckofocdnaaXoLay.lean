
/-
  zero, lay, keep: a state laid into a peer.
-/
import Derived.Test.YtjepmckofocdnaaXoOk
namespace Go.Proofs.Ytjepmckofocdnaa
open Go.RowKit
set_option linter.unusedVariables false
set_option linter.unusedSimpArgs false

/-- a peer's state as a value: cells -/
structure PV where
  sent : Nat
  acked : Nat
  mask : BitVec 64
  delivered : Nat
  qa : Option Addr
  qn : Nat
  qc : Nat
  ea : Option Addr
  en : Nat
  ec : Nat
def PV.cells (v : PV) : Array Value := #[.int .u64 v.sent, .int .u64 v.acked, .slice v.qa v.qn v.qc, .int .u64 (v.mask.toNat : Int), .int .u64 v.delivered, .slice v.ea v.en v.ec]
theorem or_u64 (a b : Nat) (ha : a < 18446744073709551616) (hb : b < 18446744073709551616) : bits .or .u64 (a : Int) (b : Int) = ((a ||| b : Nat) : Int) := by
  have h := bits_or_u64 (BitVec.ofNat 64 a) (BitVec.ofNat 64 b)
  rw [BitVec.toNat_or, BitVec.toNat_ofNat, BitVec.toNat_ofNat, Nat.mod_eq_of_lt ha, Nat.mod_eq_of_lt hb] at h
  exact h
def zeroB (v : PV) : Bool := decide (v.sent = 0 ∧ v.acked = 0 ∧ v.mask = 0 ∧ v.delivered = 0 ∧ v.qn = 0 ∧ v.en = 0)
theorem PV.box {w : World} {v : PV} : Ob (w.alloc (.cells v.cells 69)) w.heap.size 69 v.cells := Ob.alloc _ _ _
theorem PV.n6 {w : World} {v : PV} {g : Nat} {T : TypeId} (h : Ob w g T v.cells) : w.cell? ⟨g, 0, none⟩ = some (.int .u64 v.sent) ∧ w.cell? ⟨g, 1, none⟩ = some (.int .u64 v.acked) ∧ w.cell? ⟨g, 2, none⟩ = some (.slice v.qa v.qn v.qc) ∧ w.cell? ⟨g, 3, none⟩ = some (.int .u64 (v.mask.toNat : Int)) ∧ w.cell? ⟨g, 4, none⟩ = some (.int .u64 v.delivered) ∧ w.cell? ⟨g, 5, none⟩ = some (.slice v.ea v.en v.ec) :=
  ⟨by rw [h.cell 0]; rfl, by rw [h.cell 1]; rfl, by rw [h.cell 2]; rfl, by rw [h.cell 3]; rfl, by rw [h.cell 4]; rfl, by rw [h.cell 5]; rfl⟩
set_option maxRecDepth 100000 in
set_option maxHeartbeats 1000000 in
theorem zero_calls (w : World) (v : PV) (h1 : v.sent ≤ 18446744073709551615) (h2 : v.acked ≤ 18446744073709551615) (h3 : v.delivered ≤ 18446744073709551615) :
    Calls Try.prog 61 #[.agg v.cells] w fun e w' => e = .returned (.bool (zeroB v)) ∧ St No w No w' := by
  have hsz : v.cells.size = 6 := rfl
  have hm := v.mask.isLt
  have hlt : ∀ a b : Nat, a < 2 ^ 64 → b < 2 ^ 64 → (a ||| b) < 2 ^ 64 := fun a b => Nat.or_lt_two_pow
  have l1 := hlt v.sent v.acked (by omega) (by omega)
  have l2 := hlt _ v.mask.toNat l1 hm
  have o1 := or_u64 v.sent v.acked (by omega) (by omega)
  have o2 := or_u64 (v.sent ||| v.acked) v.mask.toNat l1 hm
  have o3 := or_u64 (v.sent ||| v.acked ||| v.mask.toNat) v.delivered l2 (by omega)
  have hz : (v.sent ||| v.acked ||| v.mask.toNat ||| v.delivered) = 0 ↔ v.sent = 0 ∧ v.acked = 0 ∧ v.mask = 0 ∧ v.delivered = 0 := by
    rw [Nat.or_eq_zero_iff, Nat.or_eq_zero_iff, Nat.or_eq_zero_iff]
    constructor
    · rintro ⟨⟨⟨a, b⟩, c⟩, d⟩
      exact ⟨a, b, BitVec.eq_of_toNat_eq c, d⟩
    · rintro ⟨a, b, c, d⟩
      exact ⟨⟨⟨a, b⟩, by rw [c]; rfl⟩, d⟩
  have HZ : Hid (zeroB v = decide ((v.sent ||| v.acked ||| v.mask.toNat ||| v.delivered) = 0 ∧ v.qn = 0 ∧ v.en = 0)) := Lib.hid (by
    unfold zeroB
    rw [decide_eq_decide, hz]
    constructor
    · rintro ⟨a, b, c, d, e, f⟩; exact ⟨⟨a, b, c, d⟩, e, f⟩
    · rintro ⟨⟨a, b, c, d⟩, e, f⟩; exact ⟨a, b, c, d, e, f⟩)
  obtain ⟨b0, b1, b2, b3, b4, b5⟩ := PV.n6 (PV.box (w := w) (v := v))
  have HS := Lib.hid (St.alloc' No w (.cells v.cells 69))
  generalize (v.sent ||| v.acked) = y1 at *
  generalize y1 ||| v.mask.toNat = y2 at *
  generalize y2 ||| v.delivered = y3 at *
  clear hz l1 l2 hlt
  go_enter Try.func61, Try.ntmps61
  by_cases c1 : y3 = 0
  · have c1i : ((y3 : Int) == 0) = true := by rw [beq_iff_eq]; omega
    by_cases c2 : v.qn = 0
    · have c2i : ((v.qn : Int) == 0) = true := by rw [beq_iff_eq]; omega
      by_cases c3 : v.en = 0
      · have c3i : ((v.en : Int) == 0) = true := by rw [beq_iff_eq]; omega
        have HR : Hid (zeroB v = true) := Lib.hid (by rw [HZ.out]; exact decide_eq_true ⟨c1, c2, c3⟩)
        clear c1 c2 c3
        go_wp2
        go_ret
        exact ⟨by rw [HR.out]; rfl, HS.out⟩
      · have c3i : ((v.en : Int) == 0) = false := by rw [beq_eq_false_iff_ne]; omega
        have HR : Hid (zeroB v = false) := Lib.hid (by rw [HZ.out]; exact decide_eq_false (fun h => c3 h.2.2))
        clear c1 c2 c3
        go_wp2
        go_ret
        exact ⟨by rw [HR.out]; rfl, HS.out⟩
    · have c2i : ((v.qn : Int) == 0) = false := by rw [beq_eq_false_iff_ne]; omega
      have HR : Hid (zeroB v = false) := Lib.hid (by rw [HZ.out]; exact decide_eq_false (fun h => c2 h.2.1))
      clear c1 c2
      go_wp2
      go_ret
      exact ⟨by rw [HR.out]; rfl, HS.out⟩
  · have c1i : ((y3 : Int) == 0) = false := by rw [beq_eq_false_iff_ne]; omega
    have HR : Hid (zeroB v = false) := Lib.hid (by rw [HZ.out]; exact decide_eq_false (fun h => c1 h.1))
    clear c1
    go_wp2
    go_ret
    exact ⟨by rw [HR.out]; rfl, HS.out⟩
end Go.Proofs.Ytjepmckofocdnaa
