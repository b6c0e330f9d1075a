
/-
  The walk over the program's head: the varint that stands at the front.
-/
import Derived.Test.YtfhoekcmkbeabaaCwReader3
import Derived.OwnWalk
namespace Go.Proofs.Ytfhoekcmkbeabaa
open Go.RowKit
set_option linter.unusedVariables false
set_option linter.unusedSimpArgs false

/-- a group laid to the number -/
def headStep (x : BitVec 64) (c : B8) (i : Nat) : BitVec 64 := x ||| ((c &&& 127#8).setWidth 64 <<< (7 * i))
/-- the varint at the front: its number, its bytes, what is wrong with it -/
def headB : Nat → BitVec 64 → List B8 → BitVec 64 × Nat × Int
  | _, _, [] => (0, 0, 21)
  | i, x, c :: r => if i = 9 ∧ 1 < c.toNat then (0, 0, 23) else if c.toNat < 128 then (if c.toNat = 0 ∧ 0 < i then (0, 0, 22) else (headStep x c i, i + 1, 0)) else headB (i + 1) (headStep x c i) r
theorem bits_and_u8 (a b : BitVec 8) : bits .and .u8 (a.toNat : Int) (b.toNat : Int) = ((a &&& b).toNat : Int) := by
  simp only [bits, IntKind.bits, BitVec.ofInt_natCast, BitVec.ofNat_toNat, BitVec.setWidth_eq]
  rw [IntKind.wrap_u8]
  exact Int.emod_eq_of_lt (Int.natCast_nonneg _) (Int.ofNat_lt.mpr (a &&& b).isLt)
theorem head_or (x : BitVec 64) (c : B8) (i : Nat) : bits .or .u64 (x.toNat : Int) (IntKind.u64.wrap (IntKind.u64.wrap (bits .and .u8 (c.toNat : Int) 127) * 2 ^ (7 * i))) = ((headStep x c i).toNat : Int) := by
  have h1 : bits .and .u8 (c.toNat : Int) 127 = ((c &&& 127#8).toNat : Int) := by
    have h := bits_and_u8 c 127#8
    exact h
  have h2 : IntKind.u64.wrap ((c &&& 127#8).toNat : Int) = (((c &&& 127#8).setWidth 64).toNat : Int) := by
    have := (c &&& 127#8).isLt
    rw [wrap_u64, BitVec.toNat_setWidth, Nat.mod_eq_of_lt (by omega)]
    omega
  have h3 : IntKind.u64.wrap ((((c &&& 127#8).setWidth 64).toNat : Int) * 2 ^ (7 * i)) = (((c &&& 127#8).setWidth 64 <<< (7 * i)).toNat : Int) := by
    rw [wrap_u64, BitVec.toNat_shiftLeft, Nat.shiftLeft_eq]
    generalize ((c &&& 127#8).setWidth 64).toNat = A
    rw [Int.natCast_emod, Int.natCast_mul, Int.natCast_pow]
    rfl
  rw [h1, h2, h3, bits_or_u64]
  rfl
def HeadPost (w : World) (bs : List B8) (e : Ending) (w' : World) : Prop :=
  e = .returned (.tuple #[.int .u64 ((headB 0 0 bs).1.toNat : Int), .int .i64 ((headB 0 0 bs).2.1 : Int), .int .i64 (headB 0 0 bs).2.2]) ∧ w = w'

set_option maxRecDepth 100000 in
set_option maxHeartbeats 1000000 in
theorem head_calls (a : Option Addr) (c : Nat) (bs : List B8) (hn : bs.length ≤ 140737488355328) (w : World) (hb : Bs w a bs) :
    Calls Try.prog 112 #[.slice a bs.length c] w (HeadPost w bs) := by
  have HB := Lib.hid hb
  clear hb
  go_enter Try.func112, Try.ntmps112
  go_wp2
  go_loopw [5, 6] (fun x i wr => ∃ k : Nat, ∃ y : BitVec 64, k ≤ bs.length ∧ k ≤ 9 ∧ Hid (k = 0 → y = 0) ∧ i = .int .i64 k ∧ x = .int .u64 (y.toNat : Int) ∧ Hid (headB 0 0 bs = headB k y (bs.drop k)) ∧ wr = w) (fun _ i _ => bs.length - (intOf i).toNat)
  case atStart => exact ⟨0, 0, by omega, by omega, Lib.hid (fun _ => rfl), rfl, rfl, Lib.hid rfl, rfl⟩
  case round =>
    obtain ⟨k, y, hk, hk9, HY0, rfl, rfl, HD, rfl⟩ := hrel
    by_cases hlt : k < bs.length
    · obtain ⟨z, rfl, hc⟩ := HB.out.at k hlt
      obtain ⟨bt, hbt⟩ : ∃ bt, bs[k] = bt := ⟨_, rfl⟩
      rw [hbt] at hc
      have HDR : Hid (headB 0 0 bs = headB k y (bt :: bs.drop (k + 1))) := Lib.hid (by rw [HD.out, List.drop_eq_getElem_cons hlt, hbt])
      clear hbt HD
      by_cases h9 : k = 9
      · subst h9
        have hc9 : wr.cell? ⟨z.block, z.off + 9, none⟩ = some (.int .u8 (bt.toNat : Int)) := hc
        clear hc
        by_cases hc1 : 1 < bt.toNat
        · have hci : (1 : Int) < (bt.toNat : Int) := by omega
          have HE : Hid (headB 0 0 bs = (0, 0, 23)) := Lib.hid (by rw [HDR.out]; show (if _ then _ else _) = _; rw [if_pos ⟨rfl, hc1⟩])
          go_wp2
          go_ret3
          exact ⟨by rw [HE.out]; rfl, rfl⟩
        · have hci : ¬ (1 : Int) < (bt.toNat : Int) := by omega
          by_cases hz : bt = 0#8
          · subst hz
            have HE : Hid (headB 0 0 bs = (0, 0, 22)) := Lib.hid (by rw [HDR.out]; rfl)
            have hc9' : wr.cell? ⟨z.block, z.off + 9, none⟩ = some (.int .u8 0) := hc9
            clear hc9 hci
            go_wp2
            go_ret3
            exact ⟨by rw [HE.out]; rfl, rfl⟩
          · have hnz : bt.toNat ≠ 0 := fun h => hz (BitVec.eq_of_toNat_eq h)
            have HE : Hid (headB 0 0 bs = (headStep y bt 9, 10, 0)) := Lib.hid (by
              rw [HDR.out]
              show (if _ then _ else if _ then (if _ then _ else _) else _) = _
              rw [if_neg (by omega), if_pos (by omega), if_neg (by omega)])
            have hb0 : ((bt.toNat : Int) == 0) = false := beq_eq_false_iff_ne.2 (by omega)
            have hl128 : (bt.toNat : Int) < 128 := by omega
            have HST := Lib.hid (head_or y bt 9)
            clear hz hnz
            go_wp2
            go_ret3
            exact ⟨by rw [HE.out, ← HST.out]; rfl, rfl⟩
      · have hk8 : (k : Int) ≤ 8 := by omega
        have hk9b : ((k : Int) == 9) = false := beq_eq_false_iff_ne.2 (by omega)
        by_cases hz : bt = 0#8
        · subst hz
          have hc' : wr.cell? (z.add k) = some (.int .u8 0) := hc
          by_cases hk0 : k = 0
          · have hy := HY0.out hk0
            subst hk0
            subst hy
            have hc0 : wr.cell? z = some (.int .u8 0) := hc
            clear hc'
            have HE : Hid (headB 0 0 bs = (0, 1, 0)) := Lib.hid (by rw [HDR.out]; rfl)
            clear hc
            go_wp2
            go_ret3
            exact ⟨by rw [HE.out]; rfl, rfl⟩
          · have HE : Hid (headB 0 0 bs = (0, 0, 22)) := Lib.hid (by
              rw [HDR.out]
              show (if _ then _ else if _ then (if _ then _ else _) else _) = _
              rw [if_neg (by omega), if_pos (by decide), if_pos ⟨rfl, by omega⟩])
            have hkp : (0 : Int) < (k : Int) := by omega
            clear hc hk0
            go_wp2
            go_ret3
            exact ⟨by rw [HE.out]; rfl, rfl⟩
        · have hnz : bt.toNat ≠ 0 := fun h => hz (BitVec.eq_of_toNat_eq h)
          have hb0 : ((bt.toNat : Int) == 0) = false := beq_eq_false_iff_ne.2 (by omega)
          have HST := Lib.hid (head_or y bt k)
          by_cases hl : bt.toNat < 128
          · have HE : Hid (headB 0 0 bs = (headStep y bt k, k + 1, 0)) := Lib.hid (by
              rw [HDR.out]
              show (if _ then _ else if _ then (if _ then _ else _) else _) = _
              rw [if_neg (by omega), if_pos hl, if_neg (by omega)])
            have hl128 : (bt.toNat : Int) < 128 := by omega
            clear hz hnz hl
            go_wp2
            go_ret3
            exact ⟨by rw [HE.out, ← HST.out]; rfl, rfl⟩
          · have HE : Hid (headB 0 0 bs = headB (k + 1) (headStep y bt k) (bs.drop (k + 1))) := Lib.hid (by
              rw [HDR.out]
              show (if _ then _ else if _ then (if _ then _ else _) else _) = _
              rw [if_neg (by omega), if_neg hl])
            have hl128 : ¬ (bt.toNat : Int) < 128 := by omega
            clear hz hnz hl
            go_wp2
            refine ⟨⟨k + 1, headStep y bt k, by omega, by omega, Lib.hid (fun h => absurd h (by omega)), by simp, ?_, HE, trivial⟩, by simp [intOf]; omega⟩
            rw [HST.out]
    · obtain rfl : k = bs.length := by omega
      have HE : Hid (headB 0 0 bs = (0, 0, 21)) := Lib.hid (by rw [HD.out, List.drop_length]; rfl)
      go_wp2
      go_ret3
      exact ⟨by rw [HE.out]; rfl, rfl⟩
end Go.Proofs.Ytfhoekcmkbeabaa
