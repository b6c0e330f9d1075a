/-
  The walks over the hashes, the program's and the reference's.
-/
import Derived.Test.YtfhoekcmkbeabaaBytes
namespace Go.Proofs.Ytfhoekcmkbeabaa
open Go.RowKit
set_option linter.unusedVariables false

def fnvStep (h : BitVec 64) (b : B8) : BitVec 64 := (h ^^^ b.setWidth 64) * 1099511628211#64
def fnvMoreB (h : BitVec 64) (xs : List B8) : BitVec 64 := xs.foldl fnvStep h
def fnvB (xs : List B8) : BitVec 64 := fnvMoreB 14695981039346656037#64 xs

theorem fnv_x (r : BitVec 64) (b : B8) : bits .xor .u64 (r.toNat : Int) (b.toNat : Int) = ((r ^^^ b.setWidth 64).toNat : Int) := by
  rw [← bits_xor_u64]
  have := b.isLt
  rw [BitVec.toNat_setWidth, Nat.mod_eq_of_lt (by omega)]
theorem fnv_one (r : BitVec 64) (b : B8) : IntKind.u64.wrap (bits .xor .u64 (r.toNat : Int) (b.toNat : Int) * 1099511628211) = ((fnvStep r b).toNat : Int) := by
  rw [fnv_x, wrap_u64]
  unfold fnvStep
  rw [BitVec.toNat_mul, Int.natCast_emod, Int.natCast_mul]
  rfl
theorem fnv_two (r : BitVec 64) (b : B8) : IntKind.u64.wrap (IntKind.u64.wrap (bits .xor .u64 (r.toNat : Int) (b.toNat : Int) * 1099511627776) + IntKind.u64.wrap (435 * bits .xor .u64 (r.toNat : Int) (b.toNat : Int))) = ((fnvStep r b).toNat : Int) := by
  rw [← fnv_one]
  simp only [wrap_u64]
  generalize bits .xor .u64 (r.toNat : Int) (b.toNat : Int) = x
  omega

set_option maxRecDepth 100000 in
set_option maxHeartbeats 1000000 in
theorem fnvMore_calls (h : BitVec 64) (a : Option Addr) (c : Nat) (xs : List B8) (hn : xs.length ≤ maxLen) (w : World) (hb : Bs w a xs) :
    Calls Try.prog 27 #[.int .u64 (h.toNat : Int), .slice a xs.length c] w fun e w' => e = .returned (.int .u64 ((fnvMoreB h xs).toNat : Int)) ∧ w = w' := by
  unfold maxLen at hn
  have HB := Lib.hid hb
  clear hb
  go_enter Try.func27, Try.ntmps27
  go_wp2
  go_loop [0, 6, 9] (fun r _ i => ∃ k : Nat, k ≤ xs.length ∧ i = .int .i64 k ∧ r = .int .u64 (((xs.take k).foldl fnvStep h).toNat : Int)) (fun _ _ i => xs.length - (intOf i).toNat)
  case atStart => exact ⟨0, Nat.zero_le _, rfl, rfl⟩
  case round =>
    obtain ⟨k, hk, rfl, rfl⟩ := hrel
    by_cases hlt : k < xs.length
    · have hs := foldl_take_succ fnvStep h xs k hlt
      generalize (xs.take k).foldl fnvStep h = r at *
      have HS := Lib.hid hs
      clear hs
      obtain ⟨x, rfl, hc⟩ := HB.out.at k hlt
      generalize xs[k] = b at *
      go_wp2
      go_round
      case rel => exact ⟨k + 1, by omega, by go_num, by rw [HS.out, fnv_one]⟩
      case measure => simp [intOf]; omega
    · have : k = xs.length := by omega
      subst this
      go_wp2
      go_ret
      exact ⟨rfl, rfl⟩
set_option maxRecDepth 100000 in
set_option maxHeartbeats 1000000 in
theorem refFnvMore_calls (h : BitVec 64) (a : Option Addr) (c : Nat) (xs : List B8) (hn : xs.length ≤ maxLen) (w : World) (hb : Bs w a xs) :
    Calls Try.prog 28 #[.int .u64 (h.toNat : Int), .slice a xs.length c] w fun e w' => e = .returned (.int .u64 ((fnvMoreB h xs).toNat : Int)) ∧ w = w' := by
  unfold maxLen at hn
  have HB := Lib.hid hb
  clear hb
  go_enter Try.func28, Try.ntmps28
  go_wp2
  go_loop [0, 5] (fun r i => ∃ k : Nat, k ≤ xs.length ∧ i = .int .i64 k ∧ r = .int .u64 (((xs.take k).foldl fnvStep h).toNat : Int)) (fun _ i => xs.length - (intOf i).toNat)
  case atStart => exact ⟨0, Nat.zero_le _, rfl, rfl⟩
  case round =>
    obtain ⟨k, hk, rfl, rfl⟩ := hrel
    by_cases hlt : k < xs.length
    · have hs := foldl_take_succ fnvStep h xs k hlt
      generalize (xs.take k).foldl fnvStep h = r at *
      have HS := Lib.hid hs
      clear hs
      obtain ⟨x, rfl, hc⟩ := HB.out.at k hlt
      generalize xs[k] = b at *
      go_wp2
      go_round
      case rel => exact ⟨k + 1, by omega, by go_num, by rw [HS.out, fnv_two]⟩
      case measure => simp [intOf]; omega
    · have : k = xs.length := by omega
      subst this
      go_wp2
      go_ret
      exact ⟨rfl, rfl⟩


theorem fnv_calls (a : Option Addr) (c : Nat) (xs : List B8) (hn : xs.length ≤ maxLen) (w : World) (hb : Bs w a xs) :
    Calls Try.prog 25 #[.slice a xs.length c] w fun e w' => e = .returned (.int .u64 ((fnvB xs).toNat : Int)) ∧ w = w' := by
  have HB := Lib.hid hb
  clear hb
  go_enter Try.func25, Try.ntmps25
  go_wp2_with (go_at_call 27; refine (fnvMore_calls 14695981039346656037#64 a c xs hn _ HB.out).mono ?_; rintro e w' ⟨rfl, rfl⟩)
  go_ret
  exact ⟨rfl, rfl⟩
theorem refFnv_calls (a : Option Addr) (c : Nat) (xs : List B8) (hn : xs.length ≤ maxLen) (w : World) (hb : Bs w a xs) :
    Calls Try.prog 26 #[.slice a xs.length c] w fun e w' => e = .returned (.int .u64 ((fnvB xs).toNat : Int)) ∧ w = w' := by
  have HB := Lib.hid hb
  clear hb
  go_enter Try.func26, Try.ntmps26
  go_wp2_with (go_at_call 28; refine (refFnvMore_calls 14695981039346656037#64 a c xs hn _ HB.out).mono ?_; rintro e w' ⟨rfl, rfl⟩)
  go_ret
  exact ⟨rfl, rfl⟩

end Go.Proofs.Ytfhoekcmkbeabaa
