
/-
  The walks over the program's Reader: number, U8 to U64.
-/
import Derived.Test.YtoeafacamapofaaCwReader
namespace Go.Proofs.Ytoeafacamapofaa
open Go.RowKit
set_option linter.unusedVariables false
set_option linter.unusedSimpArgs false

/-- the number whose bytes these are, the highest first -/
def numStep (x : BitVec 64) (c : B8) : BitVec 64 := (x <<< 8) ||| c.setWidth 64
def numB (xs : List B8) : BitVec 64 := xs.foldl numStep 0
theorem step_or (x : BitVec 64) (c : B8) : bits .or .u64 (IntKind.u64.wrap ((x.toNat : Int) * 256)) (c.toNat : Int) = ((numStep x c).toNat : Int) := by
  have h := bits_or_u64 (x <<< 8) (c.setWidth 64)
  have e1 : ((x <<< 8).toNat : Int) = IntKind.u64.wrap ((x.toNat : Int) * 256) := by
    rw [wrap_u64, BitVec.toNat_shiftLeft, Nat.shiftLeft_eq]
    omega
  have e2 : ((c.setWidth 64).toNat : Int) = (c.toNat : Int) := by
    have := c.isLt
    rw [BitVec.toNat_setWidth, Nat.mod_eq_of_lt (by omega)]
  rw [e1, e2] at h
  exact h
theorem numB_succ (xs : List B8) (k : Nat) (h : k < xs.length) : numB (xs.take (k + 1)) = numStep (numB (xs.take k)) xs[k] := by
  unfold numB
  rw [List.take_succ_eq_append_getElem h, List.foldl_append]
  rfl
/-- the number that is taken -/
def numT (th : Bool) (s : RS) (n : Nat) : BitVec 64 := if takes th s n then numB (s.rest.take n) else 0
def NumPost (w : World) (v : Value) (th : Bool) (p : Nat) (D : Nat → Prop) (s : RS) (n : Nat) (e : Ending) (w' : World) : Prop :=
  Rh w' v th p D (s.took n) ∧ St (fpP p) w (fpP p) w' ∧ e = .returned (.int .u64 ((numT th s n).toNat : Int))
theorem TakePost.one {w w' : World} {v : Value} {th : Bool} {p : Nat} {D : Nat → Prop} {s : RS} {n : Nat} {e : Ending} (h : TakePost w v th p D s n e w') :
    ∃ b xs, e = .returned (.tuple #[.slice b xs.length xs.length, .bool (takes th s n)]) ∧ Bs w' b xs ∧ numT th s n = numB xs ∧ xs.length ≤ n := by
  obtain ⟨_, _, ⟨ht, b, rfl, hb, _, hn⟩ | ⟨ht, rfl⟩⟩ := h
  · have hl : (s.rest.take n).length = n := by
      have := ht; simp [takes] at this; simp; omega
    refine ⟨b, s.rest.take n, by rw [hl, ht], hb, by unfold numT; rw [if_pos ht], by omega⟩
  · exact ⟨none, [], by rw [ht]; rfl, Rd.nil _ _, by unfold numT; rw [if_neg (by rw [ht]; simp)]; rfl, by simp⟩

set_option maxRecDepth 100000 in
set_option maxHeartbeats 1000000 in
theorem readNumber_calls (n : Nat) (hn : n ≤ 9223372036854775807) (w : World) (v : Value) (th : Bool) (p : Nat) (D : Nat → Prop) (s : RS) (h : Rh w v th p D s) :
    Calls Try.prog 119 #[v, .int .i64 n] w (NumPost w v th p D s n) := by
  have HH := Lib.hid h
  clear h
  go_enter Try.func119, Try.ntmps119
  go_wp2_with fail
  refine (take_calls n hn w v th p D s HH.out).mono ?_
  rintro e w1 hp
  obtain ⟨b, xs, rfl, hb, hnum, hxl⟩ := hp.one
  have HP1 := Lib.hid hp.1
  have HP2 := Lib.hid hp.2.1
  have HNUM := Lib.hid hnum
  have HB := Lib.hid hb
  generalize takes th s n = tk at *
  clear hp hb hnum
  go_wp2
  go_loopw [7, 18] (fun x i wr => ∃ k : Nat, k ≤ xs.length ∧ i = .int .i64 k ∧ x = .int .u64 ((numB (xs.take k)).toNat : Int) ∧ wr = w1) (fun _ i _ => xs.length - (intOf i).toNat)
  case atStart => exact ⟨0, by omega, rfl, rfl, rfl⟩
  case round =>
    obtain ⟨k, hk, rfl, rfl, rfl⟩ := hrel
    by_cases hlt : k < xs.length
    · obtain ⟨x, hx⟩ : ∃ x, numB (xs.take k) = x := ⟨_, rfl⟩
      have HX := Lib.hid hx
      rw [hx]
      clear hx
      obtain ⟨y, rfl, hc⟩ := HB.out.at k hlt
      obtain ⟨bt, hbt⟩ : ∃ bt, xs[k] = bt := ⟨_, rfl⟩
      rw [hbt] at hc
      have HBT := Lib.hid hbt
      clear hbt
      have hst := step_or x bt
      go_wp2
      refine ⟨⟨k + 1, by omega, by go_num, ?_, trivial⟩, by simp [intOf]; omega⟩
      rw [numB_succ xs k hlt, HX.out, HBT.out]
    · obtain rfl : k = xs.length := by omega
      go_wp2
      go_ret
      refine ⟨HP1.out, HP2.out, ?_⟩
      rw [HNUM.out, List.take_length]
      rfl

theorem cutU8 (n : BitVec 64) (X : Int) (h : X = (n.toNat : Int) % 256 ∨ X = IntKind.u8.wrap (n.toNat : Int)) : X = ((n.setWidth 8).toNat : Int) := by
  rcases h with rfl | rfl
  · rw [BitVec.toNat_setWidth]; simp
  · rw [show IntKind.u8.wrap (n.toNat : Int) = (n.toNat : Int) % 256 by simp [IntKind.wrap, IntKind.bits, IntKind.signed], BitVec.toNat_setWidth]; simp
theorem cutU16 (n : BitVec 64) (X : Int) (h : X = (n.toNat : Int) % 65536 ∨ X = IntKind.u16.wrap (n.toNat : Int)) : X = ((n.setWidth 16).toNat : Int) := by
  rcases h with rfl | rfl
  · rw [BitVec.toNat_setWidth]; simp
  · rw [show IntKind.u16.wrap (n.toNat : Int) = (n.toNat : Int) % 65536 by simp [IntKind.wrap, IntKind.bits, IntKind.signed], BitVec.toNat_setWidth]; simp
theorem cutU32 (n : BitVec 64) (X : Int) (h : X = (n.toNat : Int) % 4294967296 ∨ X = IntKind.u32.wrap (n.toNat : Int)) : X = ((n.setWidth 32).toNat : Int) := by
  rcases h with rfl | rfl
  · rw [BitVec.toNat_setWidth]; simp
  · rw [show IntKind.u32.wrap (n.toNat : Int) = (n.toNat : Int) % 4294967296 by simp [IntKind.wrap, IntKind.bits, IntKind.signed], BitVec.toNat_setWidth]; simp
def NumPost' (w : World) (v : Value) (th : Bool) (p : Nat) (D : Nat → Prop) (s : RS) (n : Nat) (x : Value) (e : Ending) (w' : World) : Prop :=
  Rh w' v th p D (s.took n) ∧ St (fpP p) w (fpP p) w' ∧ e = .returned x

set_option maxRecDepth 100000 in
theorem rU8_calls (w : World) (v : Value) (th : Bool) (p : Nat) (D : Nat → Prop) (s : RS) (h : Rh w v th p D s) :
    Calls Try.prog 84 #[v] w (NumPost' w v th p D s 1 (.int .u8 (((numT th s 1).setWidth 8).toNat : Int))) := by
  have HH := Lib.hid h
  have HX := Lib.hid (cutU8 (numT th s 1))
  clear h
  go_enter Try.func84, Try.ntmps84
  go_wp2_with fail
  refine (readNumber_calls 1 (by omega) w v th p D s HH.out).mono ?_
  rintro e w1 ⟨h1, h2, rfl⟩
  have HP1 := Lib.hid h1
  have HP2 := Lib.hid h2
  clear h1 h2
  generalize numT th s 1 = x at *
  have hx := x.isLt
  go_wp2
  go_ret
  exact ⟨HP1.out, HP2.out, ret_int (HX.out _ (by first | exact .inl rfl | exact .inr rfl))⟩

set_option maxRecDepth 100000 in
theorem rU16_calls (w : World) (v : Value) (th : Bool) (p : Nat) (D : Nat → Prop) (s : RS) (h : Rh w v th p D s) :
    Calls Try.prog 83 #[v] w (NumPost' w v th p D s 2 (.int .u16 (((numT th s 2).setWidth 16).toNat : Int))) := by
  have HH := Lib.hid h
  have HX := Lib.hid (cutU16 (numT th s 2))
  clear h
  go_enter Try.func83, Try.ntmps83
  go_wp2_with fail
  refine (readNumber_calls 2 (by omega) w v th p D s HH.out).mono ?_
  rintro e w1 ⟨h1, h2, rfl⟩
  have HP1 := Lib.hid h1
  have HP2 := Lib.hid h2
  clear h1 h2
  generalize numT th s 2 = x at *
  have hx := x.isLt
  go_wp2
  go_ret
  exact ⟨HP1.out, HP2.out, ret_int (HX.out _ (by first | exact .inl rfl | exact .inr rfl))⟩

set_option maxRecDepth 100000 in
theorem rU32_calls (w : World) (v : Value) (th : Bool) (p : Nat) (D : Nat → Prop) (s : RS) (h : Rh w v th p D s) :
    Calls Try.prog 86 #[v] w (NumPost' w v th p D s 4 (.int .u32 (((numT th s 4).setWidth 32).toNat : Int))) := by
  have HH := Lib.hid h
  have HX := Lib.hid (cutU32 (numT th s 4))
  clear h
  go_enter Try.func86, Try.ntmps86
  go_wp2_with fail
  refine (readNumber_calls 4 (by omega) w v th p D s HH.out).mono ?_
  rintro e w1 ⟨h1, h2, rfl⟩
  have HP1 := Lib.hid h1
  have HP2 := Lib.hid h2
  clear h1 h2
  generalize numT th s 4 = x at *
  have hx := x.isLt
  go_wp2
  go_ret
  exact ⟨HP1.out, HP2.out, ret_int (HX.out _ (by first | exact .inl rfl | exact .inr rfl))⟩

set_option maxRecDepth 100000 in
theorem rU64_calls (w : World) (v : Value) (th : Bool) (p : Nat) (D : Nat → Prop) (s : RS) (h : Rh w v th p D s) :
    Calls Try.prog 82 #[v] w (NumPost w v th p D s 8) := by
  have HH := Lib.hid h
  clear h
  go_enter Try.func82, Try.ntmps82
  go_wp2_with fail
  refine (readNumber_calls 8 (by omega) w v th p D s HH.out).mono ?_
  rintro e w1 ⟨h1, h2, rfl⟩
  have HP1 := Lib.hid h1
  have HP2 := Lib.hid h2
  clear h1 h2
  go_wp2
  go_ret
  exact ⟨HP1.out, HP2.out, rfl⟩
end Go.Proofs.Ytoeafacamapofaa
