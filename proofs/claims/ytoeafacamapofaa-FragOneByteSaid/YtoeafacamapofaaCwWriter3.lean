
/-
  The walks over the program's writer: the handle that may be nil, and every method.
-/
import Derived.Test.YtoeafacamapofaaCwWriter2
namespace Go.Proofs.Ytoeafacamapofaa
open Go.RowKit
set_option linter.unusedVariables false
set_option linter.unusedSimpArgs false

/-- a writer's handle: nil, or a writer -/
def Wh (w : World) (F : Nat → Prop) (v : Value) (th : Bool) (s : WS) : Prop :=
  (th = false ∧ v = .pointer none ∧ F = No) ∨ (th = true ∧ s.ok ∧ ∃ p, v = .pointer (some ⟨p, 0, none⟩) ∧ Wr w F p s)
def putT (th : Bool) (s : WS) (bs : List B8) : WS := if th then s.put bs else s
theorem Wh.in {w : World} {F : Nat → Prop} {v : Value} {th : Bool} {s : WS} (h : Wh w F v th s) : In F w := by
  rcases h with ⟨_, _, rfl⟩ | ⟨_, _, p, _, hw⟩
  · exact fun k hk => hk.elim
  · exact hw.in
theorem Wh.move {w w' : World} {F : Nat → Prop} {v : Value} {th : Bool} {s : WS} (h : Wh w F v th s) (e : ∀ k, F k → w'.heap[k]? = w.heap[k]?) : Wh w' F v th s := by
  rcases h with h | ⟨h1, h2, p, h3, hw⟩
  · exact .inl h
  · exact .inr ⟨h1, h2, p, h3, hw.move e⟩
theorem Wh.st {w w' : World} {F G G' : Nat → Prop} {v : Value} {th : Bool} {s : WS} (h : Wh w F v th s) (t : St G w G' w') (hd : Dj G F) : Wh w' F v th s := h.move (t.same h.in hd)
/-- what a laying leaves, nil or not -/
def LayPost (w : World) (F : Nat → Prop) (v : Value) (th : Bool) (s : WS) (bs : List B8) (e : Ending) (w' : World) : Prop :=
  e = .returned (.tuple #[]) ∧ ∃ F', Wh w' F' v th (putT th s bs) ∧ St F w F' w'
theorem LayPost.nil {w w' : World} {s : WS} {bs : List B8} (h : St No w No w') : LayPost w No (.pointer none) false s bs (.returned (.tuple #[])) w' := ⟨rfl, No, .inl ⟨rfl, rfl, rfl⟩, h⟩
theorem PutPost.lay {w w' : World} {F : Nat → Prop} {p : Nat} {s : WS} {bs : List B8} {e : Ending} (hs : s.ok) (h : PutPost w F p s bs e w') : LayPost w F (.pointer (some ⟨p, 0, none⟩)) true s bs e w' := by
  obtain ⟨rfl, F', hw, hst⟩ := h
  exact ⟨rfl, F', .inr ⟨rfl, WS.put_ok hs bs, p, rfl, hw⟩, hst⟩

theorem LayPost.after {w W w' : World} {F G : Nat → Prop} {v : Value} {th : Bool} {s : WS} {bs : List B8} {e : Ending} (st : St No w G W) (h : LayPost W F v th s bs e w') : LayPost w F v th s bs e w' := by
  obtain ⟨he, F', hw, hst⟩ := h
  exact ⟨he, F', hw, (st.wide (fun _ h => h.elim) (fun _ hk => .inl hk)).trans hst⟩
theorem number_h (x : BitVec 64) (X : Int) (hX : X = (x.toNat : Int)) (n : Nat) (hn : n ≤ 8) (w : World) (F : Nat → Prop) (v : Value) (th : Bool) (s : WS) (h : Wh w F v th s) :
    Calls Try.prog 125 #[v, .int .u64 X, .int .i64 (n : Int)] w (LayPost w F v th s (beTo x n n)) := by
  subst hX
  rcases h with ⟨rfl, rfl, rfl⟩ | ⟨rfl, hs, p, rfl, hw⟩
  · exact (number_nil x n w).mono fun e w' ⟨he, hw⟩ => by subst he; subst hw; exact LayPost.nil (St.refl _ _)
  · exact (number_calls x n hn w F p s hs hw).mono fun e w' hp => hp.lay hs
theorem raw_h (a : Option Addr) (c : Nat) (bs : List B8) (hac : a = none → c = 0) (w : World) (F : Nat → Prop) (v : Value) (th : Bool) (s : WS) (h : Wh w F v th s) (hb : Bs w a bs) (hd : Apart F a bs) :
    Calls Try.prog 105 #[v, .slice a bs.length c] w (LayPost w F v th s bs) := by
  rcases h with ⟨rfl, rfl, rfl⟩ | ⟨rfl, hs, p, rfl, hw⟩
  · exact (raw_nil a bs.length c w).mono fun e w' ⟨he, hw⟩ => by subst he; subst hw; exact LayPost.nil (St.refl _ _)
  · exact (raw_calls a c bs hac w F p s hs hw hb hd).mono fun e w' hp => hp.lay hs

theorem u8_64 (x : BitVec 8) : ((x.toNat : Nat) : Int) = ((x.setWidth 64).toNat : Int) := by
  have := x.isLt
  rw [BitVec.toNat_setWidth, Nat.mod_eq_of_lt (by omega)]
theorem u16_64 (x : BitVec 16) : ((x.toNat : Nat) : Int) = ((x.setWidth 64).toNat : Int) := by
  have := x.isLt
  rw [BitVec.toNat_setWidth, Nat.mod_eq_of_lt (by omega)]
theorem u32_64 (x : BitVec 32) : ((x.toNat : Nat) : Int) = ((x.setWidth 64).toNat : Int) := by
  have := x.isLt
  rw [BitVec.toNat_setWidth, Nat.mod_eq_of_lt (by omega)]

set_option maxRecDepth 100000 in
theorem wU8_calls (x : BitVec 8) (w : World) (F : Nat → Prop) (v : Value) (th : Bool) (s : WS) (h : Wh w F v th s) :
    Calls Try.prog 102 #[v, .int .u8 (x.toNat : Int)] w (LayPost w F v th s (beTo (x.setWidth 64) 1 1)) := by
  have H := Lib.hid h
  have HX := Lib.hid (u8_64 x)
  clear h
  go_enter Try.func102, Try.ntmps102
  go_wp2_with fail
  refine (number_h (x.setWidth 64) _ HX.out 1 (by omega) w F v th s H.out).mono ?_
  rintro e w1 ⟨rfl, hq⟩
  have HQ := Lib.hid hq
  clear hq
  go_wp2
  go_end0
  exact ⟨rfl, HQ.out⟩
set_option maxRecDepth 100000 in
theorem wU16_calls (x : BitVec 16) (w : World) (F : Nat → Prop) (v : Value) (th : Bool) (s : WS) (h : Wh w F v th s) :
    Calls Try.prog 104 #[v, .int .u16 (x.toNat : Int)] w (LayPost w F v th s (beTo (x.setWidth 64) 2 2)) := by
  have H := Lib.hid h
  have HX := Lib.hid (u16_64 x)
  clear h
  go_enter Try.func104, Try.ntmps104
  go_wp2_with fail
  refine (number_h (x.setWidth 64) _ HX.out 2 (by omega) w F v th s H.out).mono ?_
  rintro e w1 ⟨rfl, hq⟩
  have HQ := Lib.hid hq
  clear hq
  go_wp2
  go_end0
  exact ⟨rfl, HQ.out⟩
set_option maxRecDepth 100000 in
theorem wU32_calls (x : BitVec 32) (w : World) (F : Nat → Prop) (v : Value) (th : Bool) (s : WS) (h : Wh w F v th s) :
    Calls Try.prog 107 #[v, .int .u32 (x.toNat : Int)] w (LayPost w F v th s (beTo (x.setWidth 64) 4 4)) := by
  have H := Lib.hid h
  have HX := Lib.hid (u32_64 x)
  clear h
  go_enter Try.func107, Try.ntmps107
  go_wp2_with fail
  refine (number_h (x.setWidth 64) _ HX.out 4 (by omega) w F v th s H.out).mono ?_
  rintro e w1 ⟨rfl, hq⟩
  have HQ := Lib.hid hq
  clear hq
  go_wp2
  go_end0
  exact ⟨rfl, HQ.out⟩
set_option maxRecDepth 100000 in
theorem wU64_calls (x : BitVec 64) (w : World) (F : Nat → Prop) (v : Value) (th : Bool) (s : WS) (h : Wh w F v th s) :
    Calls Try.prog 103 #[v, .int .u64 (x.toNat : Int)] w (LayPost w F v th s (beTo x 8 8)) := by
  have H := Lib.hid h
  clear h
  go_enter Try.func103, Try.ntmps103
  go_wp2_with fail
  refine (number_h x _ rfl 8 (by omega) w F v th s H.out).mono ?_
  rintro e w1 ⟨rfl, hq⟩
  have HQ := Lib.hid hq
  clear hq
  go_wp2
  go_end0
  exact ⟨rfl, HQ.out⟩

/-- a signed number's number -/
def zig (x : Int) : Nat := if 0 ≤ x then (2 * x).toNat else (-2 * x - 1).toNat
theorem zig_lt (x : Int) (h0 : -9223372036854775808 ≤ x) (h1 : x ≤ 9223372036854775807) : zig x < 18446744073709551616 := by
  unfold zig; split <;> omega
theorem xor0_u64 (n : Nat) (h : n < 18446744073709551616) : bits .xor .u64 (n : Int) 0 = (n : Int) := by
  have e := bits_xor_u64 (BitVec.ofNat 64 n) 0#64
  have hn : (BitVec.ofNat 64 n).toNat = n := by rw [BitVec.toNat_ofNat, Nat.mod_eq_of_lt h]
  rw [BitVec.xor_zero, hn] at e
  exact e
theorem xor1_u64 (n : Nat) (h : n < 18446744073709551616) : bits .xor .u64 (n : Int) 18446744073709551615 = ((18446744073709551615 - n : Nat) : Int) := by
  have e := bits_xor_u64 (BitVec.ofNat 64 n) (BitVec.allOnes 64)
  have h1 : ((BitVec.allOnes 64).toNat : Int) = 18446744073709551615 := by decide
  rw [BitVec.toNat_ofNat, Nat.mod_eq_of_lt h, h1, BitVec.xor_allOnes, BitVec.toNat_not, BitVec.toNat_ofNat, Nat.mod_eq_of_lt h] at e
  exact e
theorem zig_pos (x : Int) (h0 : 0 ≤ x) (h1 : x ≤ 9223372036854775807) : bits .xor .u64 (x * 2) (x / 9223372036854775808) = ((BitVec.ofNat 64 (zig x)).toNat : Int) := by
  have hz : zig x = (2 * x).toNat := by unfold zig; rw [if_pos h0]
  have hd : x / 9223372036854775808 = 0 := by omega
  have hx : x * 2 = (((2 * x).toNat : Nat) : Int) := by omega
  rw [hz, hd, hx, xor0_u64 _ (by omega), BitVec.toNat_ofNat, Nat.mod_eq_of_lt (by omega)]
theorem zig_neg (x : Int) (h0 : -9223372036854775808 ≤ x) (h1 : x < 0) : bits .xor .u64 (IntKind.u64.wrap (IntKind.u64.wrap x * 2)) (IntKind.u64.wrap (x / 9223372036854775808)) = ((BitVec.ofNat 64 (zig x)).toNat : Int) := by
  have hz : zig x = (-2 * x - 1).toNat := by unfold zig; rw [if_neg (by omega)]
  have hd : IntKind.u64.wrap (x / 9223372036854775808) = 18446744073709551615 := by rw [wrap_u64]; omega
  have hx : IntKind.u64.wrap (IntKind.u64.wrap x * 2) = (((2 * x + 18446744073709551616).toNat : Nat) : Int) := by rw [wrap_u64, wrap_u64]; omega
  rw [hz, hd, hx, xor1_u64 _ (by omega), BitVec.toNat_ofNat, Nat.mod_eq_of_lt (by omega)]
  congr 1
  omega
/-- a flag's byte -/
def flagB (b : Bool) : BitVec 8 := if b then 1#8 else 0#8
/-- the error that a handle tells -/
def errT (th : Bool) (s : WS) : Int := if th then s.err else 1
end Go.Proofs.Ytoeafacamapofaa
