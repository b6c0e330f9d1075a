
/-
  The walks over the program's writer: the handle that may be nil, and every method.
  The walks over the program's writer: NewWriter, Out, Block.
-/
import Derived.Test.YtoeafacamapofaaCwWriter2
namespace Go.Proofs.Ytoeafacamapofaa
open Go.RowKit
set_option linter.unusedVariables false
set_option linter.unusedSimpArgs false

/-- a writer's handle: nil, or a writer -/
def Wh (w : World) (F : Nat → Prop) (v : Value) (th : Bool) (s : WS) : Prop :=
  (th = false ∧ v = .pointer none ∧ F = No) ∨ (th = true ∧ s.ok ∧ ∃ p, v = .pointer (some ⟨p, 0, none⟩) ∧ Wr w F p s)
def putT (th : Bool) (s : WS) (bs : List B8) : WS := if th then s.put bs else s
theorem Wh.in {w : World} {F : Nat → Prop} {v : Value} {th : Bool} {s : WS} (h : Wh w F v th s) : In F w := by
  rcases h with ⟨_, _, rfl⟩ | ⟨_, _, p, _, hw⟩
  · exact fun k hk => hk.elim
  · exact hw.in
theorem Wh.move {w w' : World} {F : Nat → Prop} {v : Value} {th : Bool} {s : WS} (h : Wh w F v th s) (e : ∀ k, F k → w'.heap[k]? = w.heap[k]?) : Wh w' F v th s := by
  rcases h with h | ⟨h1, h2, p, h3, hw⟩
  · exact .inl h
  · exact .inr ⟨h1, h2, p, h3, hw.move e⟩
theorem Wh.st {w w' : World} {F G G' : Nat → Prop} {v : Value} {th : Bool} {s : WS} (h : Wh w F v th s) (t : St G w G' w') (hd : Dj G F) : Wh w' F v th s := h.move (t.same h.in hd)
/-- what a laying leaves, nil or not -/
def LayPost (w : World) (F : Nat → Prop) (v : Value) (th : Bool) (s : WS) (bs : List B8) (e : Ending) (w' : World) : Prop :=
  e = .returned (.tuple #[]) ∧ ∃ F', Wh w' F' v th (putT th s bs) ∧ St F w F' w'
theorem LayPost.nil {w w' : World} {s : WS} {bs : List B8} (h : St No w No w') : LayPost w No (.pointer none) false s bs (.returned (.tuple #[])) w' := ⟨rfl, No, .inl ⟨rfl, rfl, rfl⟩, h⟩
theorem PutPost.lay {w w' : World} {F : Nat → Prop} {p : Nat} {s : WS} {bs : List B8} {e : Ending} (hs : s.ok) (h : PutPost w F p s bs e w') : LayPost w F (.pointer (some ⟨p, 0, none⟩)) true s bs e w' := by
  obtain ⟨rfl, F', hw, hst⟩ := h
  exact ⟨rfl, F', .inr ⟨rfl, WS.put_ok hs bs, p, rfl, hw⟩, hst⟩

theorem LayPost.after {w W w' : World} {F G : Nat → Prop} {v : Value} {th : Bool} {s : WS} {bs : List B8} {e : Ending} (st : St No w G W) (h : LayPost W F v th s bs e w') : LayPost w F v th s bs e w' := by
  obtain ⟨he, F', hw, hst⟩ := h
  exact ⟨he, F', hw, (st.wide (fun _ h => h.elim) (fun _ hk => .inl hk)).trans hst⟩
theorem number_h (x : BitVec 64) (X : Int) (hX : X = (x.toNat : Int)) (n : Nat) (hn : n ≤ 8) (w : World) (F : Nat → Prop) (v : Value) (th : Bool) (s : WS) (h : Wh w F v th s) :
    Calls Try.prog 125 #[v, .int .u64 X, .int .i64 (n : Int)] w (LayPost w F v th s (beTo x n n)) := by
  subst hX
  rcases h with ⟨rfl, rfl, rfl⟩ | ⟨rfl, hs, p, rfl, hw⟩
  · exact (number_nil x n w).mono fun e w' ⟨he, hw⟩ => by subst he; subst hw; exact LayPost.nil (St.refl _ _)
  · exact (number_calls x n hn w F p s hs hw).mono fun e w' hp => hp.lay hs
theorem raw_h (a : Option Addr) (c : Nat) (bs : List B8) (hac : a = none → c = 0) (w : World) (F : Nat → Prop) (v : Value) (th : Bool) (s : WS) (h : Wh w F v th s) (hb : Bs w a bs) (hd : Apart F a bs) :
    Calls Try.prog 105 #[v, .slice a bs.length c] w (LayPost w F v th s bs) := by
  rcases h with ⟨rfl, rfl, rfl⟩ | ⟨rfl, hs, p, rfl, hw⟩
  · exact (raw_nil a bs.length c w).mono fun e w' ⟨he, hw⟩ => by subst he; subst hw; exact LayPost.nil (St.refl _ _)
  · exact (raw_calls a c bs hac w F p s hs hw hb hd).mono fun e w' hp => hp.lay hs

theorem u8_64 (x : BitVec 8) : ((x.toNat : Nat) : Int) = ((x.setWidth 64).toNat : Int) := by
  have := x.isLt
  rw [BitVec.toNat_setWidth, Nat.mod_eq_of_lt (by omega)]
theorem u16_64 (x : BitVec 16) : ((x.toNat : Nat) : Int) = ((x.setWidth 64).toNat : Int) := by
  have := x.isLt
  rw [BitVec.toNat_setWidth, Nat.mod_eq_of_lt (by omega)]
theorem u32_64 (x : BitVec 32) : ((x.toNat : Nat) : Int) = ((x.setWidth 64).toNat : Int) := by
  have := x.isLt
  rw [BitVec.toNat_setWidth, Nat.mod_eq_of_lt (by omega)]

set_option maxRecDepth 100000 in
theorem wU8_calls (x : BitVec 8) (w : World) (F : Nat → Prop) (v : Value) (th : Bool) (s : WS) (h : Wh w F v th s) :
    Calls Try.prog 102 #[v, .int .u8 (x.toNat : Int)] w (LayPost w F v th s (beTo (x.setWidth 64) 1 1)) := by
  have H := Lib.hid h
  have HX := Lib.hid (u8_64 x)
  clear h
  go_enter Try.func102, Try.ntmps102
  go_wp2_with fail
  refine (number_h (x.setWidth 64) _ HX.out 1 (by omega) w F v th s H.out).mono ?_
  rintro e w1 ⟨rfl, hq⟩
  have HQ := Lib.hid hq
  clear hq
  go_wp2
  go_end0
  exact ⟨rfl, HQ.out⟩
set_option maxRecDepth 100000 in
theorem wU16_calls (x : BitVec 16) (w : World) (F : Nat → Prop) (v : Value) (th : Bool) (s : WS) (h : Wh w F v th s) :
    Calls Try.prog 104 #[v, .int .u16 (x.toNat : Int)] w (LayPost w F v th s (beTo (x.setWidth 64) 2 2)) := by
  have H := Lib.hid h
  have HX := Lib.hid (u16_64 x)
  clear h
  go_enter Try.func104, Try.ntmps104
  go_wp2_with fail
  refine (number_h (x.setWidth 64) _ HX.out 2 (by omega) w F v th s H.out).mono ?_
  rintro e w1 ⟨rfl, hq⟩
  have HQ := Lib.hid hq
  clear hq
  go_wp2
  go_end0
  exact ⟨rfl, HQ.out⟩
set_option maxRecDepth 100000 in
theorem wU32_calls (x : BitVec 32) (w : World) (F : Nat → Prop) (v : Value) (th : Bool) (s : WS) (h : Wh w F v th s) :
    Calls Try.prog 107 #[v, .int .u32 (x.toNat : Int)] w (LayPost w F v th s (beTo (x.setWidth 64) 4 4)) := by
  have H := Lib.hid h
  have HX := Lib.hid (u32_64 x)
  clear h
  go_enter Try.func107, Try.ntmps107
  go_wp2_with fail
  refine (number_h (x.setWidth 64) _ HX.out 4 (by omega) w F v th s H.out).mono ?_
  rintro e w1 ⟨rfl, hq⟩
  have HQ := Lib.hid hq
  clear hq
  go_wp2
  go_end0
  exact ⟨rfl, HQ.out⟩
set_option maxRecDepth 100000 in
theorem wU64_calls (x : BitVec 64) (w : World) (F : Nat → Prop) (v : Value) (th : Bool) (s : WS) (h : Wh w F v th s) :
    Calls Try.prog 103 #[v, .int .u64 (x.toNat : Int)] w (LayPost w F v th s (beTo x 8 8)) := by
  have H := Lib.hid h
  clear h
  go_enter Try.func103, Try.ntmps103
  go_wp2_with fail
  refine (number_h x _ rfl 8 (by omega) w F v th s H.out).mono ?_
  rintro e w1 ⟨rfl, hq⟩
  have HQ := Lib.hid hq
  clear hq
  go_wp2
  go_end0
  exact ⟨rfl, HQ.out⟩

/-- a signed number's number -/
def zig (x : Int) : Nat := if 0 ≤ x then (2 * x).toNat else (-2 * x - 1).toNat
theorem zig_lt (x : Int) (h0 : -9223372036854775808 ≤ x) (h1 : x ≤ 9223372036854775807) : zig x < 18446744073709551616 := by
  unfold zig; split <;> omega
theorem xor0_u64 (n : Nat) (h : n < 18446744073709551616) : bits .xor .u64 (n : Int) 0 = (n : Int) := by
  have e := bits_xor_u64 (BitVec.ofNat 64 n) 0#64
  have hn : (BitVec.ofNat 64 n).toNat = n := by rw [BitVec.toNat_ofNat, Nat.mod_eq_of_lt h]
  rw [BitVec.xor_zero, hn] at e
  exact e
theorem xor1_u64 (n : Nat) (h : n < 18446744073709551616) : bits .xor .u64 (n : Int) 18446744073709551615 = ((18446744073709551615 - n : Nat) : Int) := by
  have e := bits_xor_u64 (BitVec.ofNat 64 n) (BitVec.allOnes 64)
  have h1 : ((BitVec.allOnes 64).toNat : Int) = 18446744073709551615 := by decide
  rw [BitVec.toNat_ofNat, Nat.mod_eq_of_lt h, h1, BitVec.xor_allOnes, BitVec.toNat_not, BitVec.toNat_ofNat, Nat.mod_eq_of_lt h] at e
  exact e
theorem zig_pos (x : Int) (h0 : 0 ≤ x) (h1 : x ≤ 9223372036854775807) : bits .xor .u64 (x * 2) (x / 9223372036854775808) = ((BitVec.ofNat 64 (zig x)).toNat : Int) := by
  have hz : zig x = (2 * x).toNat := by unfold zig; rw [if_pos h0]
  have hd : x / 9223372036854775808 = 0 := by omega
  have hx : x * 2 = (((2 * x).toNat : Nat) : Int) := by omega
  rw [hz, hd, hx, xor0_u64 _ (by omega), BitVec.toNat_ofNat, Nat.mod_eq_of_lt (by omega)]
theorem zig_neg (x : Int) (h0 : -9223372036854775808 ≤ x) (h1 : x < 0) : bits .xor .u64 (IntKind.u64.wrap (IntKind.u64.wrap x * 2)) (IntKind.u64.wrap (x / 9223372036854775808)) = ((BitVec.ofNat 64 (zig x)).toNat : Int) := by
  have hz : zig x = (-2 * x - 1).toNat := by unfold zig; rw [if_neg (by omega)]
  have hd : IntKind.u64.wrap (x / 9223372036854775808) = 18446744073709551615 := by rw [wrap_u64]; omega
  have hx : IntKind.u64.wrap (IntKind.u64.wrap x * 2) = (((2 * x + 18446744073709551616).toNat : Nat) : Int) := by rw [wrap_u64, wrap_u64]; omega
  rw [hz, hd, hx, xor1_u64 _ (by omega), BitVec.toNat_ofNat, Nat.mod_eq_of_lt (by omega)]
  congr 1
  omega
/-- a flag's byte -/
def flagB (b : Bool) : BitVec 8 := if b then 1#8 else 0#8
/-- the error that a handle tells -/
def errT (th : Bool) (s : WS) : Int := if th then s.err else 1
end Go.Proofs.Ytoeafacamapofaa
namespace Go.Proofs.Ytoeafacamapofaa
open Go.RowKit
set_option linter.unusedVariables false
set_option linter.unusedSimpArgs false

/-- copy(own, read) of bytes: into the head of what is owned -/
theorem wpList_copyB {w : World} {ops : Array Oper} {rest : List Oper} {o : Oper} {ac : Act} {Q : Exit → Act → World → Prop} (hgd : o.guard = none) (d s : Operand)
    (ho : o.op = .call { callee := .builtin .copy, args := #[d, s], argTypes := #[25, 25] })
    (g n c : Nat) (ys : List B8) (hd : ac.eval d = .slice (some ⟨g, 0, none⟩) n c) (hown : OwB w (.slice (some ⟨g, 0, none⟩) n c) ys) (hn : n = ys.length)
    (a : Option Addr) (m k : Nat) (xs : List B8) (hs : ac.eval s = .slice a m k) (hm : m = xs.length) (hsrc : Bs w a xs) (hle : xs.length ≤ ys.length)
    (h : ∀ w', OwB w' (.slice (some ⟨g, 0, none⟩) n c) (xs ++ ys.drop xs.length) → St (fun k => k = g) w (fun k => k = g) w' → wpList Try.prog ops Q rest (ac.put o.dst (goInt xs.length)) w') : wpList Try.prog ops Q (o :: rest) ac w := by
  subst hn
  subst hm
  refine wpList_plain hgd fun K hK => ?_
  have hu := Try.underlying25
  have hsz : (Try.prog.info? 5).map (·.size) = some 1 := by obtain ⟨i, hi, hz, hsz, hb⟩ := info_parts u8info; rw [hi]; simp [hsz]
  by_cases h0 : xs.length = 0
  · obtain rfl : xs = [] := List.eq_nil_of_length_eq_zero h0
    have hr := run_copy_none (P := Try.prog) w 25 25 o.type 5 (some ⟨g, 0, none⟩) a ys.length c 0 k hu hsz (by simp)
    unfold Oper.wp
    simp [execOp, ho, resolve, invoke, builtin, hd, hs, hr, Result.andThen]
    exact hK _ _ (h w (by simpa using hown) (St.refl _ _))
  · obtain ⟨x, rfl, _⟩ := hsrc.at 0 (by omega)
    rcases hown.2 with ⟨h', _⟩ | ⟨g', cap', cur, h', _, hg, hnc, hcm, hcs, htake⟩
    · cases h'
    · simp only [Value.slice.injEq, Option.some.injEq, Addr.mk.injEq, and_true, true_and] at h'
      obtain ⟨rfl, rfl⟩ := h'
      have hmin : (bv xs).length = Nat.min xs.length ys.length := by rw [bv_len]; exact (Nat.min_eq_left hle).symm
      have hr := run_copy_row (P := Try.prog) w 25 25 o.type 5 g 0 ys.length c x xs.length k cur 5 (bv xs) hu hsz hg hmin (Rd.at_some hsrc) (by rw [bv_len]; simp only [Nat.mul_one] at hcs; omega) (bv_one xs)
      unfold Oper.wp
      simp [execOp, ho, resolve, invoke, builtin, hd, hs, hr, Result.andThen]
      have hlen : (xs ++ ys.drop xs.length).length = ys.length := by simp; omega
      have hown' : OwB (w.setRow g (bv xs ++ cur.toList.drop (bv xs).length).toArray) (.slice (some ⟨g, 0, none⟩) ys.length c) (xs ++ ys.drop xs.length) := by
        unfold OwB Own
        rw [hlen]
        refine ⟨by rw [bv_len, hlen]; simp, .inr ⟨g, c, _, rfl, Nat.zero_le _, setRow_heap w g cur _ _ _ hg, hnc, hcm, ?_, ?_⟩⟩
        · simp only [List.size_toArray, List.length_append, List.length_drop, bv_len, Array.length_toList]
          omega
        · simp only [Nat.mul_one] at htake ⊢
          rw [bv_append, ← bv_drop, ← htake, List.take_append, List.drop_take]
          rw [List.take_of_length_le (by rw [bv_len]; exact hle), bv_len]
      have hst : St (fun k => k = g) w (fun k => k = g) (w.setRow g (bv xs ++ cur.toList.drop (bv xs).length).toArray) := St.setRow w g _ rfl
      have hh := h _ hown' hst
      simp only [bv_len, List.length_drop] at hh ⊢
      exact hK _ _ hh

/-- what NewWriter gives -/
def NewWPost (lim : Int) (w : World) (e : Ending) (w' : World) : Prop :=
      (¬ (0 ≤ lim ∧ lim ≤ 16777216) ∧ e = .returned (.tuple #[.pointer none, .int .i64 2]) ∧ w = w') ∨
      ((0 ≤ lim ∧ lim ≤ 16777216) ∧ ∃ p F, e = .returned (.tuple #[.pointer (some ⟨p, 0, none⟩), .int .i64 0]) ∧ Wr w' F p ⟨lim, [], 0⟩ ∧ St No w F w')
set_option maxRecDepth 100000 in
theorem newWriter_calls (lim : Int) (w : World) : Calls Try.prog 101 #[.int .i64 lim] w (NewWPost lim w) := by
  by_cases h0 : lim < 0
  · have H : Hid (¬ (0 ≤ lim ∧ lim ≤ 16777216)) := Lib.hid (by omega)
    go_enter Try.func101, Try.ntmps101
    go_wp2
    go_ret2
    exact .inl ⟨H.out, rfl, rfl⟩
  · by_cases h1 : 16777216 < lim
    · have H : Hid (¬ (0 ≤ lim ∧ lim ≤ 16777216)) := Lib.hid (by omega)
      go_enter Try.func101, Try.ntmps101
      go_wp2
      go_ret2
      exact .inl ⟨H.out, rfl, rfl⟩
    · have H : Hid (0 ≤ lim ∧ lim ≤ 16777216) := Lib.hid (by omega)
      go_enter Try.func101, Try.ntmps101
      go_wp2
      go_ret2
      refine .inr ⟨H.out, w.heap.size, fun k => k = w.heap.size, rfl, ⟨.slice none 0 0, Ob.alloc w _ _, OwB.nil _, by simp [fpV, Value.ownBlock], fun k => ?_⟩, (St.alloc No w _).drop (fun k hk => .inr (.inr hk))⟩
      simp [fpV, Value.ownBlock]

/-- what Out gives -/
def OutPost (w : World) (th : Bool) (s : WS) (e : Ending) (w' : World) : Prop :=
  (errT th s ≠ 0 ∧ e = .returned (.tuple #[.slice none 0 0, .int .i64 (errT th s)]) ∧ St No w No w') ∨
  (errT th s = 0 ∧ ∃ g, e = .returned (.tuple #[.slice (some ⟨g, 0, none⟩) s.out.length s.out.length, .int .i64 0]) ∧ OwB w' (.slice (some ⟨g, 0, none⟩) s.out.length s.out.length) s.out ∧ w.heap.size ≤ g ∧ St No w (fun k => k = g) w')
set_option maxRecDepth 100000 in
set_option maxHeartbeats 1000000 in
theorem wOut_calls (w : World) (F : Nat → Prop) (v : Value) (th : Bool) (s : WS) (h : Wh w F v th s) :
    Calls Try.prog 106 #[v] w (OutPost w th s) := by
  rcases h with ⟨rfl, rfl, rfl⟩ | ⟨rfl, hs, p, rfl, hw⟩
  · go_enter Try.func106, Try.ntmps106
    go_wp2
    go_ret2
    exact .inl ⟨by simp [errT], rfl, St.refl _ _⟩
  · obtain ⟨lim, out, err⟩ := s
    obtain ⟨a, c, k0, k1, k2, f1, f2, hv, hc1, hc2, hnone, ho, hnp, hF⟩ := hw.open
    have HW := Lib.hid hw
    have HV := Lib.hid hv
    have HO := Lib.hid ho
    have hl : (out.length : Int) ≤ 16777216 := by have := hs.fit; have := hs.hi; simp only at *; omega
    simp only at k0 k1 k2 hc1
    clear k0 f1 f2 hv hnone ho hnp hF hs hw hc2
    by_cases he : err = 0
    · subst he
      have hl2 : out.length ≤ 281474976710656 := by omega
      go_enter Try.func106, Try.ntmps106
      go_wp2_with (first
        | (at_make; refine wpList_makeB rfl (.tmp 20) (.tmp 20) rfl .i64 .i64 (out.length : Int) (out.length : Int) out.length out.length rfl rfl rfl rfl (Nat.le_refl _) hl2 ?_; intro w1 ho1 hob1 hs1; have HO1 := Lib.hid ho1; have HS1 := Lib.hid hs1; have hob := HO.out.behind (fun h => h) hs1; have k1' := hob.cell 1; simp only [List.getElem?_toArray, List.getElem?_cons_zero, List.getElem?_cons_succ] at k1'; clear ho1 hob1 hs1 hob)
        | (refine wpList_copyB rfl (.tmp 22) (.tmp 26) rfl w.heap.size out.length out.length (List.replicate out.length 0#8) rfl HO1.out (by simp) a out.length c out rfl rfl (HV.out.st HS1.out (Dj.no _)).bs (by simp) ?_; intro w2 ho2 hs2; have HO2 := Lib.hid ho2; have HS2 := Lib.hid hs2; clear ho2 hs2))
      go_ret2
      refine .inr ⟨rfl, w.heap.size, rfl, ?_, Nat.le_refl _, ?_⟩
      · have := HO2.out
        rw [List.drop_eq_nil_of_le (by simp), List.append_nil] at this
        exact this
      · exact (HS1.out.drop (fun k hk => .inr (by subst hk; simp [fpV, Value.ownBlock]))).trans HS2.out
    · have hb : (err != 0) = true := by rw [bne_iff_ne]; exact he
      have HE := Lib.hid he
      clear he
      go_enter Try.func106, Try.ntmps106
      go_wp2
      go_quiet (fail)
      go_wp2
      go_ret2
      exact .inl ⟨HE.out, rfl, St.drewN _ _ _⟩

end Go.Proofs.Ytoeafacamapofaa
