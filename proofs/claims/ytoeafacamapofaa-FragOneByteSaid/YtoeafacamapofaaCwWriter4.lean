
/-
  The walks over the program's writer: NewWriter, Out, Block.
-/
import Derived.Test.YtoeafacamapofaaCwWriter3
namespace Go.Proofs.Ytoeafacamapofaa
open Go.RowKit
set_option linter.unusedVariables false
set_option linter.unusedSimpArgs false

/-- copy(own, read) of bytes: into the head of what is owned -/
theorem wpList_copyB {w : World} {ops : Array Oper} {rest : List Oper} {o : Oper} {ac : Act} {Q : Exit → Act → World → Prop} (hgd : o.guard = none) (d s : Operand)
    (ho : o.op = .call { callee := .builtin .copy, args := #[d, s], argTypes := #[25, 25] })
    (g n c : Nat) (ys : List B8) (hd : ac.eval d = .slice (some ⟨g, 0, none⟩) n c) (hown : OwB w (.slice (some ⟨g, 0, none⟩) n c) ys) (hn : n = ys.length)
    (a : Option Addr) (m k : Nat) (xs : List B8) (hs : ac.eval s = .slice a m k) (hm : m = xs.length) (hsrc : Bs w a xs) (hle : xs.length ≤ ys.length)
    (h : ∀ w', OwB w' (.slice (some ⟨g, 0, none⟩) n c) (xs ++ ys.drop xs.length) → St (fun k => k = g) w (fun k => k = g) w' → wpList Try.prog ops Q rest (ac.put o.dst (goInt xs.length)) w') : wpList Try.prog ops Q (o :: rest) ac w := by
  subst hn
  subst hm
  refine wpList_plain hgd fun K hK => ?_
  have hu := Try.underlying25
  have hsz : (Try.prog.info? 5).map (·.size) = some 1 := by obtain ⟨i, hi, hz, hsz, hb⟩ := info_parts u8info; rw [hi]; simp [hsz]
  by_cases h0 : xs.length = 0
  · obtain rfl : xs = [] := List.eq_nil_of_length_eq_zero h0
    have hr := run_copy_none (P := Try.prog) w 25 25 o.type 5 (some ⟨g, 0, none⟩) a ys.length c 0 k hu hsz (by simp)
    unfold Oper.wp
    simp [execOp, ho, resolve, invoke, builtin, hd, hs, hr, Result.andThen]
    exact hK _ _ (h w (by simpa using hown) (St.refl _ _))
  · obtain ⟨x, rfl, _⟩ := hsrc.at 0 (by omega)
    rcases hown.2 with ⟨h', _⟩ | ⟨g', cap', cur, h', _, hg, hnc, hcm, hcs, htake⟩
    · cases h'
    · simp only [Value.slice.injEq, Option.some.injEq, Addr.mk.injEq, and_true, true_and] at h'
      obtain ⟨rfl, rfl⟩ := h'
      have hmin : (bv xs).length = Nat.min xs.length ys.length := by rw [bv_len]; exact (Nat.min_eq_left hle).symm
      have hr := run_copy_row (P := Try.prog) w 25 25 o.type 5 g 0 ys.length c x xs.length k cur 5 (bv xs) hu hsz hg hmin (Rd.at_some hsrc) (by rw [bv_len]; simp only [Nat.mul_one] at hcs; omega) (bv_one xs)
      unfold Oper.wp
      simp [execOp, ho, resolve, invoke, builtin, hd, hs, hr, Result.andThen]
      have hlen : (xs ++ ys.drop xs.length).length = ys.length := by simp; omega
      have hown' : OwB (w.setRow g (bv xs ++ cur.toList.drop (bv xs).length).toArray) (.slice (some ⟨g, 0, none⟩) ys.length c) (xs ++ ys.drop xs.length) := by
        unfold OwB Own
        rw [hlen]
        refine ⟨by rw [bv_len, hlen]; simp, .inr ⟨g, c, _, rfl, Nat.zero_le _, setRow_heap w g cur _ _ _ hg, hnc, hcm, ?_, ?_⟩⟩
        · simp only [List.size_toArray, List.length_append, List.length_drop, bv_len, Array.length_toList]
          omega
        · simp only [Nat.mul_one] at htake ⊢
          rw [bv_append, ← bv_drop, ← htake, List.take_append, List.drop_take]
          rw [List.take_of_length_le (by rw [bv_len]; exact hle), bv_len]
      have hst : St (fun k => k = g) w (fun k => k = g) (w.setRow g (bv xs ++ cur.toList.drop (bv xs).length).toArray) := St.setRow w g _ rfl
      have hh := h _ hown' hst
      simp only [bv_len, List.length_drop] at hh ⊢
      exact hK _ _ hh

/-- what NewWriter gives -/
def NewWPost (lim : Int) (w : World) (e : Ending) (w' : World) : Prop :=
      (¬ (0 ≤ lim ∧ lim ≤ 16777216) ∧ e = .returned (.tuple #[.pointer none, .int .i64 2]) ∧ w = w') ∨
      ((0 ≤ lim ∧ lim ≤ 16777216) ∧ ∃ p F, e = .returned (.tuple #[.pointer (some ⟨p, 0, none⟩), .int .i64 0]) ∧ Wr w' F p ⟨lim, [], 0⟩ ∧ St No w F w')
set_option maxRecDepth 100000 in
theorem newWriter_calls (lim : Int) (w : World) : Calls Try.prog 101 #[.int .i64 lim] w (NewWPost lim w) := by
  by_cases h0 : lim < 0
  · have H : Hid (¬ (0 ≤ lim ∧ lim ≤ 16777216)) := Lib.hid (by omega)
    go_enter Try.func101, Try.ntmps101
    go_wp2
    go_ret2
    exact .inl ⟨H.out, rfl, rfl⟩
  · by_cases h1 : 16777216 < lim
    · have H : Hid (¬ (0 ≤ lim ∧ lim ≤ 16777216)) := Lib.hid (by omega)
      go_enter Try.func101, Try.ntmps101
      go_wp2
      go_ret2
      exact .inl ⟨H.out, rfl, rfl⟩
    · have H : Hid (0 ≤ lim ∧ lim ≤ 16777216) := Lib.hid (by omega)
      go_enter Try.func101, Try.ntmps101
      go_wp2
      go_ret2
      refine .inr ⟨H.out, w.heap.size, fun k => k = w.heap.size, rfl, ⟨.slice none 0 0, Ob.alloc w _ _, OwB.nil _, by simp [fpV, Value.ownBlock], fun k => ?_⟩, (St.alloc No w _).drop (fun k hk => .inr (.inr hk))⟩
      simp [fpV, Value.ownBlock]

/-- what Out gives -/
def OutPost (w : World) (th : Bool) (s : WS) (e : Ending) (w' : World) : Prop :=
  (errT th s ≠ 0 ∧ e = .returned (.tuple #[.slice none 0 0, .int .i64 (errT th s)]) ∧ St No w No w') ∨
  (errT th s = 0 ∧ ∃ g, e = .returned (.tuple #[.slice (some ⟨g, 0, none⟩) s.out.length s.out.length, .int .i64 0]) ∧ OwB w' (.slice (some ⟨g, 0, none⟩) s.out.length s.out.length) s.out ∧ w.heap.size ≤ g ∧ St No w (fun k => k = g) w')
set_option maxRecDepth 100000 in
set_option maxHeartbeats 1000000 in
theorem wOut_calls (w : World) (F : Nat → Prop) (v : Value) (th : Bool) (s : WS) (h : Wh w F v th s) :
    Calls Try.prog 106 #[v] w (OutPost w th s) := by
  rcases h with ⟨rfl, rfl, rfl⟩ | ⟨rfl, hs, p, rfl, hw⟩
  · go_enter Try.func106, Try.ntmps106
    go_wp2
    go_ret2
    exact .inl ⟨by simp [errT], rfl, St.refl _ _⟩
  · obtain ⟨lim, out, err⟩ := s
    obtain ⟨a, c, k0, k1, k2, f1, f2, hv, hc1, hc2, hnone, ho, hnp, hF⟩ := hw.open
    have HW := Lib.hid hw
    have HV := Lib.hid hv
    have HO := Lib.hid ho
    have hl : (out.length : Int) ≤ 16777216 := by have := hs.fit; have := hs.hi; simp only at *; omega
    simp only at k0 k1 k2 hc1
    clear k0 f1 f2 hv hnone ho hnp hF hs hw hc2
    by_cases he : err = 0
    · subst he
      have hl2 : out.length ≤ 281474976710656 := by omega
      go_enter Try.func106, Try.ntmps106
      go_wp2_with (first
        | (at_make; refine wpList_makeB rfl (.tmp 20) (.tmp 20) rfl .i64 .i64 (out.length : Int) (out.length : Int) out.length out.length rfl rfl rfl rfl (Nat.le_refl _) hl2 ?_; intro w1 ho1 hob1 hs1; have HO1 := Lib.hid ho1; have HS1 := Lib.hid hs1; have hob := HO.out.behind (fun h => h) hs1; have k1' := hob.cell 1; simp only [List.getElem?_toArray, List.getElem?_cons_zero, List.getElem?_cons_succ] at k1'; clear ho1 hob1 hs1 hob)
        | (refine wpList_copyB rfl (.tmp 22) (.tmp 26) rfl w.heap.size out.length out.length (List.replicate out.length 0#8) rfl HO1.out (by simp) a out.length c out rfl rfl (HV.out.st HS1.out (Dj.no _)).bs (by simp) ?_; intro w2 ho2 hs2; have HO2 := Lib.hid ho2; have HS2 := Lib.hid hs2; clear ho2 hs2))
      go_ret2
      refine .inr ⟨rfl, w.heap.size, rfl, ?_, Nat.le_refl _, ?_⟩
      · have := HO2.out
        rw [List.drop_eq_nil_of_le (by simp), List.append_nil] at this
        exact this
      · exact (HS1.out.drop (fun k hk => .inr (by subst hk; simp [fpV, Value.ownBlock]))).trans HS2.out
    · have hb : (err != 0) = true := by rw [bne_iff_ne]; exact he
      have HE := Lib.hid he
      clear he
      go_enter Try.func106, Try.ntmps106
      go_wp2
      go_quiet (fail)
      go_wp2
      go_ret2
      exact .inl ⟨HE.out, rfl, St.drewN _ _ _⟩

end Go.Proofs.Ytoeafacamapofaa
