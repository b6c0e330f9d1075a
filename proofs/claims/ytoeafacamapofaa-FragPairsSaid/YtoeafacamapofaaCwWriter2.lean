
/-
  The walks over the program's writer: fits, number.
  The walks over the program's writer: Raw, groups, and the handle that may be nil.
-/
import Derived.Test.YtoeafacamapofaaBytes
import Derived.Deep.RegionLaw
import Derived.Laws.ResultCell
namespace Go.Proofs.Ytoeafacamapofaa
open Go.RowKit
set_option linter.unusedVariables false
set_option linter.unusedSimpArgs false

/-- append of bytes as one step of a region that draws -/
theorem step_appB {ops : Array Oper} {o : Oper} {ac : Act} {w : World} {K : Act → World → Prop} {Q : Exit → Act → World → Prop} {E : Prop} (hgd : o.guard = none) (s x : Operand)
    (ho : o.op = .call { callee := .builtin .append, args := #[s, x], argTypes := #[25, 25] })
    (v : Value) (xs : List B8) (hs : ac.eval s = v) (hown : OwB w v xs) (a : Option Addr) (m c : Nat) (ys : List B8) (hx : ac.eval x = .slice a m c) (hm : m = ys.length) (hsrc : Bs w a ys) (hmc : a = none → c = 0)
    (hlen : xs.length + ys.length ≤ 140737488355328)
    (h : ∀ v' w', OwB w' v' (xs ++ ys) → St (fpV v) w (fpV v') w' → (v' = .slice none 0 0 ↔ v = .slice none 0 0 ∧ ys.length = 0) → K (ac.put o.dst v') w') :
    if Region.wanted o (yielded ops ac.tmps) = true then Oper.wp Try.prog o ac w K Q else E := by
  have hw : Region.wanted o (yielded ops ac.tmps) = true := by simp [Region.wanted, hgd]
  rw [if_pos hw]
  obtain ⟨i, hi, hz, hsz, hb⟩ := info_parts u8info
  subst hm
  obtain ⟨v', w', hr, h2, h3, h4⟩ := append_run (P := Try.prog) w 25 o.type 5 i (.int .u8 0) 1 1 Try.underlying25 hi hz hsz hb rfl (by decide) v xs.length (bv xs) hown a ys.length c (bv ys) hsrc.src hmc (by unfold maxLen; omega) (by omega)
  unfold Oper.wp execOp
  simp only [ho, resolve, invoke, builtin, Sem.run_bind, Sem.run_pure, Result.andThen_ok, List.map_toArray, List.map_cons, List.map_nil, hs, hx, hr]
  refine h v' w' ?_ h3 h4
  unfold OwB
  rw [bv_append, List.length_append]
  exact h2

theorem bs_one {w : World} {v : Int} {b : B8} (h : v = (b.toNat : Int)) : Bs ((w.alloc (.cells #[.int .u8 v] 5)).drew) (some ⟨w.heap.size, 0, none⟩) [b] := by
  subst h
  exact rd_row (heap_alloc_new w (.cells #[.int .u8 (b.toNat : Int)] 5))
theorem OwB.new {w : World} {v : Value} {xs : List B8} (h : OwB w v xs) (o : Obj) : OwB (w.alloc o).drew v xs := h.move (fun k hk => Below.heap_alloc _ _ _ (h.in k hk))
theorem byte_of (x : BitVec 64) (t : Nat) : IntKind.u8.wrap ((x.toNat : Int) / 2 ^ t) = (((x >>> t).setWidth 8).toNat : Int) := by
  rw [IntKind.wrap_u8, BitVec.toNat_setWidth, BitVec.toNat_ushiftRight, Nat.shiftRight_eq_div_pow]
  simp
theorem Ob.behind {w w2 : World} {p : Nat} {T : TypeId} {cs : Array Value} {F F' : Nat → Prop} (ho : Ob w p T cs) (hn : ¬ F p) (st : St F w F' w2) : Ob w2 p T cs := ho.move (st.block p ho.lt hn)
theorem Ob.new {w : World} {p : Nat} {T : TypeId} {cs : Array Value} (ho : Ob w p T cs) (o : Obj) : Ob (w.alloc o).drew p T cs := ho.move (Below.heap_alloc _ _ _ ho.lt)
/-- a writer's state -/
structure WS where
  lim : Int
  out : List B8
  err : Int
/-- bytes laid down, all or none -/
def WS.put (s : WS) (bs : List B8) : WS :=
  if s.err = 0 then (if (bs.length : Int) > s.lim - (s.out.length : Int) then { s with err := 20 } else { s with out := s.out ++ bs }) else s
/-- a writer in memory -/
def Wr (w : World) (F : Nat → Prop) (p : Nat) (s : WS) : Prop :=
  ∃ V, Ob w p 218 #[.int .i64 s.lim, V, .int .i64 s.err] ∧ OwB w V s.out ∧ ¬ fpV V p ∧ (∀ k, F k ↔ k = p ∨ fpV V k)
/-- its numbers are in their bounds -/
structure WS.ok (s : WS) : Prop where
  lo : 0 ≤ s.lim
  hi : s.lim ≤ 16777216
  fit : (s.out.length : Int) ≤ s.lim
theorem Wr.in {w : World} {F : Nat → Prop} {p : Nat} {s : WS} (h : Wr w F p s) : In F w := by
  obtain ⟨V, ho, hv, hn, hF⟩ := h
  intro k hk
  rcases (hF k).1 hk with rfl | hk
  · exact ho.lt
  · exact hv.in k hk
theorem Wr.move {w w' : World} {F : Nat → Prop} {p : Nat} {s : WS} (h : Wr w F p s) (e : ∀ k, F k → w'.heap[k]? = w.heap[k]?) : Wr w' F p s := by
  obtain ⟨V, ho, hv, hn, hF⟩ := h
  exact ⟨V, ho.move (e p ((hF p).2 (.inl rfl))), hv.move (fun k hk => e k ((hF k).2 (.inr hk))), hn, hF⟩
theorem Wr.st {w w' : World} {F G G' : Nat → Prop} {p : Nat} {s : WS} (h : Wr w F p s) (t : St G w G' w') (hd : Dj G F) : Wr w' F p s := h.move (t.same h.in hd)

theorem WS.put_ok {s : WS} (h : s.ok) (bs : List B8) : (s.put bs).ok := by
  unfold WS.put
  split
  · split
    · exact ⟨h.lo, h.hi, h.fit⟩
    · refine ⟨h.lo, h.hi, ?_⟩
      simp only [List.length_append]
      omega
  · exact h

set_option maxRecDepth 100000 in
set_option maxHeartbeats 1000000 in
theorem fits_nil (n : Int) (w : World) : Calls Try.prog 126 #[.pointer none, .int .i64 n] w fun e w' => e = .returned (.bool false) ∧ w = w' := by
  go_enter Try.func126, Try.ntmps126
  go_wp2
  go_ret
  exact ⟨rfl, rfl⟩

/-- what fits says and leaves -/
def FitsPost (w : World) (F : Nat → Prop) (p : Nat) (s : WS) (n : Int) (e : Ending) (w' : World) : Prop :=
  (s.err = 0 ∧ n ≤ s.lim - (s.out.length : Int) ∧ e = .returned (.bool true) ∧ Wr w' F p s ∧ St F w F w') ∨
  (¬ (s.err = 0 ∧ n ≤ s.lim - (s.out.length : Int)) ∧ e = .returned (.bool false) ∧ Wr w' F p (if s.err = 0 then { s with err := 20 } else s) ∧ St F w F w')

theorem Wr.open {w : World} {F : Nat → Prop} {p : Nat} {s : WS} (h : Wr w F p s) : ∃ a c, w.cell? ⟨p, 0, none⟩ = some (.int .i64 s.lim) ∧ w.cell? ⟨p, 1, none⟩ = some (.slice a s.out.length c) ∧ w.cell? ⟨p, 2, none⟩ = some (.int .i64 s.err) ∧
    w.frozen? ⟨p, 1, none⟩ = false ∧ w.frozen? ⟨p, 2, none⟩ = false ∧ OwB w (.slice a s.out.length c) s.out ∧ s.out.length ≤ c ∧ c ≤ maxLen ∧ (a = none → s.out.length = 0 ∧ c = 0) ∧
    Ob w p 218 #[.int .i64 s.lim, .slice a s.out.length c, .int .i64 s.err] ∧ ¬ fpV (.slice a s.out.length c) p ∧ (∀ k, F k ↔ k = p ∨ fpV (.slice a s.out.length c) k) := by
  obtain ⟨V, ho, hv, hnp, hF⟩ := h
  obtain ⟨a, c, rfl, hc1, hc2, hfp, hnone⟩ := hv.form
  exact ⟨a, c, by rw [ho.cell 0]; rfl, by rw [ho.cell 1]; rfl, by rw [ho.cell 2]; rfl, ho.free 1, ho.free 2, hv, hc1, hc2, hnone, ho, hnp, hF⟩
theorem Wr.self {w : World} {F : Nat → Prop} {p : Nat} {s : WS} (h : Wr w F p s) : F p := by
  obtain ⟨V, ho, hv, hnp, hF⟩ := h
  exact (hF p).2 (.inl rfl)
theorem Wr.setErr {w : World} {F : Nat → Prop} {p : Nat} {s : WS} (h : Wr w F p s) (e : Int) : Wr (w.setCell ⟨p, 2, none⟩ (.int .i64 e)) F p { s with err := e } := by
  obtain ⟨V, ho, hv, hnp, hF⟩ := h
  refine ⟨V, ho.set 2 _, hv.move (fun k hk => Below.heap_setCell _ _ _ _ (fun e => hnp (by have e2 : k = p := e; rw [← e2]; exact hk))), hnp, hF⟩
theorem Wr.drewN {w : World} {F : Nat → Prop} {p : Nat} {s : WS} (h : Wr w F p s) (n : Nat) : Wr (w.drewN n) F p s := h.move (fun _ _ => rfl)
/-- a new slice value behind an append -/
theorem Wr.setOut {w w1 : World} {F : Nat → Prop} {p : Nat} {s : WS} {V V' : Value} {out' : List B8} (ho : Ob w p 218 #[.int .i64 s.lim, V, .int .i64 s.err]) (hnp : ¬ fpV V p) (hF : ∀ k, F k ↔ k = p ∨ fpV V k)
    (hv : OwB w1 V' out') (st : St (fpV V) w (fpV V') w1) : Wr (w1.setCell ⟨p, 1, none⟩ V') (fun k => k = p ∨ fpV V' k) p { s with out := out' } ∧ St F w (fun k => k = p ∨ fpV V' k) (w1.setCell ⟨p, 1, none⟩ V') := by
  have hlt := ho.lt
  have hn1 : ¬ fpV V' p := fun h => (st.new p h).elim hnp (fun h => absurd hlt (Nat.not_lt.2 h))
  have ho1 : Ob w1 p 218 #[.int .i64 s.lim, V, .int .i64 s.err] := ho.move (st.block p hlt hnp)
  refine ⟨⟨V', ho1.set 1 _, hv.move (fun k hk => Below.heap_setCell _ _ _ _ (fun e => hn1 (by have e2 : k = p := e; rw [← e2]; exact hk))), hn1, fun k => Iff.rfl⟩, ?_⟩
  refine St.trans (G := fun k => k = p ∨ fpV V' k) (st.wide (fun k hk => (hF k).2 (.inr hk)) ?_) (St.setCell (F := fun k => k = p ∨ fpV V' k) w1 ⟨p, 1, none⟩ V' (.inl rfl))
  intro k hk
  rcases hk with rfl | hk
  · exact .inl ((hF k).2 (.inl rfl))
  · exact .inr hk

set_option maxRecDepth 100000 in
set_option maxHeartbeats 1000000 in
theorem fits_calls (n : Int) (hn0 : 0 ≤ n) (w : World) (F : Nat → Prop) (p : Nat) (s : WS) (hs : s.ok) (h : Wr w F p s) :
    Calls Try.prog 126 #[.pointer (some ⟨p, 0, none⟩), .int .i64 n] w (FitsPost w F p s n) := by
  obtain ⟨lim, out, err⟩ := s
  obtain ⟨a, c, k0, k1, k2, f1, f2, hv, hc1, hc2, hnone, ho, hnp, hF⟩ := h.open
  have HH := Lib.hid h
  have hlo := hs.lo
  have hhi := hs.hi
  have hfit := hs.fit
  simp only at hlo hhi hfit k0 k1 k2 hc1
  clear ho hv hs hnone hF h
  by_cases he : err = 0
  · subst he
    by_cases hn : lim - (out.length : Int) < n
    · go_enter Try.func126, Try.ntmps126
      go_wp2
      go_quiet (fail)
      go_wp2
      go_ret
      exact .inr ⟨by simp; omega, rfl, by rw [if_pos rfl]; exact (HH.out.drewN _).setErr 20, (St.drewN _ _ _).trans (St.setCell _ _ _ HH.out.self)⟩
    · go_enter Try.func126, Try.ntmps126
      go_wp2
      go_quiet (fail)
      go_wp2
      go_ret
      exact .inl ⟨rfl, by simp; omega, rfl, HH.out.drewN _, St.drewN _ _ _⟩
  · have hb : (err != 0) = true := by rw [bne_iff_ne]; exact he
    have HE := Lib.hid he
    clear he
    go_enter Try.func126, Try.ntmps126
    go_wp2
    go_ret
    exact .inr ⟨fun h => HE.out h.1, rfl, by rw [if_neg HE.out]; exact HH.out, St.refl _ _⟩

/-- what a laying leaves -/
def PutPost (w : World) (F : Nat → Prop) (p : Nat) (s : WS) (bs : List B8) (e : Ending) (w' : World) : Prop :=
  e = .returned (.tuple #[]) ∧ ∃ F', Wr w' F' p (s.put bs) ∧ St F w F' w'
/-- the n lowest bytes of x, the highest first: the first j of them -/
def beTo (x : BitVec 64) (n : Nat) : Nat → List B8
  | 0 => []
  | j + 1 => beTo x n j ++ [(x >>> (8 * (n - 1 - j))).setWidth 8]
theorem beTo_len (x : BitVec 64) (n j : Nat) : (beTo x n j).length = j := by
  induction j with
  | zero => rfl
  | succ j ih => simp [beTo, ih]

set_option maxRecDepth 100000 in
set_option maxHeartbeats 2000000 in
theorem number_nil (x : BitVec 64) (n : Int) (w : World) : Calls Try.prog 125 #[.pointer none, .int .u64 (x.toNat : Int), .int .i64 n] w fun e w' => e = .returned (.tuple #[]) ∧ w = w' := by
  go_enter Try.func125, Try.ntmps125
  go_wp2_with fail
  refine (fits_nil n w).mono ?_
  rintro e w1 ⟨rfl, rfl⟩
  go_wp2
  refine bodyPost_ret (results_none rfl _ _ _) rfl ?_
  exact ⟨rfl, rfl⟩

set_option maxRecDepth 100000 in
set_option maxHeartbeats 2000000 in
theorem number_calls (x : BitVec 64) (n : Nat) (hn : n ≤ 8) (w : World) (F : Nat → Prop) (p : Nat) (s : WS) (hs : s.ok) (h : Wr w F p s) :
    Calls Try.prog 125 #[.pointer (some ⟨p, 0, none⟩), .int .u64 (x.toNat : Int), .int .i64 (n : Int)] w (PutPost w F p s (beTo x n n)) := by
  have HW := Lib.hid h
  have HOK := Lib.hid hs
  clear h hs
  go_enter Try.func125, Try.ntmps125
  go_wp2_with fail
  refine (fits_calls n (by omega) w F p s HOK.out HW.out).mono ?_
  rintro e w1 (⟨he, hfit, rfl, hw1, hs1⟩ | ⟨hno, rfl, hw1, hs1⟩)
  · have HW1 := Lib.hid hw1
    have HS1 := Lib.hid hs1
    have HFIT := Lib.hid hfit
    have HE := Lib.hid he
    clear he hfit hw1 hs1
    go_wp2
    go_loopw [6] (fun i wr => ∃ m : Nat, m ≤ n ∧ (∃ q : Int, i = .int .i64 q ∧ Hid (q = (m : Int) - 1)) ∧ ∃ F1, Hid (Wr wr F1 p { s with out := s.out ++ beTo x n (n - m) }) ∧ Hid (St F w F1 wr)) (fun i _ => (intOf i + 1).toNat)
    case atStart => exact ⟨n, Nat.le_refl _, ⟨_, rfl, Lib.hid rfl⟩, F, Lib.hid (by rw [Nat.sub_self]; simpa [beTo] using HW1.out), HS1⟩
    case round =>
      clear HW1 HS1
      obtain ⟨m, hm, ⟨q, rfl, hq⟩, F1, HWr, HSr⟩ := hrel
      cases m with
      | zero =>
        obtain rfl : q = -1 := by have := hq.out; omega
        go_wp2
        go_end0
        refine ⟨rfl, F1, ?_, HSr.out⟩
        have h3 := HWr.out
        have hf := HFIT.out
        unfold WS.put
        rw [if_pos HE.out, beTo_len, if_neg (by omega)]
        exact h3
      | succ j =>
        obtain rfl : q = (j : Int) := by have := hq.out; omega
        obtain ⟨a, c, k0, k1, k2, f1, f2, hv, hc1, hc2, hnone, ho, hnp, hF⟩ := HWr.out.open
        have HV := Lib.hid hv
        have hpl := ho.lt
        have HO := Lib.hid ho
        have HN := Lib.hid hnone
        have HF1 := Lib.hid hF
        have HL : Hid ((s.out ++ beTo x n (n - (j + 1))).length ≤ 16777216) := Lib.hid (by have := HOK.out.hi; have := HFIT.out; simp [beTo_len]; omega)
        have HN1 := Lib.hid hnp
        simp only at k1 hc1
        generalize hxs : s.out ++ beTo x n (n - (j + 1)) = xs at *
        clear hv ho hnone hF hc2 k0 k2 f2 hnp
        obtain ⟨t, ht⟩ : ∃ t : Nat, 8 * j = t := ⟨_, rfl⟩
        have hwt : IntKind.i64.wrap (8 * (j : Int)) = (t : Int) := by rw [IntKind.wrap_i64]; omega
        have ht64 : t ≤ 56 := by omega
        have HT := Lib.hid ht
        clear ht
        have HB := Lib.hid (byte_of x t)
        go_wp2
        go_region_law (refine step_appB rfl (.tmp 21) (.tmp 27) rfl _ xs rfl (HV.out.new _) (some ⟨wr.heap.size, 0, none⟩) 1 1 [(x >>> t).setWidth 8] rfl rfl (bs_one HB.out) (fun h => by cases h) (by have := HL.out; simp; omega) ?_; intro v' w2 ho2 hs2 hn2; have HO2 := Lib.hid ho2; have HS2 := Lib.hid hs2; have HN2 := Lib.hid hn2; clear ho2 hs2 hn2; have hob := (HO.out.new _).behind HN1.out HS2.out; have k1' := hob.cell 1; have f1' := hob.free 1; simp only [List.getElem?_toArray, List.getElem?_cons_zero, List.getElem?_cons_succ] at k1'; obtain ⟨a', c', rfl, _, _, _, _⟩ := HO2.out.form; clear hob)
        all_goals
          go_wp2
          go_roundw
          case rel =>
            have hst := Wr.setOut (s := { s with out := xs }) (HO.out.new (.cells #[.int .u8 (IntKind.u8.wrap ((x.toNat : Int) / 2 ^ t))] 5)) HN1.out HF1.out HO2.out HS2.out
            have e1 : (xs ++ [(x >>> t).setWidth 8]).length = xs.length + 1 := by simp
            rw [e1] at hst
            have hb : xs ++ [(x >>> t).setWidth 8] = s.out ++ beTo x n (n - j) := by
              rw [show n - j = (n - (j + 1)) + 1 by omega]
              simp only [beTo]
              rw [← List.append_assoc, hxs, show n - 1 - (n - (j + 1)) = j by omega, HT.out]
            have h1 := hst.1
            rw [hb] at h1
            exact ⟨j, by omega, ⟨_, rfl, Lib.hid rfl⟩, _, Lib.hid h1, Lib.hid (HSr.out.trans ((St.alloc' F1 wr _).trans ((St.drew F1 _).trans hst.2)))⟩
          case measure => simp [intOf] <;> omega
  · have HW1 := Lib.hid hw1
    have HS1 := Lib.hid hs1
    have HNO := Lib.hid hno
    clear hno hw1 hs1
    go_wp2
    go_end0
    refine ⟨rfl, F, ?_, HS1.out⟩
    have h2 := HNO.out
    unfold WS.put
    rw [beTo_len]
    have h3 := HW1.out
    by_cases he : s.err = 0
    · rw [if_pos he] at h3 ⊢
      rw [if_pos (by have : ¬ (n : Int) ≤ s.lim - (s.out.length : Int) := fun h => h2 ⟨he, h⟩; omega)]
      exact h3
    · rw [if_neg he] at h3 ⊢
      exact h3

end Go.Proofs.Ytoeafacamapofaa
namespace Go.Proofs.Ytoeafacamapofaa
open Go.RowKit
set_option linter.unusedVariables false
set_option linter.unusedSimpArgs false

theorem WS.put_eq (s : WS) (bs : List B8) (h1 : s.err = 0) (h2 : (bs.length : Int) ≤ s.lim - (s.out.length : Int)) : s.put bs = { s with out := s.out ++ bs } := by
  unfold WS.put
  rw [if_pos h1, if_neg (by omega)]
theorem WS.put_no (s : WS) (bs : List B8) (h : ¬ (s.err = 0 ∧ (bs.length : Int) ≤ s.lim - (s.out.length : Int))) : s.put bs = if s.err = 0 then { s with err := 20 } else s := by
  unfold WS.put
  by_cases he : s.err = 0
  · rw [if_pos he, if_pos he, if_pos (by have : ¬ (bs.length : Int) ≤ s.lim - (s.out.length : Int) := fun h2 => h ⟨he, h2⟩; omega)]
  · rw [if_neg he, if_neg he]

set_option maxRecDepth 100000 in
set_option maxHeartbeats 2000000 in
theorem raw_nil (a : Option Addr) (n c : Nat) (w : World) : Calls Try.prog 105 #[.pointer none, .slice a n c] w fun e w' => e = .returned (.tuple #[]) ∧ w = w' := by
  go_enter Try.func105, Try.ntmps105
  go_wp2_with fail
  refine (fits_nil n w).mono ?_
  rintro e w1 ⟨rfl, rfl⟩
  go_wp2
  go_end0
  exact ⟨rfl, rfl⟩

set_option maxRecDepth 100000 in
set_option maxHeartbeats 2000000 in
theorem raw_calls (a : Option Addr) (c : Nat) (bs : List B8) (hac : a = none → c = 0) (w : World) (F : Nat → Prop) (p : Nat) (s : WS) (hs : s.ok) (h : Wr w F p s) (hb : Bs w a bs) (hd : Apart F a bs) :
    Calls Try.prog 105 #[.pointer (some ⟨p, 0, none⟩), .slice a bs.length c] w (PutPost w F p s bs) := by
  have HW := Lib.hid h
  have HOK := Lib.hid hs
  have HB := Lib.hid hb
  have HD := Lib.hid hd
  have HAC := Lib.hid hac
  clear h hs hb hd hac
  go_enter Try.func105, Try.ntmps105
  go_wp2_with fail
  refine (fits_calls bs.length (by omega) w F p s HOK.out HW.out).mono ?_
  rintro e w1 (⟨he, hfit, rfl, hw1, hs1⟩ | ⟨hno, rfl, hw1, hs1⟩)
  · have HB1 := Lib.hid (HB.out.stA hs1 HD.out)
    have HP := Lib.hid (WS.put_eq s bs he hfit)
    obtain ⟨a1, c1, k0, k1, k2, f1, f2, hv, hc1, hc2, hnone, ho, hnp, hF⟩ := hw1.open
    have HV := Lib.hid hv
    have HO := Lib.hid ho
    have HN1 := Lib.hid hnp
    have HF1 := Lib.hid hF
    have HS1 := Lib.hid hs1
    have hl1 : s.out.length + bs.length ≤ 140737488355328 := by have := HOK.out.hi; omega
    have HL := Lib.hid hl1
    clear he hfit hw1 hs1 hv ho hnp hF hnone hc2 k0 k2 f2 hl1
    go_wp2_with (at_builtin; refine wpList_appB rfl (.tmp 12) (.tmp 13) rfl _ s.out rfl HV.out a bs.length c bs rfl rfl HB1.out HAC.out HL.out ?_; intro v' w2 ho2 hs2 hn2; have HO2 := Lib.hid ho2; have HS2 := Lib.hid hs2; clear ho2 hs2 hn2; have hob := HO.out.behind HN1.out HS2.out; have k1' := hob.cell 1; have f1' := hob.free 1; simp only [List.getElem?_toArray, List.getElem?_cons_zero, List.getElem?_cons_succ] at k1'; obtain ⟨a', c', rfl, _, _, _, _⟩ := HO2.out.form; clear hob)
    go_end0
    have hst := Wr.setOut (s := s) HO.out HN1.out HF1.out HO2.out HS2.out
    rw [List.length_append] at hst
    refine ⟨rfl, ?_⟩
    rw [HP.out]
    exact ⟨_, hst.1, HS1.out.trans hst.2⟩
  · have HW1 := Lib.hid hw1
    have HS1 := Lib.hid hs1
    have HNO := Lib.hid hno
    clear hno hw1 hs1
    go_wp2
    go_end0
    refine ⟨rfl, F, ?_, HS1.out⟩
    rw [WS.put_no s bs HNO.out]
    exact HW1.out


theorem results_cell_row_tmp {P : Program} {fn : Func} {p u : Tmp} {ty : TypeId} (h : fn.results = #[.cell p ty, .tmp u]) (tmps : Array Value) (w : World) (g : Nat) (t : TypeId) (cs : Array Value) (fr : Nat × Nat) (d : TypeDesc)
    (hp : tmps.getD p undef = .pointer (some ⟨g, 0, none⟩)) (hg : w.heap[g]? = some (.cells cs t fr))
    (hu : P.underlying ty = some d) (hd : (match d with | .struct _ | .array _ _ => true | _ => false) = true) (hi : (P.info? ty).map (·.size) = some cs.size) :
    (results fn tmps).run P w = .ok (.tuple #[.agg cs, tmps.getD u undef]) w := by
  rw [results_cell_tmp h, hp]
  simp [asAddr, run_loadVar_row w g t ty cs fr d hg hu hd hi, Result.andThen]

/-- the groups of a number, with so many rounds at the most -/
def groupsF : Nat → Nat → List B8
  | 0, x => [BitVec.ofNat 8 x]
  | f + 1, x => if x < 128 then [BitVec.ofNat 8 x] else BitVec.ofNat 8 (x % 128 + 128) :: groupsF f (x / 128)
def groupsB (x : Nat) : List B8 := groupsF 9 x
theorem groupsF_len (f x : Nat) : 1 ≤ (groupsF f x).length ∧ (groupsF f x).length ≤ f + 1 := by
  induction f generalizing x with
  | zero => simp [groupsF]
  | succ f ih =>
    simp only [groupsF]
    split
    · simp
    · have := ih (x / 128)
      simp only [List.length_cons]
      omega
theorem groupsB_len (x : Nat) : 1 ≤ (groupsB x).length ∧ (groupsB x).length ≤ 10 := groupsF_len 9 x
theorem bv_one' (ms : List B8) : (bv ms).toArray.all (·.oneCell') = true := by
  rw [Array.all_eq_true_iff_forall_mem]
  intro v hv
  exact bv_one ms v (by simpa using hv)
theorem or128 (x : Nat) (h : x < 18446744073709551616) : bits .or .u8 (((x : Nat) : Int) % 256) 128 = (((BitVec.ofNat 8 (x % 128 + 128)).toNat : Nat) : Int) := by
  have e : ((x : Int) % 256) = (((x % 256 : Nat)) : Int) := by omega
  have e2 : (128 : Int) = ((128 : Nat) : Int) := rfl
  rw [e, e2, (bits_nat .u8 8 (by decide) wraps_u8 (x % 256) 128 (by omega) (by omega)).2]
  congr 1
  rw [BitVec.toNat_ofNat]
  have key : ∀ y : Fin 256, y.val ||| 128 = (y.val % 128 + 128) % 256 := by decide +kernel
  have := key ⟨x % 256, by omega⟩
  simp only at this
  rw [this]
  omega

end Go.Proofs.Ytoeafacamapofaa
