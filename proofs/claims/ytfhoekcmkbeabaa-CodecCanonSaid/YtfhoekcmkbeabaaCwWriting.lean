
/-
  The walks over the reference's Writing.
-/
import Derived.Test.YtfhoekcmkbeabaaCwThing
import Derived.Test.YtfhoekcmkbeabaaCwWriter5
namespace Go.Proofs.Ytfhoekcmkbeabaa
open Go.RowKit
set_option linter.unusedVariables false
set_option linter.unusedSimpArgs false

/-- the reference's writer in memory -/
def Rw (w : World) (F : Nat → Prop) (p : Nat) (th : Bool) (s : WS) : Prop :=
  ∃ V, Ob w p 44 #[.bool th, .int .i64 s.lim, V, .int .i64 s.err] ∧ OwB w V s.out ∧ ¬ fpV V p ∧ (∀ k, F k ↔ k = p ∨ fpV V k)
theorem Rw.in {w : World} {F : Nat → Prop} {p : Nat} {th : Bool} {s : WS} (h : Rw w F p th s) : In F w := by
  obtain ⟨V, ho, hv, hn, hF⟩ := h
  intro k hk
  rcases (hF k).1 hk with rfl | hk
  · exact ho.lt
  · exact hv.in k hk
theorem Rw.move {w w' : World} {F : Nat → Prop} {p : Nat} {th : Bool} {s : WS} (h : Rw w F p th s) (e : ∀ k, F k → w'.heap[k]? = w.heap[k]?) : Rw w' F p th s := by
  obtain ⟨V, ho, hv, hn, hF⟩ := h
  exact ⟨V, ho.move (e p ((hF p).2 (.inl rfl))), hv.move (fun k hk => e k ((hF k).2 (.inr hk))), hn, hF⟩
theorem Rw.st {w w' : World} {F G G' : Nat → Prop} {p : Nat} {th : Bool} {s : WS} (h : Rw w F p th s) (t : St G w G' w') (hd : Dj G F) : Rw w' F p th s := h.move (t.same h.in hd)
theorem Rw.open {w : World} {F : Nat → Prop} {p : Nat} {th : Bool} {s : WS} (h : Rw w F p th s) : ∃ a c, w.cell? ⟨p, 0, none⟩ = some (.bool th) ∧ w.cell? ⟨p, 1, none⟩ = some (.int .i64 s.lim) ∧ w.cell? ⟨p, 2, none⟩ = some (.slice a s.out.length c) ∧ w.cell? ⟨p, 3, none⟩ = some (.int .i64 s.err) ∧
    w.frozen? ⟨p, 2, none⟩ = false ∧ w.frozen? ⟨p, 3, none⟩ = false ∧ OwB w (.slice a s.out.length c) s.out ∧ s.out.length ≤ c ∧ c ≤ maxLen ∧ (a = none → s.out.length = 0 ∧ c = 0) ∧
    Ob w p 44 #[.bool th, .int .i64 s.lim, .slice a s.out.length c, .int .i64 s.err] ∧ ¬ fpV (.slice a s.out.length c) p ∧ (∀ k, F k ↔ k = p ∨ fpV (.slice a s.out.length c) k) := by
  obtain ⟨V, ho, hv, hnp, hF⟩ := h
  obtain ⟨a, c, rfl, hc1, hc2, hfp, hnone⟩ := hv.form
  exact ⟨a, c, by rw [ho.cell 0]; rfl, by rw [ho.cell 1]; rfl, by rw [ho.cell 2]; rfl, by rw [ho.cell 3]; rfl, ho.free 2, ho.free 3, hv, hc1, hc2, hnone, ho, hnp, hF⟩
theorem Rw.self {w : World} {F : Nat → Prop} {p : Nat} {th : Bool} {s : WS} (h : Rw w F p th s) : F p := by
  obtain ⟨V, ho, hv, hnp, hF⟩ := h
  exact (hF p).2 (.inl rfl)
theorem Rw.setErr {w : World} {F : Nat → Prop} {p : Nat} {th : Bool} {s : WS} (h : Rw w F p th s) (e : Int) : Rw (w.setCell ⟨p, 3, none⟩ (.int .i64 e)) F p th { s with err := e } := by
  obtain ⟨V, ho, hv, hnp, hF⟩ := h
  refine ⟨V, ho.set 3 _, hv.move (fun k hk => Below.heap_setCell _ _ _ _ (fun e => hnp (by have e2 : k = p := e; rw [← e2]; exact hk))), hnp, hF⟩
theorem Rw.drewN {w : World} {F : Nat → Prop} {p : Nat} {th : Bool} {s : WS} (h : Rw w F p th s) (n : Nat) : Rw (w.drewN n) F p th s := h.move (fun _ _ => rfl)
theorem Rw.setOut {w w1 : World} {F : Nat → Prop} {p : Nat} {th : Bool} {s : WS} {V V' : Value} {out' : List B8} (ho : Ob w p 44 #[.bool th, .int .i64 s.lim, V, .int .i64 s.err]) (hnp : ¬ fpV V p) (hF : ∀ k, F k ↔ k = p ∨ fpV V k)
    (hv : OwB w1 V' out') (st : St (fpV V) w (fpV V') w1) : Rw (w1.setCell ⟨p, 2, none⟩ V') (fun k => k = p ∨ fpV V' k) p th { s with out := out' } ∧ St F w (fun k => k = p ∨ fpV V' k) (w1.setCell ⟨p, 2, none⟩ V') := by
  have hlt := ho.lt
  have hn1 : ¬ fpV V' p := fun h => (st.new p h).elim hnp (fun h => absurd hlt (Nat.not_lt.2 h))
  have ho1 : Ob w1 p 44 #[.bool th, .int .i64 s.lim, V, .int .i64 s.err] := ho.move (st.block p hlt hnp)
  refine ⟨⟨V', ho1.set 2 _, hv.move (fun k hk => Below.heap_setCell _ _ _ _ (fun e => hn1 (by have e2 : k = p := e; rw [← e2]; exact hk))), hn1, fun k => Iff.rfl⟩, ?_⟩
  refine St.trans (G := fun k => k = p ∨ fpV V' k) (st.wide (fun k hk => (hF k).2 (.inr hk)) ?_) (St.setCell (F := fun k => k = p ∨ fpV V' k) w1 ⟨p, 2, none⟩ V' (.inl rfl))
  intro k hk
  rcases hk with rfl | hk
  · exact .inl ((hF k).2 (.inl rfl))
  · exact .inr hk

/-- which limits are taken -/
def limOk (lim : Int) : Bool := decide (0 ≤ lim) && decide (lim ≤ 16777216)
def newWs (lim : Int) : WS := ⟨if limOk lim then lim else 0, [], 0⟩
theorem newWs_ok (lim : Int) : (newWs lim).ok := by
  unfold newWs limOk
  constructor <;> simp <;> split <;> omega
def NewRPost (lim : Int) (w : World) (e : Ending) (w' : World) : Prop :=
  e = .returned (.tuple #[.agg #[.bool (limOk lim), .int .i64 (newWs lim).lim, .slice none 0 0, .int .i64 0], .int .i64 (if limOk lim then 0 else 2)]) ∧ St No w No w'
set_option maxRecDepth 100000 in
theorem newWriting_calls (lim : Int) (w : World) : Calls Try.prog 31 #[.int .i64 lim] w (NewRPost lim w) := by
  have hu := Try.underlying44
  by_cases h0 : lim < 0
  · have H : Hid (limOk lim = false) := Lib.hid (by simp [limOk]; omega)
    go_enter Try.func31, Try.ntmps31
    go_wp2
    refine bodyPost_ret (results_cell_row_tmp rfl _ _ w.heap.size _ _ _ _ rfl (Ob.alloc w _ _) hu rfl rfl) rfl ?_
    exact ⟨by simp [newWs, H.out], St.alloc' _ _ _⟩
  · by_cases h1 : 16777216 < lim
    · have H : Hid (limOk lim = false) := Lib.hid (by simp [limOk]; omega)
      go_enter Try.func31, Try.ntmps31
      go_wp2
      refine bodyPost_ret (results_cell_row_tmp rfl _ _ w.heap.size _ _ _ _ rfl (Ob.alloc w _ _) hu rfl rfl) rfl ?_
      exact ⟨by simp [newWs, H.out], St.alloc' _ _ _⟩
    · have H : Hid (limOk lim = true) := Lib.hid (by simp [limOk]; omega)
      go_enter Try.func31, Try.ntmps31
      go_wp2
      refine bodyPost_ret (results_cell_row_tmp rfl _ _ w.heap.size _ _ _ _ rfl (Ob.alloc w _ _) hu rfl rfl) rfl ?_
      exact ⟨by simp [newWs, H.out], St.alloc' _ _ _⟩

theorem Th.bytes_len (t : Th) (h : t.bs.length ≤ 140737488351232) : t.bytes.length ≤ 140737488355328 := by
  have g1 := (groupsB_len t.n.toNat).2
  have g2 := (groupsB_len (zig t.i)).2
  have g3 := (groupsB_len t.bs.length).2
  unfold Th.bytes
  repeat' split
  all_goals first | (rw [beTo_len]; omega) | (rw [List.length_append]; omega) | (simp; done) | omega
def RLayPost (w : World) (F : Nat → Prop) (p : Nat) (th : Bool) (s : WS) (e : Ending) (w' : World) : Prop :=
  e = .returned (.tuple #[]) ∧ ∃ F', Rw w' F' p th s ∧ St F w F' w'
set_option maxRecDepth 100000 in
set_option maxHeartbeats 1000000 in
theorem rLay_calls (t : Th) (w : World) (F : Nat → Prop) (p : Nat) (th : Bool) (s : WS) (hs : s.ok) (h : Rw w F p th s) (ht : t.ok w) (hd : Apart F t.a t.bs) :
    Calls Try.prog 35 #[.pointer (some ⟨p, 0, none⟩), .agg t.cells] w (RLayPost w F p th (putT th s t.bytes)) := by
  obtain ⟨a, c, k0, k1, k2, k3, f2, f3, hv, hc1, hc2, hnone, ho, hnp, hF⟩ := h.open
  have hpl := ho.lt
  have HH := Lib.hid h
  have HO := Lib.hid ho
  have HV := Lib.hid hv
  have HN := Lib.hid hnone
  have HF := Lib.hid hF
  have HNP := Lib.hid hnp
  have HOK := Lib.hid hs
  have HT := Lib.hid ht
  have HD := Lib.hid hd
  clear ho hv hnone hF hnp h hs ht hd hc2 hc1
  have HB := Lib.hid (bytes_calls t)
  have HS0 := Lib.hid (St.alloc' F w (.cells t.cells 51))
  have HH0 := Lib.hid (HH.out.st (St.alloc' No w (.cells t.cells 51)) (Dj.no _))
  have HO0 : Hid (Ob (w.alloc (.cells t.cells 51)) p 44 #[.bool th, .int .i64 s.lim, .slice a s.out.length c, .int .i64 s.err]) := Lib.hid (HO.out.move (Below.heap_alloc _ _ _ hpl))
  have HV0 : Hid (OwB (w.alloc (.cells t.cells 51)) (.slice a s.out.length c) s.out) := Lib.hid (HV.out.st (St.alloc' No w _) (Dj.no _))
  obtain ⟨tb, htb⟩ : ∃ tb, t.bytes = tb := ⟨_, rfl⟩
  rw [htb] at HB ⊢
  have HTL : Hid (tb.length ≤ 140737488355328) := Lib.hid (by rw [← htb]; exact t.bytes_len HT.out.len)
  obtain ⟨kind, n, i, f, ta, tc, bs⟩ := t
  show Calls _ _ #[.pointer (some ⟨p, 0, none⟩), .agg #[.int .i64 kind, .int .u64 (n.toNat : Int), .int .i64 i, .bool f, .slice ta bs.length tc]] _ _
  have HB2 : Hid (∀ W, St F w F W → Calls Try.prog 68 #[.agg #[.int .i64 kind, .int .u64 (n.toNat : Int), .int .i64 i, .bool f, .slice ta bs.length tc]] W (BPost W tb)) := Lib.hid (fun W hW => HB.out W (HT.out.st hW HD.out))
  clear HB htb
  cases th with
  | false =>
    go_enter Try.func35, Try.ntmps35
    go_wp2
    refine bodyPost_ret (results_none rfl _ _ _) rfl ?_
    exact ⟨rfl, F, HH0.out, HS0.out⟩
  | true =>
    by_cases he : s.err = 0
    · rw [he] at k3
      go_enter Try.func35, Try.ntmps35
      go_wp2_with fail
      refine (HB2.out _ HS0.out).mono ?_
      rintro e w1 ⟨v1, rfl, ho1, hs1⟩
      obtain ⟨a1, c1, rfl, hc1, hc2, hfp, hn1⟩ := ho1.form
      have hob := HO0.out.behind (fun h => h) hs1
      rw [he] at hob
      have k1' := hob.cell 1
      have k2' := hob.cell 2
      have k3' := hob.cell 3
      have f2' := hob.free 2
      have f3' := hob.free 3
      simp only [List.getElem?_toArray, List.getElem?_cons_zero, List.getElem?_cons_succ] at k1' k2' k3'
      have HO1 := Lib.hid ho1
      have HAC1 : Hid (a1 = none → c1 = 0) := Lib.hid (fun h => (hn1 h).2)
      have HS1 := Lib.hid hs1
      have HOB := Lib.hid hob
      have HE := Lib.hid he
      have HV1 : Hid (OwB w1 (.slice a s.out.length c) s.out) := Lib.hid (HV0.out.st hs1 (Dj.no _))
      have HH1 := Lib.hid (HH0.out.st hs1 (Dj.no _))
      have HSA : Hid (St F w F w1) := Lib.hid ((HS0.out.trans (hs1.wide (fun _ h => h.elim) (fun k h => .inr h))).drop (fun k hk => .inl hk))
      have hout : s.out.length ≤ 16777216 := by have := HOK.out.fit; have := HOK.out.hi; omega
      have htl := HTL.out
      clear ho1 hs1 hob k1 k2 k3 f2 f3 hc1 hc2 hfp he hn1
      by_cases hl : s.lim < (s.out.length : Int) + (tb.length : Int)
      · have HL := Lib.hid hl
        go_wp2
        go_quiet (fail)
        go_wp2
        refine bodyPost_ret (results_none rfl _ _ _) rfl ?_
        exact ⟨rfl, F, (by unfold putT WS.put; rw [if_pos rfl, if_pos HE.out, if_pos (by have := HL.out; omega)]; exact (HH1.out.drewN _).setErr 20), HSA.out.trans ((St.drewN _ _ _).trans (St.setCell _ _ _ HH.out.self))⟩
      · have HL := Lib.hid hl
        go_wp2
        go_quiet (fail)
        go_wp2_with (at_builtin; go_loud (refine wpList_appB rfl (.tmp 39) (.tmp 40) rfl _ s.out rfl (HV1.out.move (fun _ _ => rfl)) a1 tb.length c1 tb rfl rfl (HO1.out.bs.move (fun _ _ => rfl)) HAC1.out (by have := HOK.out.hi; omega) ?_); intro v' w2 ho2 hs2 hn2; have HO2 := Lib.hid ho2; have HS2 := Lib.hid hs2; clear ho2 hs2 hn2; go_loud ( have hob := (HOB.out.drewN nq).behind HNP.out HS2.out; have k2' := hob.cell 2; have f2' := hob.free 2; simp only [List.getElem?_toArray, List.getElem?_cons_zero, List.getElem?_cons_succ] at k2'; obtain ⟨a', c', rfl, _, _, _, _⟩ := HO2.out.form; clear hob))
        refine bodyPost_ret (results_none rfl _ _ _) rfl ?_
        have hst := Rw.setOut (th := true) (s := s) (by have := HOB.out.drewN nq; rw [← HE.out] at this; exact this) HNP.out HF.out HO2.out HS2.out
        rw [List.length_append] at hst
        refine ⟨rfl, _, ?_, HSA.out.trans ((St.drewN _ _ _).trans hst.2)⟩
        have h2 := hst.1
        unfold putT WS.put
        rw [if_pos rfl, if_pos HE.out, if_neg (by have := HL.out; omega)]
        exact h2
    · have hb : (s.err != 0) = true := by rw [bne_iff_ne]; exact he
      go_enter Try.func35, Try.ntmps35
      go_wp2
      refine bodyPost_ret (results_none rfl _ _ _) rfl ?_
      exact ⟨rfl, F, (by unfold putT WS.put; rw [if_pos rfl, if_neg he]; exact HH0.out), HS0.out⟩

set_option maxRecDepth 100000 in
theorem rErr_calls (w : World) (F : Nat → Prop) (p : Nat) (th : Bool) (s : WS) (h : Rw w F p th s) :
    Calls Try.prog 79 #[.pointer (some ⟨p, 0, none⟩)] w fun e w' => e = .returned (.int .i64 (errT th s)) ∧ w = w' := by
  obtain ⟨a, c, k0, k1, k2, k3, f2, f3, hv, hc1, hc2, hnone, ho, hnp, hF⟩ := h.open
  clear h hv hc1 hc2 hnone ho hnp hF
  cases th
  · go_enter Try.func79, Try.ntmps79
    go_wp2
    go_ret
    exact ⟨rfl, rfl⟩
  · go_enter Try.func79, Try.ntmps79
    go_wp2
    go_ret
    exact ⟨rfl, rfl⟩

set_option maxRecDepth 100000 in
set_option maxHeartbeats 1000000 in
theorem rAll_calls (w : World) (F : Nat → Prop) (p : Nat) (th : Bool) (s : WS) (hs : s.ok) (h : Rw w F p th s) :
    Calls Try.prog 80 #[.pointer (some ⟨p, 0, none⟩)] w fun e w' => ∃ v, e = .returned (.tuple #[v, .int .i64 (errT th s)]) ∧ OwB w' v (if errT th s = 0 then s.out else []) ∧ St No w (fpV v) w' := by
  obtain ⟨a, c, k0, k1, k2, k3, f2, f3, hv, hc1, hc2, hnone, ho, hnp, hF⟩ := h.open
  have HH := Lib.hid h
  have HV := Lib.hid hv
  have HL : Hid (s.out.length ≤ 16777216) := Lib.hid (by have := hs.fit; have := hs.hi; omega)
  clear h hv hc1 hc2 hnone ho hnp hF hs
  by_cases he : errT th s = 0
  · rw [if_pos he]
    have HE := Lib.hid he
    clear he
    go_enter Try.func80, Try.ntmps80
    go_wp2_with fail
    refine (rErr_calls w F p th s HH.out).mono ?_
    rintro e w1 ⟨rfl, rfl⟩
    rw [HE.out]
    go_wp2_with fail
    refine (join2_calls none 0 [] a c s.out (by have := HL.out; simp; omega) _ (Rd.nil _ _) HV.out.bs).mono ?_
    rintro e w1 ⟨v, rfl, ho, hs⟩
    rw [List.nil_append] at ho
    have HO1 := Lib.hid ho
    have HS1 := Lib.hid hs
    clear ho hs
    go_wp2
    go_ret2
    exact ⟨_, by rw [HE.out]; rfl, HO1.out, HS1.out⟩
  · rw [if_neg he]
    have HER := Lib.hid (rErr_calls w F p th s HH.out)
    generalize errT th s = x at *
    have hb : (x != 0) = true := by rw [bne_iff_ne]; exact he
    clear he
    go_enter Try.func80, Try.ntmps80
    go_wp2_with fail
    refine (HER.out).mono ?_
    rintro e w1 ⟨rfl, rfl⟩
    go_wp2
    go_ret2
    exact ⟨_, rfl, Own.nil _ _ _, (St.refl _ _).drop (fun k hk => by simp [fpV, Value.ownBlock] at hk)⟩

end Go.Proofs.Ytfhoekcmkbeabaa
