
/-
  push: a payload taken by a peer's queue.
-/
import Derived.Test.YtjepmckofocdnaaXoList
import Derived.Deep.RegionLaw
namespace Go.Proofs.Ytjepmckofocdnaa
open Go.RowKit
set_option linter.unusedVariables false
set_option linter.unusedSimpArgs false

/-- a mail in memory; plain -/
structure OB where
  adr : Int
  kind : Int
  seq : Nat
  mask : BitVec 64
  v : Value
  b : List B8
structure XM where
  adr : Int
  kind : Int
  seq : Nat
  mask : BitVec 64
  b : List B8
def OB.cells (o : OB) : List Value := (outC o.adr o.kind o.seq o.mask o.v).toList
def OB.pl (o : OB) : XM := ⟨o.adr, o.kind, o.seq, o.mask, o.b⟩
abbrev LsO := LsG OB.cells OB.v OB.b 18 62
def xdata (adr : Int) (seq : Nat) (b : List B8) : XM := ⟨adr, 10, seq, 0, b⟩
/-- what holds of a peer at all times -/
structure XP.Ok (c : PC) (x : XP) : Prop where
  qs : x.sent = x.acked + x.queue.length
  se : x.sent ≤ 18446744073709551615
  ql : x.queue.length ≤ c.room
  rm : c.room ≤ 16
  wn : c.win ≤ c.room
  w1 : 1 ≤ c.win
  qb : ∀ b ∈ x.queue, sizedB b.length = true
  mb : beyondB x.sent x.acked x.mask = false
  dl : x.delivered ≤ 18446744073709551615
  eo : x.early.Pairwise fun f g => f.1 < g.1
  er : ∀ f ∈ x.early, x.delivered + 2 ≤ f.1 ∧ f.1 ≤ x.delivered + c.win ∧ f.1 ≤ 18446744073709551615 ∧ sizedB f.2.length = true
/-- mails and an error; the peer behind a call -/
def MailsJ (w : World) (F : Nat → Prop) (p : Nat) (c : PC) (x' : XP) (ms : List XM) (er : Int) (e : Ending) (w' : World) : Prop :=
  ∃ V os F', e = .returned (.tuple #[V, .int .i64 er]) ∧ LsO w' V os ∧ os.map OB.pl = ms ∧ Pr w' F' p c x' ∧ St F w (fun k => F' k ∨ fpL OB.v V os k) w' ∧ Dj F' (fpL OB.v V os)
/-- one row in a block of its own -/
theorem LsG.one {α : Type} {cells : α → List Value} {val : α → Value} {byt : α → List B8} {s : Nat} {T : TypeId} {w : World} {g : Nat} {x : α} (h : Ob w g T (cells x).toArray) (hl : (cells x).length = s) (hx : OwB w (val x) (byt x)) (hd : ¬ fpV (val x) g) : LsG cells val byt s T w (.slice (some ⟨g, 0, none⟩) 1 1) [x] := by
  refine ⟨?_, fun y hy => by rw [List.mem_singleton.1 hy]; exact hx, ?_⟩
  · refine ⟨by simp [hl], .inr ⟨g, 1, (cells x).toArray, rfl, Nat.zero_le _, h, by simp, by unfold maxLen; omega, by simp [hl], by simp [← hl]⟩⟩
  · refine List.pairwise_cons.2 ⟨?_, by simp⟩
    intro R hR
    simp only [List.map_cons, List.map_nil, List.mem_singleton] at hR
    subst hR
    intro k a b
    have e : g = k := by simpa [fpV, Value.ownBlock] using a
    subst e
    exact hd b
/-- a payload behind the queue -/
theorem PrM.pushed {w w5 w7 : World} {p : Nat} {c : PC} {sent acked : Nat} {mask : BitVec 64} {delivered : Nat} {Vq Ve V3 v : Value} {bs : List B8} {qs : List PB} {es : List FB} {o : Obj} (h0 : In (fpP p Vq Ve qs es) w) (h : PrM w5 p c sent acked mask delivered Vq Ve qs es) (hv : St No w (fpV v) w5) (hg : LsQ w7 V3 (qs ++ [⟨v, bs⟩])) (hs : St (fpV Vq) (w5.alloc o) (fpV V3) w7) :
    PrM (w7.setCell ⟨p, 5, none⟩ V3) p c sent acked mask delivered V3 Ve (qs ++ [⟨v, bs⟩]) es ∧ St (fpP p Vq Ve qs es) w (fpP p V3 Ve (qs ++ [⟨v, bs⟩]) es) (w7.setCell ⟨p, 5, none⟩ V3) := by
  have hq : ∀ k, fpL PB.v V3 (qs ++ [⟨v, bs⟩]) k → fpL PB.v Vq qs k ∨ w.heap.size ≤ k := fun k hk => by
    rcases fpL_iff.1 hk with hk | ⟨b, hb, hk⟩
    · rcases hs.new k hk with hk | hk
      · exact .inl (fpL_iff.2 (.inl hk))
      · rw [World.size_alloc] at hk
        exact .inr (by have := hv.size; omega)
    · rcases List.mem_append.1 hb with hb | hb
      · exact .inl (fpL_iff.2 (.inr ⟨b, hb, hk⟩))
      · rw [List.mem_singleton.1 hb] at hk
        exact .inr (hv.news k hk)
  have hb7 : ∀ k, k < w.heap.size → ¬ fpV Vq k → w7.heap[k]? = w.heap[k]? := fun k hk hn => by
    have h1 := Nat.lt_of_lt_of_le hk hv.size
    rw [hs.block k (by rw [World.size_alloc]; omega) hn, Below.heap_alloc w5 o k h1, hv.block k hk (fun h => h)]
  have hpl : p < w.heap.size := h0 p (.inl rfl)
  have hp5 : ¬ fpV Vq p := fun e => h.dq (fpL_iff.2 (.inl e))
  have ob7 : w7.heap[p]? = w5.heap[p]? := (hb7 p hpl hp5).trans (hv.block p hpl (fun h => h)).symm
  have dq' : ¬ fpL PB.v V3 (qs ++ [⟨v, bs⟩]) p := fun e => (hq p e).elim h.dq (fun e => by omega)
  have s8 : St (fpB0 p) w7 (fpB0 p) (w7.setCell ⟨p, 5, none⟩ V3) := St.setCell (F := fpB0 p) _ _ _ rfl
  have hdE : Dj (fpV Vq) (fpL FB.v Ve es) := fun k a b => h.dd k (fpL_iff.2 (.inl a)) b
  refine ⟨⟨(h.ob.move ob7).set 5 V3, hg.st s8 (fun k a b => by cases (show k = p from a); exact dq' b), ?_, dq', h.df, ?_⟩, ?_⟩
  · exact ((h.lf.st (St.alloc' No w5 o) (Dj.no _)).st hs hdE).st s8 (fun k a b => by cases (show k = p from a); exact h.df b)
  · exact fun k a b => (hq k a).elim (fun a => h.dd k a b) (fun e => absurd (h0 k (.inr (.inr b))) (by omega))
  · refine ⟨s8.os.trans (hs.os.trans ((St.alloc' No w5 o).os.trans hv.os)), s8.tape.trans (hs.tape.trans ((St.alloc' No w5 o).tape.trans hv.tape)), s8.output.trans (hs.output.trans ((St.alloc' No w5 o).output.trans hv.output)), ?_, ?_, ?_⟩
    · have := hs.size
      rw [World.size_alloc] at this
      have := hv.size
      have := s8.size
      omega
    · intro k hk hn
      have h1 : w.heap.size ≤ w7.heap.size := by
        have := hs.size
        rw [World.size_alloc] at this
        have := hv.size
        omega
      rw [s8.block k (by omega) (fun e => hn (.inl e)), hb7 k hk (fun e => hn (.inr (.inl (fpL_iff.2 (.inl e)))))]
    · rintro k (rfl | hk | hk)
      · exact .inl (.inl rfl)
      · exact (hq k hk).elim (fun e => .inl (.inr (.inl e))) .inr
      · exact .inl (.inr (.inr hk))
def pushE (c : PC) (x : XP) : Int := if c.room ≤ x.queue.length then 82 else if x.sent = 18446744073709551615 then 83 else 0
def pushX (c : PC) (x : XP) (bs : List B8) : XP := if pushE c x = 0 then { x with sent := x.sent + 1, queue := x.queue ++ [bs] } else x
def pushM (c : PC) (x : XP) (bs : List B8) : List XM := if pushE c x = 0 ∧ x.queue.length < c.win then [xdata c.adr (x.sent + 1) bs] else []
theorem MailsJ.dr {w : World} {F : Nat → Prop} {p : Nat} {c : PC} {x' : XP} {ms : List XM} {er : Int} {e : Ending} {w1 w2 : World} (h : MailsJ w F p c x' ms er e w1) (d : Dr w1 w2) : MailsJ w F p c x' ms er e w2 := by
  obtain ⟨V, os, F', h1, h2, h3, h4, h5, h6⟩ := h
  exact ⟨V, os, F', h1, h2.st (d.st No) (Dj.no _), h3, h4.st (d.st No) (Dj.no _), h5.trans (d.st _), h6⟩
theorem MailsJ.none {w : World} {F : Nat → Prop} {p : Nat} {c : PC} {x : XP} {er : Int} (h : Pr w F p c x) : MailsJ w F p c x [] er (.returned (.tuple #[.slice none 0 0, .int .i64 er])) w :=
  ⟨_, [], F, rfl, LsG.nil _, rfl, h, (St.refl F w).drop (fun k hk => hk.elim .inl (fun h => (fpL_nil h).elim)), fun k _ b => fpL_nil b⟩
/-- a mail's cells laid into a block, as the walk spells it -/
theorem outFold (adr kind : Int) (seq : Nat) (mask : BitVec 64) (V : Value) :
    Array.foldl (fun (cs : Array Value) x => cs.setIfInBounds x.snd x.fst)
      #[.int .u8 0, .int .u8 0, .int .u64 0, .int .u64 0, .int .u64 0, .slice none 0 0, .slice none 0 0, .bool false, .int .u8 0, .int .u8 0, .int .u8 0, .int .u32 0, .int .u32 0, .int .u64 0, .int .u8 0, .slice none 0 0, .slice none 0 0, .slice none 0 0]
      (outC adr kind seq mask V).zipIdx 0 18 = outC adr kind seq mask V := by
  unfold outC
  simp
theorem push_pr {w w8 : World} {p : Nat} {c : PC} {x : XP} {Ve Vq V3 v : Value} {bs : List B8} {qs : List PB} {es : List FB} (hq : x.queue = qs.map (·.b)) (he : x.early = es.map (fun f => (f.seq, f.b))) (hE : pushE c x = 0)
    (hx : PrM w8 p c (x.sent + 1) x.acked x.mask x.delivered V3 Ve (qs ++ [⟨v, bs⟩]) es) : Pr w8 (fpP p V3 Ve (qs ++ [⟨v, bs⟩]) es) p c (pushX c x bs) := by
  unfold pushX
  rw [if_pos hE]
  exact ⟨V3, Ve, _, es, hx, by simp [hq], he, rfl⟩
theorem push_end1 {w wA w8 w9 : World} {p : Nat} {c : PC} {x : XP} {Ve Vq V3 v V9 : Value} {bs : List B8} {qs : List PB} {es : List FB} (hok : x.Ok c) (hq : x.queue = qs.map (·.b)) (he : x.early = es.map (fun f => (f.seq, f.b))) (hE : pushE c x = 0) (hw : qs.length < c.win)
    (hs : St (fpB0 p) w (fpB0 p) wA) (hx : PrM w8 p c (x.sent + 1) x.acked x.mask x.delivered V3 Ve (qs ++ [⟨v, bs⟩]) es ∧ St (fpP p Vq Ve qs es) wA (fpP p V3 Ve (qs ++ [⟨v, bs⟩]) es) w8) (ho : OwB w9 V9 bs) (h9 : St No w8 (fpV V9) w9) :
    MailsJ w (fpP p Vq Ve qs es) p c (pushX c x bs) (pushM c x bs) (pushE c x) (.returned (.tuple #[.slice (some ⟨w9.heap.size, 0, none⟩) 1 1, .int .i64 0])) (w9.alloc (.cells (outC c.adr 10 (x.acked + 1 + qs.length) 0 V9) 62)) := by
  have hql : x.queue.length = qs.length := by rw [hq, List.length_map]
  have hb := hok.qs
  have sA : St No w9 No (w9.alloc (.cells (outC c.adr 10 (x.acked + 1 + qs.length) 0 V9) 62)) := St.alloc' No _ _
  have hin8 := hx.1.in
  have hn : ∀ k, fpL OB.v (.slice (some ⟨w9.heap.size, 0, none⟩) 1 1) [(⟨c.adr, 10, x.acked + 1 + qs.length, 0, V9, bs⟩ : OB)] k → w8.heap.size ≤ k := fun k hk => by
    rcases fpL_iff.1 hk with hk | ⟨o, ho, hk⟩
    · have e : w9.heap.size = k := by simpa [fpV, Value.ownBlock] using hk
      have := h9.size
      omega
    · rw [List.mem_singleton.1 ho] at hk
      exact h9.news k hk
  refine ⟨_, [⟨c.adr, 10, x.acked + 1 + qs.length, 0, V9, bs⟩], fpP p V3 Ve (qs ++ [⟨v, bs⟩]) es, by rw [hE], LsG.one (Ob.alloc _ _ _) rfl (ho.st sA (Dj.no _)) ho.in.not, ?_, (push_pr (w := w) (Vq := Vq) hq he hE ((hx.1.st h9 (Dj.no _)).st sA (Dj.no _))), ?_, fun k a b => absurd (hin8 k a) (Nat.not_lt.2 (hn k b))⟩
  · unfold pushM xdata
    rw [if_pos ⟨hE, by omega⟩]
    have e : x.acked + 1 + qs.length = x.sent + 1 := by omega
    simp [OB.pl, e]
  · have h1 : St (fpP p Vq Ve qs es) w (fpP p V3 Ve (qs ++ [⟨v, bs⟩]) es) w8 := (hs.wide (fun k e => .inl e) (fun k hk => hk.elim (fun e => .inl (.inl e)) (fun e => .inl (.inr e)))).trans hx.2
    have h2 := (h9.drop (G' := No) (fun k e => .inl e)).trans sA
    refine ⟨h2.os.trans h1.os, h2.tape.trans h1.tape, h2.output.trans h1.output, Nat.le_trans h1.size h2.size, fun k hk hn => (h2.block k (Nat.lt_of_lt_of_le hk h1.size) (fun e => e)).trans (h1.block k hk hn), ?_⟩
    rintro k (hk | hk)
    · exact h1.new k hk
    · exact .inr (Nat.le_trans h1.size (hn k hk))
theorem push_end0 {w wA w8 : World} {p : Nat} {c : PC} {x : XP} {Ve Vq V3 v : Value} {bs : List B8} {qs : List PB} {es : List FB} (hq : x.queue = qs.map (·.b)) (he : x.early = es.map (fun f => (f.seq, f.b))) (hE : pushE c x = 0) (hw : ¬ qs.length < c.win)
    (hs : St (fpB0 p) w (fpB0 p) wA) (hx : PrM w8 p c (x.sent + 1) x.acked x.mask x.delivered V3 Ve (qs ++ [⟨v, bs⟩]) es ∧ St (fpP p Vq Ve qs es) wA (fpP p V3 Ve (qs ++ [⟨v, bs⟩]) es) w8) :
    MailsJ w (fpP p Vq Ve qs es) p c (pushX c x bs) (pushM c x bs) (pushE c x) (.returned (.tuple #[.slice none 0 0, .int .i64 0])) w8 := by
  have hql : x.queue.length = qs.length := by rw [hq, List.length_map]
  have h1 : St (fpP p Vq Ve qs es) w (fpP p V3 Ve (qs ++ [⟨v, bs⟩]) es) w8 := (hs.wide (fun k e => .inl e) (fun k hk => hk.elim (fun e => .inl (.inl e)) (fun e => .inl (.inr e)))).trans hx.2
  refine ⟨_, [], fpP p V3 Ve (qs ++ [⟨v, bs⟩]) es, by rw [hE], LsG.nil _, ?_, push_pr (w := w) (Vq := Vq) hq he hE hx.1, h1.drop (fun k hk => hk.elim .inr (fun e => (fpL_nil e).elim)), fun k _ b => fpL_nil b⟩
  unfold pushM
  rw [if_neg (fun h => hw (by omega))]
  rfl
set_option maxRecDepth 100000 in
set_option maxHeartbeats 1000000 in
theorem push_calls (w : World) (F : Nat → Prop) (p : Nat) (c : PC) (x : XP) (h : Pr w F p c x) (hok : x.Ok c) (a : Option Addr) (cap : Nat) (bs : List B8) (hb : Bs w a bs) (hda : Dj F (fpA a)) (hn : a = none → cap = 0) (hl : sizedB bs.length = true) :
    Calls Try.prog 56 #[.pointer (some ⟨p, 0, none⟩), .slice a bs.length cap] w (MailsJ w F p c (pushX c x bs) (pushM c x bs) (pushE c x)) := by
  obtain ⟨Vq, Ve, qs, es, hm, hq, he, rfl⟩ := h
  have hp : Pr w (fpP p Vq Ve qs es) p c x := ⟨Vq, Ve, qs, es, hm, hq, he, rfl⟩
  have hqlen : x.queue.length = qs.length := by rw [hq, List.length_map]
  have hlen : 1 ≤ bs.length ∧ bs.length ≤ 3072 := of_decide_eq_true hl
  obtain ⟨d0, d1, d2, d3, d4, d5, d6, d7, d8, d9, d10, f0, f1, f2, f3, f4, f5, f6, f7, f8, f9, f10⟩ := hm.ob.n11
  obtain ⟨qa, qc, rfl, _, _, _, _⟩ := hm.lq.own.form
  have hql := hok.ql
  have hrm := hok.rm
  have hwn := hok.wn
  have hse := hok.se
  rw [hqlen] at hql
  have hE : pushE c x = if c.room ≤ qs.length then 82 else if x.sent = 18446744073709551615 then 83 else 0 := by unfold pushE; rw [hqlen]
  by_cases h1 : c.room ≤ qs.length
  · rw [if_pos h1] at hE
    have HP : Hid (MailsJ w (fpP p (.slice qa qs.length qc) Ve qs es) p c (pushX c x bs) (pushM c x bs) (pushE c x) (.returned (.tuple #[.slice none 0 0, .int .i64 82])) w) := Lib.hid (by
      have e1 : pushX c x bs = x := by unfold pushX; rw [if_neg (by rw [hE]; decide)]
      have e2 : pushM c x bs = [] := by unfold pushM; rw [if_neg (by rw [hE]; exact fun h => absurd h.1 (by decide))]
      rw [e1, e2, hE]
      exact MailsJ.none hp)
    have hi : (c.room : Int) ≤ (qs.length : Int) := by omega
    clear hm hok hE hqlen hq he hp
    go_enter Try.func56, Try.ntmps56
    go_wp2_with fail
    go_quiet (fail)
    go_wp2
    go_ret2
    exact HP.out.dr (by first | exact Dr.one _ | exact Dr.step _ _)
  have g1 : ¬ (c.room : Int) ≤ (qs.length : Int) := by omega
  rw [if_neg h1] at hE
  by_cases h2 : x.sent = 18446744073709551615
  · rw [if_pos h2] at hE
    have HP : Hid (MailsJ w (fpP p (.slice qa qs.length qc) Ve qs es) p c (pushX c x bs) (pushM c x bs) (pushE c x) (.returned (.tuple #[.slice none 0 0, .int .i64 83])) w) := Lib.hid (by
      have e1 : pushX c x bs = x := by unfold pushX; rw [if_neg (by rw [hE]; decide)]
      have e2 : pushM c x bs = [] := by unfold pushM; rw [if_neg (by rw [hE]; exact fun h => absurd h.1 (by decide))]
      rw [e1, e2, hE]
      exact MailsJ.none hp)
    have hi : ((x.sent : Int) == 18446744073709551615) = true := by rw [beq_iff_eq]; omega
    clear hm hok hE hqlen hq he hp h2
    generalize x.sent = sn at *
    go_enter Try.func56, Try.ntmps56
    go_wp2_with fail
    go_quiet (fail)
    go_wp2
    go_ret2
    exact HP.out.dr (by first | exact Dr.one _ | exact Dr.step _ _)
  rw [if_neg h2] at hE
  have hi : ((x.sent : Int) == 18446744073709551615) = false := by rw [beq_eq_false_iff_ne]; omega
  have wr1 : IntKind.u64.wrap ((x.sent : Int) + 1) = (x.sent : Int) + 1 := by rw [wrap_u64]; omega
  have H := Lib.hid hm
  have HB := Lib.hid hb
  have HN := Lib.hid hn
  clear hm hp hb hn
  go_enter Try.func56, Try.ntmps56
  go_wp2_with fail
  go_quiet (fail)
  go_wp2_with fail
  have HA : Hid (PrM ((w.drewN nq).setCell ⟨p, 3, none⟩ (.int .u64 ((x.sent : Int) + 1))) p c (x.sent + 1) x.acked x.mask x.delivered (.slice qa qs.length qc) Ve qs es) := Lib.hid ((H.out.st (St.drewN No w nq) (Dj.no _)).ob' (c' := c) (St.setCell (F := fpB0 p) _ ⟨p, 3, none⟩ _ rfl) (((H.out.st (St.drewN No w nq) (Dj.no _)).ob).set 3 (.int .u64 ((x.sent : Int) + 1))))
  have HS : Hid (St (fpB0 p) w (fpB0 p) ((w.drewN nq).setCell ⟨p, 3, none⟩ (.int .u64 ((x.sent : Int) + 1)))) := Lib.hid ((St.drewN _ w nq).trans (St.setCell (F := fpB0 p) _ ⟨p, 3, none⟩ _ rfl))
  have HB0 := Lib.hid (HB.out.st HS.out (fun k a b => hda k (.inl a) b))
  generalize (w.drewN nq).setCell ⟨p, 3, none⟩ (.int .u64 ((x.sent : Int) + 1)) = wA at *
  clear d0 d1 d2 d3 d4 d5 d6 d7 d8 d9 d10 f0 f1 f2 f3 f4 f5 f6 f7 f8 f9 f10 hi wr1
  obtain ⟨d0, d1, d2, d3, d4, d5, d6, d7, d8, d9, d10, f0, f1, f2, f3, f4, f5, f6, f7, f8, f9, f10⟩ := HA.out.ob.n11
  go_region_law (first
    | (refine step_appL 44 infQ Try.underlying44 (by decide) rfl (.tmp 33) (.tmp 36) rfl (.slice qa qs.length qc) qs rfl ((HA5.out.lq.st (St.alloc' No w5 (.cells #[.slice a5 bs.length c5] 48)) (Dj.no _)).hp rfl) ⟨.slice a5 bs.length c5, bs⟩ w5.heap.size rfl ((Ob.alloc w5 #[.slice a5 bs.length c5] 48).move rfl) rfl (fun u hu => by rw [List.mem_singleton.1 hu]; rfl) ((HO5.out.st (St.alloc' No w5 (.cells #[.slice a5 bs.length c5] 48)) (Dj.no _)).move (fun _ _ => rfl)) (fun k a b => HDJ.out k a (.inr (.inl b))) (by omega) ?_
       intro V3 w7 hg3 hs3
       have ob7 := (HA5.out.ob.move (Below.heap_alloc w5 (.cells #[.slice a5 bs.length c5] 48) p HA5.out.ob.lt)).move (hs3.block p (Nat.lt_of_lt_of_le HA5.out.ob.lt (by simp)) (fun hv => HA5.out.dq (fpL_iff.2 (.inl hv))))
       have y5 : w7.cell? ⟨p, 5, none⟩ = some (.slice qa qs.length qc) := by rw [ob7.cell 5]; rfl
       have yf5 := ob7.free 5
       obtain ⟨va, vc, e3, _, _, _, _⟩ := hg3.own.form
       rw [List.length_append, List.length_cons, List.length_nil, Nat.zero_add] at e3
       subst e3
       have HOB7 := Lib.hid ob7
       have HG3 := Lib.hid hg3
       have HS3 := Lib.hid hs3
       clear hg3 hs3 ob7)
    | (go_simp
       go_at_call 77
       refine (xclone_calls a cap bs (by omega) HN.out _ ?_).mono ?_
       · exact Bs.move HB0.out (fun _ _ => rfl)
       rintro e w5 ⟨v5, rfl, ho5, hs5⟩
       have hs5' : St No wA (fpV v5) w5 := by first | exact (St.drew No wA).trans hs5 | exact (St.drewN No wA _).trans hs5 | exact ((St.drewN No wA _).trans (St.drew No _)).trans hs5
       have HA5 := Lib.hid (HA.out.st hs5' (Dj.no _))
       obtain ⟨z0, z1, z2, z3, z4, z5, z6, z7, z8, z9, z10, zf0, zf1, zf2, zf3, zf4, zf5, zf6, zf7, zf8, zf9, zf10⟩ := HA5.out.ob.n11
       have hl5 := HA5.out.ob.lt
       have q3 : p ≠ w5.heap.size := by omega
       have q4 : w5.heap.size ≠ p := by omega
       obtain ⟨a5, c5, rfl, _, _, _, _⟩ := ho5.form
       have HDJ : Hid (Dj (fpV (.slice a5 bs.length c5)) (fpP p (.slice qa qs.length qc) Ve qs es)) := Lib.hid (fun k a b => absurd (HA.out.in k b) (Nat.not_lt.2 (hs5'.news k a)))
       have HO5 := Lib.hid ho5
       have HS5 := Lib.hid hs5'
       clear ho5 hs5 hs5'))
  all_goals
    have HX := Lib.hid (HA5.out.pushed HA.out.in HS5.out HG3.out HS3.out)
    clear HOB7 HG3 HS3 HO5 HA5 HDJ HS5
    generalize w7.setCell ⟨p, 5, none⟩ (.slice va (qs.length + 1) vc) = w8 at *
  all_goals
    obtain ⟨e0, e1, e2, e3, e4, e5, e6, e7, e8, e9, e10, -⟩ := HX.out.1.ob.n11
    have HQ := Lib.hid hq
    have HE := Lib.hid hE
    clear d0 d1 d2 d3 d4 d5 d6 d7 d8 d9 d10 z0 z1 z2 z3 z4 z5 z6 z7 z8 z9 z10 hq hE y5 yf5 q3 q4 hl5
    have wsub : IntKind.i64.wrap (((qs.length + 1 : Nat) : Int) - 1) = (qs.length : Int) := by rw [IntWalk.i64_in _ (by omega)]; omega
    have wsub2 : IntKind.i64.wrap ((qs.length : Int) + 1 - 1) = (qs.length : Int) := by rw [IntWalk.i64_in _ (by omega)]; omega
    by_cases hw : qs.length < c.win
    · have hwi : (qs.length : Int) < (c.win : Int) := by omega
      go_wp2_with fail
      refine (data_calls w8 p c (x.sent + 1) x.acked x.mask x.delivered _ Ve _ es HX.out.1 qs.length ⟨.slice a5 bs.length c5, bs⟩ (by simp) hlen.2 (by have := hok.qs; omega)).mono ?_
      rintro e w9 ⟨V9, rfl, ho9, hs9⟩
      have HO9 := Lib.hid ho9
      have HS9 := Lib.hid hs9
      clear ho9 hs9
      have hsz : (outC c.adr 10 (x.acked + 1 + qs.length) (0#64) V9).size = 18 := rfl
      go_wp2
      go_ret2
      rw [outFold]
      exact push_end1 hok HQ.out he HE.out hw HS.out HX.out HO9.out HS9.out
    · have hwi : ¬ (qs.length : Int) < (c.win : Int) := by omega
      go_wp2
      go_ret2
      exact push_end0 HQ.out he HE.out hw HS.out HX.out
end Go.Proofs.Ytjepmckofocdnaa
