
/-
  come: the loop in which the frames come up: what is kept, plain.
-/
import Derived.Test.YtjepmckofocdnaaXoCome3
import Derived.Test.YtjepmckofocdnaaXoComeP
namespace Go.Proofs.Ytjepmckofocdnaa
open Go.RowKit
set_option linter.unusedVariables false
set_option linter.unusedSimpArgs false

def FB.pl (f : FB) : Nat × List B8 := (f.seq, f.b)
def upX (c : PC) (f : Nat × List B8) : XU := ⟨c.adr, f.1, f.2⟩
/-- the world as the loop's round meets it: wC is the world ahead of the insertion, E0 the frames with the new one -/
structure Lp (wC wr : World) (F : Nat → Prop) (p : Nat) (c : PC) (x : XP) (Vq : Value) (qs : List PB) (E0 : List (Nat × List B8)) (t n0 : Nat) (dl : Nat) (Ve : Value) (es : List FB) (Vu : Value) (us : List UB) : Prop where
  up : Up1 wr p c x.sent x.acked x.mask dl Vq Ve qs es t Vu us
  st : St F wC (fun j => fpP p Vq Ve qs es j ∨ fpL UB.v Vu us j ∨ j = t) wr
  ht : wC.heap.size ≤ t
  mp : us.map UB.pl ++ (drain dl (es.map FB.pl)).1.map (upX c) = (drain x.delivered E0).1.map (upX c)
  dr : (drain dl (es.map FB.pl)).2 = (drain x.delivered E0).2
  dm : dl ≤ 18446744073709551615
  bd : ∀ f ∈ es, dl < f.seq ∧ f.seq ≤ 18446744073709551615 ∧ f.b.length ≤ 3072
  so : (es.map FB.pl).Pairwise fun f g => f.1 < g.1
  ln : us.length + es.length ≤ n0
theorem Lp.start {wC wc : World} {F : Nat → Prop} {p : Nat} {c : PC} {x : XP} {Vq Ve : Value} {qs : List PB} {es : List FB} {E0 : List (Nat × List B8)} {n0 : Nat}
    (h : PrM wc p c x.sent x.acked x.mask x.delivered Vq Ve qs es) (hs : St F wC (fpP p Vq Ve qs es) wc) (hE : es.map FB.pl = E0) (hdl : x.delivered ≤ 18446744073709551615) (hb : ∀ f ∈ es, x.delivered < f.seq ∧ f.seq ≤ 18446744073709551615 ∧ f.b.length ≤ 3072) (hso : E0.Pairwise fun f g => f.1 < g.1) (hn : es.length ≤ n0) :
    Lp wC (wc.alloc (.cells #[.slice none 0 0, .slice none 0 0, .bool true] 77)) F p c x Vq qs E0 wc.heap.size n0 x.delivered Ve es (.slice none 0 0) [] := by
  refine ⟨⟨h.st (St.alloc' No wc _) (Dj.no _), LsG.nil _, Ob.alloc wc _ _, fun e => absurd (h.in _ e) (Nat.lt_irrefl _), fun e => fpL_nil e, fun k _ e => fpL_nil e⟩, ?_, hs.size, by rw [hE]; rfl, by rw [hE], hdl, hb, by rw [hE]; exact hso, by simpa using hn⟩
  refine (hs.trans (St.alloc (fpP p Vq Ve qs es) wc _)).wide (fun _ h => h) ?_
  rintro k (hk | hk | hk)
  · exact .inr (.inl hk)
  · exact (fpL_nil hk).elim
  · exact .inr (.inr hk)
theorem Lp.step {wC w w3 w4 : World} {F : Nat → Prop} {p : Nat} {c : PC} {x : XP} {Vq : Value} {qs : List PB} {E0 : List (Nat × List B8)} {t n0 dl : Nat} {f : FB} {es : List FB} {g cp n : Nat} {Vu V3 : Value} {us : List UB} {oa ob : Obj}
    (h : Lp wC w F p c x Vq qs E0 t n0 dl (.slice (some ⟨g, 0, none⟩) (n + 1) cp) (f :: es) Vu us) (hf : f.seq = dl + 1) (hn : es.length = n)
    (hg : LsU w3 V3 (us ++ [⟨c.adr, f.seq, f.v, f.b⟩])) (hs3 : St (fpV Vu) ((w.alloc oa).alloc ob) (fpV V3) w3)
    (hL : LsF w4 (.slice (some ⟨g, 0, none⟩) n cp) es) (hs4 : St (fpB0 g) ((w3.setCell ⟨t, 0, none⟩ V3).setCell ⟨p, 9, none⟩ (.int .u64 ((dl + 1 : Nat) : Int))) (fpB0 g) w4) :
    Lp wC (w4.setCell ⟨p, 10, none⟩ (.slice (some ⟨g, 0, none⟩) n cp)) F p c x Vq qs E0 t n0 (dl + 1) (.slice (some ⟨g, 0, none⟩) n cp) es V3 (us ++ [⟨c.adr, f.seq, f.v, f.b⟩]) := by
  have hu := h.up.step hn hg hs3 hL hs4
  have hb := h.bd f (List.mem_cons_self ..)
  have e : drain dl ((f :: es).map FB.pl) = (f.pl :: (drain (dl + 1) (es.map FB.pl)).1, (drain (dl + 1) (es.map FB.pl)).2) := by
    rw [List.map_cons]
    show (if f.pl.1 = dl + 1 then _ else _) = _
    rw [if_pos (show f.pl.1 = dl + 1 from hf)]
  have hmp := h.mp
  have hdr := h.dr
  rw [e] at hmp hdr
  refine ⟨hu.1, h.st.trans hu.2, h.ht, ?_, hdr, by omega, fun f' hf' => ⟨by have h3 : f.seq < f'.seq := (List.pairwise_cons.1 (show List.Pairwise (fun f g => f.1 < g.1) (f.pl :: es.map FB.pl) from h.so)).1 f'.pl (List.mem_map.2 ⟨f', hf', rfl⟩); omega, (h.bd f' (List.mem_cons_of_mem _ hf')).2⟩, (List.pairwise_cons.1 (show List.Pairwise (fun f g => f.1 < g.1) (f.pl :: es.map FB.pl) from h.so)).2, ?_⟩
  · rw [List.map_append, List.append_assoc]
    exact hmp
  · have := h.ln
    rw [List.length_cons] at this
    rw [List.length_append, List.length_cons, List.length_nil]
    omega
theorem Lp.drew {wC w : World} {F : Nat → Prop} {p : Nat} {c : PC} {x : XP} {Vq : Value} {qs : List PB} {E0 : List (Nat × List B8)} {t n0 dl : Nat} {Ve : Value} {es : List FB} {Vu : Value} {us : List UB}
    (h : Lp wC w F p c x Vq qs E0 t n0 dl Ve es Vu us) (k : Nat) : Lp wC (w.drewN k) F p c x Vq qs E0 t n0 dl Ve es Vu us :=
  ⟨⟨h.up.pr.st (St.drewN No w k) (Dj.no _), h.up.lu.st (St.drewN No w k) (Dj.no _), h.up.tk.drewN k, h.up.tp, h.up.tu, h.up.du⟩, h.st.trans (St.drewN _ w k), h.ht, h.mp, h.dr, h.dm, h.bd, h.so, h.ln⟩
/-- nothing more comes up -/
def stopB (dl : Nat) (es : List FB) : Prop := ∀ f fs, es = f :: fs → f.seq ≠ dl + 1
theorem drain_stop {dl : Nat} {es : List FB} (h : stopB dl es) : drain dl (es.map FB.pl) = ([], dl, es.map FB.pl) := by
  cases es with
  | nil => rfl
  | cons f fs =>
    rw [List.map_cons]
    show (if f.pl.1 = dl + 1 then _ else _) = _
    rw [if_neg (show ¬ f.pl.1 = dl + 1 from h f fs rfl)]
theorem Lp.at_end {wC wr : World} {F : Nat → Prop} {p : Nat} {c : PC} {x : XP} {Vq : Value} {qs : List PB} {seq : Nat} {bs : List B8} {t n0 dl : Nat} {Ve : Value} {es : List FB} {Vu : Value} {us : List UB}
    (h : Lp wC wr F p c x Vq qs (insE x.early seq bs) t n0 dl Ve es Vu us) (hs : stopB dl es) (hE : comeE c x seq bs = 0) (ho : oldB x seq = false) (hq : x.queue = qs.map (·.b)) :
    us.map UB.pl = (comeT c x seq bs).ups ∧ (comeX c x seq bs).delivered = dl ∧ (comeX c x seq bs).early = es.map FB.pl ∧ (comeX c x seq bs).queue = qs.map (·.b) ∧ (comeX c x seq bs).sent = x.sent ∧ (comeX c x seq bs).acked = x.acked ∧ (comeX c x seq bs).mask = x.mask ∧ (comeT c x seq bs).ch = true ∧ (comeT c x seq bs).mails = [ackX c (comeX c x seq bs)] := by
  have hmp := h.mp
  have hdr := h.dr
  rw [drain_stop hs] at hmp hdr
  have hX : comeX c x seq bs = { x with delivered := (drain x.delivered (insE x.early seq bs)).2.1, early := (drain x.delivered (insE x.early seq bs)).2.2 } := by unfold comeX; rw [if_pos hE, ho]; rfl
  have hT : comeT c x seq bs = ⟨(drain x.delivered (insE x.early seq bs)).1.map (fun f => ⟨c.adr, f.1, f.2⟩), [ackX c (comeX c x seq bs)], true⟩ := by unfold comeT; rw [if_pos hE, ho]; rfl
  rw [hT]
  refine ⟨?_, ?_, ?_, ?_, ?_, ?_, ?_, rfl, rfl⟩
  · rw [List.map_nil, List.append_nil] at hmp
    exact hmp
  · rw [hX]; show (drain x.delivered (insE x.early seq bs)).2.1 = dl; rw [← hdr]
  · rw [hX]; show (drain x.delivered (insE x.early seq bs)).2.2 = _; rw [← hdr]
  · rw [hX]; exact hq
  · rw [hX]
  · rw [hX]
  · rw [hX]
theorem Lp.taken {w wC wr w6 w7 w' : World} {p : Nat} {c : PC} {x : XP} {Vq Ve0 : Value} {qs : List PB} {es0 : List FB} {seq : Nat} {bs : List B8} {t n0 dl g : Nat} {Ve : Value} {es : List FB} {Vu : Value} {us : List UB}
    (h : Lp wC wr (fpP p Vq Ve0 qs es0) p c x Vq qs (insE x.early seq bs) t n0 dl Ve es Vu us) (hs : stopB dl es) (hE : comeE c x seq bs = 0) (ho : oldB x seq = false) (hq : x.queue = qs.map (·.b))
    (h0 : In (fpP p Vq Ve0 qs es0) w) (hw : St No w No wC) (hr : w.heap.size + 1 < wC.heap.size) (s6 : St No wr No w6) (s8 : St (fun j => j = t ∨ j = w.heap.size + 1) w6 (fun j => j = t ∨ j = w.heap.size + 1) w7)
    (hg : w7.heap.size ≤ g) (hob : Ob w' g 62 (outC c.adr 11 dl (ackM dl (es.map FB.pl)) (.slice none 0 0))) (s9 : St No w7 No w') :
    TakenJ w (fpP p Vq Ve0 qs es0) p c (comeX c x seq bs) (comeT c x seq bs) (comeE c x seq bs) (.returned (.tuple #[.agg #[Vu, .slice (some ⟨g, 0, none⟩) 1 1, .bool true], .int .i64 0])) w' := by
  obtain ⟨a1, a2, a3, a4, a5, a6, a7, a8, a9⟩ := h.at_end hs hE ho hq
  have hinr := h.up.pr.in
  have htr : t < wr.heap.size := h.up.tk.lt
  have z1 := hw.size
  have z2 := h.st.size
  have z6 := s6.size
  have z8 := s8.size
  have z9 := s9.size
  have hht := h.ht
  -- the result's block is none of these
  have hrF : ¬ fpP p Vq Ve qs es (w.heap.size + 1) := fun e => by
    rcases h.st.new _ (.inl e) with e | e
    · have := h0 _ e; omega
    · omega
  have hrU : ¬ fpL UB.v Vu us (w.heap.size + 1) := fun e => by
    rcases h.st.new _ (.inr (.inl e)) with e | e
    · have := h0 _ e; omega
    · omega
  have dF : Dj (fun j => j = t ∨ j = w.heap.size + 1) (fpP p Vq Ve qs es) := fun k a b => a.elim (fun a => h.up.tp (by rw [← a]; exact b)) (fun a => hrF (by rw [← a]; exact b))
  have dU : Dj (fun j => j = t ∨ j = w.heap.size + 1) (fpL UB.v Vu us) := fun k a b => a.elim (fun a => h.up.tu (by rw [← a]; exact b)) (fun a => hrU (by rw [← a]; exact b))
  have pr' := ((h.up.pr.st s6 (Dj.no _)).st s8 dF).st s9 (Dj.no _)
  rw [← a8]
  refine hE ▸ ⟨Vu, us, _, [ackO c dl (ackM dl (es.map FB.pl))], fpP p Vq Ve qs es, rfl, ((h.up.lu.st s6 (Dj.no _)).st s8 dU).st s9 (Dj.no _), a1, ackO_ls hob, ?_, ?_, ?_, h.up.du, ?_, ?_⟩
  · rw [a9]
    unfold ackX
    rw [a2, a3]
    rfl
  · exact ⟨Vq, Ve, qs, es, by rw [a2, a5, a6, a7]; exact pr', a4, a3, rfl⟩
  · have sT := (hw.wide (F' := fpP p Vq Ve0 qs es0) (G' := fpP p Vq Ve0 qs es0) (fun _ e => e.elim) (fun _ e => .inl e)).trans h.st
    refine ⟨s9.os.trans (s8.os.trans (s6.os.trans sT.os)), s9.tape.trans (s8.tape.trans (s6.tape.trans sT.tape)), s9.output.trans (s8.output.trans (s6.output.trans sT.output)), by omega, fun k hk hn => ?_, ?_⟩
    · rw [s9.block k (by omega) (fun e => e), s8.block k (by omega) (fun e => by rcases e with e | e <;> omega), s6.block k (by omega) (fun e => e), sT.block k hk hn]
    · rintro k (hk | hk | hk)
      · exact sT.new k (.inl hk)
      · exact sT.new k (.inr (.inl hk))
      · exact .inr (by rw [ackO_fp hk]; omega)
  · exact fun k a b => by rw [ackO_fp b] at a; have := hinr _ a; omega
  · exact fun k a b => by rw [ackO_fp b] at a; have := h.up.lu.in _ a; omega
end Go.Proofs.Ytjepmckofocdnaa
