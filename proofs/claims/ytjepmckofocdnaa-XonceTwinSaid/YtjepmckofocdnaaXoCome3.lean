
/-
  come: a new frame; the peer behind the insertion, and behind each one that comes up.
-/
import Derived.Test.YtjepmckofocdnaaXoCome2
namespace Go.Proofs.Ytjepmckofocdnaa
open Go.RowKit
set_option linter.unusedVariables false
set_option linter.unusedSimpArgs false

/-- a frame among the early ones -/
theorem PrM.inserted {w w5 w6 : World} {p : Nat} {c : PC} {sent acked : Nat} {mask : BitVec 64} {delivered : Nat} {Vq Ve V1 : Value} {qs : List PB} {es : List FB} {x : FB} {i : Nat} {o : Obj} (h0 : In (fpP p Vq Ve qs es) w) (h : PrM w5 p c sent acked mask delivered Vq Ve qs es) (hv : St No w (fpV x.v) w5)
    (hg : LsF w6 V1 (es.take i ++ x :: es.drop i)) (hs : St (fpV Ve) (w5.alloc o) (fpV V1) w6) :
    PrM (w6.setCell ⟨p, 10, none⟩ V1) p c sent acked mask delivered Vq V1 qs (es.take i ++ x :: es.drop i) ∧ St (fpP p Vq Ve qs es) w (fpP p Vq V1 qs (es.take i ++ x :: es.drop i)) (w6.setCell ⟨p, 10, none⟩ V1) := by
  have hq : ∀ k, fpL FB.v V1 (es.take i ++ x :: es.drop i) k → fpL FB.v Ve es k ∨ w.heap.size ≤ k := fun k hk => by
    rcases fpL_iff.1 hk with hk2 | ⟨b, hb, hk2⟩
    · rcases hs.new k hk2 with hk3 | hk3
      · exact .inl (fpL_iff.2 (.inl hk3))
      · rw [World.size_alloc] at hk3
        exact .inr (by have := hv.size; omega)
    · rcases List.mem_append.1 hb with hb | hb
      · exact .inl (fpL_iff.2 (.inr ⟨b, List.mem_of_mem_take hb, hk2⟩))
      · rcases List.mem_cons.1 hb with rfl | hb
        · exact .inr (hv.news k hk2)
        · exact .inl (fpL_iff.2 (.inr ⟨b, List.mem_of_mem_drop hb, hk2⟩))
  have hb7 : ∀ k, k < w.heap.size → ¬ fpV Ve k → w6.heap[k]? = w.heap[k]? := fun k hk hn => by
    have h1 := Nat.lt_of_lt_of_le hk hv.size
    rw [hs.block k (by rw [World.size_alloc]; omega) hn, Below.heap_alloc w5 o k h1, hv.block k hk (fun h => h)]
  have hpl : p < w.heap.size := h0 p (.inl rfl)
  have hp5 : ¬ fpV Ve p := fun e => h.df (fpL_iff.2 (.inl e))
  have ob7 : w6.heap[p]? = w5.heap[p]? := (hb7 p hpl hp5).trans (hv.block p hpl (fun h => h)).symm
  have df' : ¬ fpL FB.v V1 (es.take i ++ x :: es.drop i) p := fun e => (hq p e).elim h.df (fun e => by omega)
  have s8 : St (fpB0 p) w6 (fpB0 p) (w6.setCell ⟨p, 10, none⟩ V1) := St.setCell (F := fpB0 p) _ _ _ rfl
  have hdE : Dj (fpV Ve) (fpL PB.v Vq qs) := fun k a b => h.dd k b (fpL_iff.2 (.inl a))
  refine ⟨⟨(h.ob.move ob7).set 10 V1, ?_, hg.st s8 (fun k a b => by cases (show k = p from a); exact df' b), h.dq, df', ?_⟩, ?_⟩
  · exact ((h.lq.st (St.alloc' No w5 o) (Dj.no _)).st hs hdE).st s8 (fun k a b => by cases (show k = p from a); exact h.dq b)
  · exact fun k a b => (hq k b).elim (fun b => h.dd k a b) (fun e => absurd (h0 k (.inr (.inl a))) (by omega))
  · refine ⟨s8.os.trans (hs.os.trans ((St.alloc' No w5 o).os.trans hv.os)), s8.tape.trans (hs.tape.trans ((St.alloc' No w5 o).tape.trans hv.tape)), s8.output.trans (hs.output.trans ((St.alloc' No w5 o).output.trans hv.output)), ?_, ?_, ?_⟩
    · have := hs.size
      rw [World.size_alloc] at this
      have := hv.size
      have := s8.size
      omega
    · intro k hk hn
      have h1 : w.heap.size ≤ w6.heap.size := by
        have := hs.size
        rw [World.size_alloc] at this
        have := hv.size
        omega
      rw [s8.block k (by omega) (fun e => hn (.inl e)), hb7 k hk (fun e => hn (.inr (.inr (fpL_iff.2 (.inl e)))))]
    · rintro k (rfl | hk | hk)
      · exact .inl (.inl rfl)
      · exact .inl (.inr (.inl hk))
      · exact (hq k hk).elim (fun e => .inl (.inr (.inr e))) .inr
/-- the peer and what has come up so far -/
structure Up1 (w : World) (p : Nat) (c : PC) (sent acked : Nat) (mask : BitVec 64) (delivered : Nat) (Vq Ve : Value) (qs : List PB) (es : List FB) (t : Nat) (Vu : Value) (us : List UB) : Prop where
  pr : PrM w p c sent acked mask delivered Vq Ve qs es
  lu : LsU w Vu us
  tk : Ob w t 77 #[Vu, .slice none 0 0, .bool true]
  tp : ¬ fpP p Vq Ve qs es t
  tu : ¬ fpL UB.v Vu us t
  du : Dj (fpP p Vq Ve qs es) (fpL UB.v Vu us)
theorem UB.cells_len (u : UB) : u.cells.length = 3 := rfl
/-- one comes up: the list grown in a block (w3), its place stored, the number stored, the frame deleted (w4), the list stored -/
theorem Up1.step {w w3 w4 : World} {p : Nat} {c : PC} {sent acked : Nat} {mask : BitVec 64} {delivered : Nat} {Vq : Value} {qs : List PB} {f : FB} {es : List FB} {g cp n t : Nat} {Vu V3 : Value} {us : List UB} {oa ob : Obj}
    (h : Up1 w p c sent acked mask delivered Vq (.slice (some ⟨g, 0, none⟩) (n + 1) cp) qs (f :: es) t Vu us) (hn : es.length = n)
    (hg : LsU w3 V3 (us ++ [⟨c.adr, f.seq, f.v, f.b⟩])) (hs3 : St (fpV Vu) ((w.alloc oa).alloc ob) (fpV V3) w3)
    (hL : LsF w4 (.slice (some ⟨g, 0, none⟩) n cp) es) (hs4 : St (fpB0 g) ((w3.setCell ⟨t, 0, none⟩ V3).setCell ⟨p, 9, none⟩ (.int .u64 ((delivered + 1 : Nat) : Int))) (fpB0 g) w4) :
    Up1 (w4.setCell ⟨p, 10, none⟩ (.slice (some ⟨g, 0, none⟩) n cp)) p c sent acked mask (delivered + 1) Vq (.slice (some ⟨g, 0, none⟩) n cp) qs es t V3 (us ++ [⟨c.adr, f.seq, f.v, f.b⟩]) ∧
    St (fun j => fpP p Vq (.slice (some ⟨g, 0, none⟩) (n + 1) cp) qs (f :: es) j ∨ fpL UB.v Vu us j ∨ j = t) w (fun j => fpP p Vq (.slice (some ⟨g, 0, none⟩) n cp) qs es j ∨ fpL UB.v V3 (us ++ [⟨c.adr, f.seq, f.v, f.b⟩]) j ∨ j = t) (w4.setCell ⟨p, 10, none⟩ (.slice (some ⟨g, 0, none⟩) n cp)) := by
  have hgE : fpL FB.v (.slice (some ⟨g, 0, none⟩) (n + 1) cp) (f :: es) g := fpL_iff.2 (.inl (fpV_at.2 rfl))
  have hgP : fpP p Vq (.slice (some ⟨g, 0, none⟩) (n + 1) cp) qs (f :: es) g := .inr (.inr hgE)
  have hin := h.pr.in
  have htw : t < w.heap.size := h.tk.lt
  have hpw : p < w.heap.size := hin p (.inl rfl)
  have hgw : g < w.heap.size := hin g hgP
  have hpg : p ≠ g := fun e => h.pr.df (by rw [e]; exact hgE)
  have htp : t ≠ p := fun e => h.tp (.inl e)
  have htg : t ≠ g := fun e => h.tp (by rw [e]; exact hgP)
  have hsub : ∀ k, fpL FB.v (.slice (some ⟨g, 0, none⟩) n cp) es k → fpL FB.v (.slice (some ⟨g, 0, none⟩) (n + 1) cp) (f :: es) k := fun k hk => by
    rcases fpL_iff.1 hk with hk2 | ⟨b, hb, hk2⟩
    · exact fpL_iff.2 (.inl (fpV_at.2 (fpV_at.1 hk2)))
    · exact fpL_iff.2 (.inr ⟨b, List.mem_cons_of_mem _ hb, hk2⟩)
  have hP : ∀ k, fpP p Vq (.slice (some ⟨g, 0, none⟩) n cp) qs es k → fpP p Vq (.slice (some ⟨g, 0, none⟩) (n + 1) cp) qs (f :: es) k := fun k hk => hk.elim .inl (fun hk => hk.elim (fun hk => .inr (.inl hk)) (fun hk => .inr (.inr (hsub k hk))))
  have hfE : ∀ k, fpV f.v k → fpL FB.v (.slice (some ⟨g, 0, none⟩) (n + 1) cp) (f :: es) k := fun k hk => fpL_iff.2 (.inr ⟨f, List.mem_cons_self .., hk⟩)
  have hfP : ∀ k, fpV f.v k → fpP p Vq (.slice (some ⟨g, 0, none⟩) (n + 1) cp) qs (f :: es) k := fun k hk => .inr (.inr (hfE k hk))
  have hsep := List.pairwise_cons.1 h.pr.lf.sep
  have hsep2 := List.pairwise_cons.1 (show List.Pairwise Dj ((f :: es).map fun x => fpV x.v) from hsep.2)
  have hgf : ¬ fpV f.v g := fun e => hsep.1 _ (List.mem_map.2 ⟨f, List.mem_cons_self .., rfl⟩) g (fpV_at.2 rfl) e
  have hF : ∀ k, fpP p Vq (.slice (some ⟨g, 0, none⟩) n cp) qs es k → ¬ fpV f.v k := fun k hk hf => by
    rcases hk with rfl | hk | hk
    · exact h.pr.df (hfE _ hf)
    · exact h.pr.dd k hk (hfE k hf)
    · rcases fpL_iff.1 hk with hk2 | ⟨b, hb, hk2⟩
      · exact hgf (by rw [← fpV_at.1 hk2]; exact hf)
      · exact hsep2.1 _ (List.mem_map.2 ⟨b, hb, rfl⟩) k hf hk2
  have s2 : St No w No ((w.alloc oa).alloc ob) := (St.alloc' No w _).trans (St.alloc' No _ _)
  have s12 : St (fpV Vu) w (fpV V3) w3 := (s2.wide (F' := fpV Vu) (G' := fpV Vu) (fun _ e => e.elim) (fun _ e => .inl e)).trans hs3
  have s3a : St (fpB0 t) w3 (fpB0 t) (w3.setCell ⟨t, 0, none⟩ V3) := St.setCell (F := fpB0 t) _ _ _ rfl
  have s3b : St (fpB0 p) (w3.setCell ⟨t, 0, none⟩ V3) (fpB0 p) ((w3.setCell ⟨t, 0, none⟩ V3).setCell ⟨p, 9, none⟩ (.int .u64 ((delivered + 1 : Nat) : Int))) := St.setCell (F := fpB0 p) _ _ _ rfl
  have s5 : St (fpB0 p) w4 (fpB0 p) (w4.setCell ⟨p, 10, none⟩ (.slice (some ⟨g, 0, none⟩) n cp)) := St.setCell (F := fpB0 p) _ _ _ rfl
  have z1 := s12.size
  have z2 := s3a.size
  have z3 := s3b.size
  have z4 := hs4.size
  have hU : ∀ k, fpL UB.v V3 (us ++ [⟨c.adr, f.seq, f.v, f.b⟩]) k → fpL UB.v Vu us k ∨ w.heap.size ≤ k ∨ fpV f.v k := fun k hk => by
    rcases fpL_iff.1 hk with hk2 | ⟨b, hb, hk2⟩
    · exact (s12.new k hk2).elim (fun e => .inl (fpL_iff.2 (.inl e))) (fun e => .inr (.inl e))
    · rcases List.mem_append.1 hb with hb | hb
      · exact .inl (fpL_iff.2 (.inr ⟨b, hb, hk2⟩))
      · rw [List.mem_singleton.1 hb] at hk2
        exact .inr (.inr hk2)
  have hpU : ¬ fpL UB.v V3 (us ++ [⟨c.adr, f.seq, f.v, f.b⟩]) p := fun e => (hU p e).elim (fun e => h.du p (.inl rfl) e) (fun e => e.elim (fun e => by omega) (fun e => h.pr.df (hfE p e)))
  have htU : ¬ fpL UB.v V3 (us ++ [⟨c.adr, f.seq, f.v, f.b⟩]) t := fun e => (hU t e).elim h.tu (fun e => e.elim (fun e => by omega) (fun e => h.tp (hfP t e)))
  have hgU : ¬ fpL UB.v V3 (us ++ [⟨c.adr, f.seq, f.v, f.b⟩]) g := fun e => (hU g e).elim (fun e => h.du g hgP e) (fun e => e.elim (fun e => by omega) hgf)
  have hpV : ¬ fpV Vu p := fun e => h.du p (.inl rfl) (fpL_iff.2 (.inl e))
  have htV : ¬ fpV Vu t := fun e => h.tu (fpL_iff.2 (.inl e))
  have d1 : ∀ {b : Nat} {G : Nat → Prop}, ¬ G b → Dj (fpB0 b) G := fun hb k x y => by cases (show k = _ from x); exact hb y
  have ob1 := (h.pr.ob.move ((s3a.block p (by omega) (fun e => htp (show p = t from e).symm)).trans (s12.block p hpw hpV))).set 9 (.int .u64 ((delivered + 1 : Nat) : Int))
  have ob2 := (ob1.move (hs4.block p (by omega) (fun e => hpg (show p = g from e)))).set 10 (.slice (some ⟨g, 0, none⟩) n cp)
  have tk1 := (h.tk.move (s12.block t htw htV)).set 0 V3
  have tk2 := ((tk1.move (s3b.block t (by omega) (fun e => htp e))).move (hs4.block t (by omega) (fun e => htg e))).move (s5.block t (by omega) (fun e => htp e))
  have hq0 : ¬ fpL PB.v Vq qs t := fun e => h.tp (.inr (.inl e))
  have lq1 := ((((h.pr.lq.st s12 (fun k a b => h.du k (.inr (.inl b)) (fpL_iff.2 (.inl a)))).st s3a (d1 hq0)).st s3b (d1 h.pr.dq)).st hs4 (d1 (fun e => h.pr.dd g e hgE))).st s5 (d1 h.pr.dq)
  have df' : ¬ fpL FB.v (.slice (some ⟨g, 0, none⟩) n cp) es p := fun e => h.pr.df (hsub p e)
  refine ⟨⟨⟨ob2, lq1, hL.st s5 (d1 df'), h.pr.dq, df', fun k a b => h.pr.dd k a (hsub k b)⟩, (((hg.st s3a (d1 htU)).st s3b (d1 hpU)).st hs4 (d1 hgU)).st s5 (d1 hpU), tk2, fun e => h.tp (hP t e), htU, ?_⟩, ?_⟩
  · intro k a b
    rcases hU k b with b | b | b
    · exact h.du k (hP k a) b
    · have := hin k (hP k a); omega
    · exact hF k a b
  · refine ⟨s5.os.trans (hs4.os.trans (s3b.os.trans (s3a.os.trans s12.os))), s5.tape.trans (hs4.tape.trans (s3b.tape.trans (s3a.tape.trans s12.tape))), s5.output.trans (hs4.output.trans (s3b.output.trans (s3a.output.trans s12.output))), by have := s5.size; omega, fun k hk hn => ?_, ?_⟩
    · have n1 : ¬ k = p := fun e => hn (.inl (.inl e))
      have n2 : ¬ k = t := fun e => hn (.inr (.inr e))
      have n3 : ¬ k = g := fun e => hn (.inl (by rw [e]; exact hgP))
      have n4 : ¬ fpV Vu k := fun e => hn (.inr (.inl (fpL_iff.2 (.inl e))))
      rw [s5.block k (by omega) n1, hs4.block k (by omega) n3, s3b.block k (by omega) n1, s3a.block k (by omega) n2, s12.block k hk n4]
    · rintro k (hk | hk | hk)
      · exact .inl (.inl (hP k hk))
      · rcases hU k hk with e | e | e
        · exact .inl (.inr (.inl e))
        · exact .inr e
        · exact .inl (.inl (hfP k e))
      · exact .inl (.inr (.inr hk))
end Go.Proofs.Ytjepmckofocdnaa
