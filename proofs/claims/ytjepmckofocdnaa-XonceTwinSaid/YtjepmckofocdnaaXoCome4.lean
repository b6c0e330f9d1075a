
/-
  come: a new frame: the walk.
-/
import Derived.Test.YtjepmckofocdnaaXoComeL
import Derived.Deep.CutRange
namespace Go.Proofs.Ytjepmckofocdnaa
open Go.RowKit
set_option linter.unusedVariables false
set_option linter.unusedSimpArgs false

def lenOf : Option Value → Nat
  | some (.slice _ n _) => n
  | _ => 0
set_option maxRecDepth 100000 in
set_option maxHeartbeats 4000000 in
theorem come_new (w : World) (F : Nat → Prop) (p : Nat) (c : PC) (x : XP) (h : Pr w F p c x) (hok : x.Ok c) (m : MV) (bs : List B8) (hpn : m.pn = bs.length) (hms : m.seq ≤ 18446744073709551615) (hz : sizedB bs.length = true) (h1 : x.delivered < m.seq) (h2 : m.seq - x.delivered ≤ c.win) (hnb : hasB x.early m.seq = false) (hb : Bs w m.pa bs) (hn : m.pa = none → m.pc = 0) :
    Calls Try.prog 66 #[.pointer (some ⟨p, 7, none⟩), .agg m.cells] w (TakenJ w F p c (comeX c x m.seq bs) (comeT c x m.seq bs) (comeE c x m.seq bs)) := by
  obtain ⟨Vq, Ve, qs, es, hm, hq, he, rfl⟩ := h
  have HM := Lib.hid hm
  have hpl := hm.ob.lt
  have hsz : m.cells.size = 17 := rfl
  have HSt := Lib.hid (Start.of w m)
  obtain ⟨b0, b1, b12, b16⟩ := HSt.out.cells
  rw [hpn] at b16
  have hE : comeE c x m.seq bs = 0 := by unfold comeE; rw [if_pos hz, if_neg (fun e => by omega)]
  have HE := Lib.hid hE
  have hwn := hok.wn
  have hrm := hok.rm
  have hdl := hok.dl
  have HOK := Lib.hid hok
  have HBS := Lib.hid hb
  have HNN := Lib.hid hn
  have HNB := Lib.hid hnb
  have HOB : Hid (oldB x m.seq = false) := Lib.hid (by unfold oldB; rw [hnb, decide_eq_false (by omega)]; rfl)
  have hbl : bs.length ≤ 3072 := (of_decide_eq_true (show decide _ = true from hz) : 1 ≤ bs.length ∧ bs.length ≤ 3072).2
  have hfb : ∀ f ∈ es, f.b.length ≤ 140737488351232 := fun f hf => by
    have : 1 ≤ f.b.length ∧ f.b.length ≤ 3072 := of_decide_eq_true (show decide _ = true from (hok.er (f.seq, f.b) (by rw [he]; exact List.mem_map.2 ⟨f, hf, rfl⟩)).2.2.2)
    omega
  have hel : es.length = x.early.length := by rw [he, List.length_map]
  have hel2 : x.early.length ≤ 16 := by have := hok.early_len; omega
  obtain ⟨ea, ec, rfl, _, _, _, _⟩ := hm.lf.own.form
  have HFS : Hid (Frs w ea x.early) := Lib.hid (by rw [he]; exact hm.lf.frs hfb)
  have HSC := Lib.hid (fun W => sized_calls m.pa bs.length m.pc W)
  rw [hz] at HSC
  have HRS := Lib.hid HSt.out.res
  have HHE := Lib.hid he
  have HHQ := Lib.hid hq
  have HSH : Hid (∀ W, St No w No W → Calls Try.prog 89 #[.slice ea x.early.length ec, .int .u64 m.seq, .func (.func 90) #[] #[]] W fun r w' => (∃ i : Nat, r = .returned (.tuple #[.int .i64 i, .bool false]) ∧ Hid (i ≤ x.early.length ∧ insE x.early m.seq bs = x.early.take i ++ (m.seq, bs) :: x.early.drop i)) ∧ St No W No w') := Lib.hid (fun W s => (search_calls W ea ec x.early m.seq (HFS.out.st s) hok.eo (by omega)).mono (fun r w' h => by
    obtain ⟨i, hi, hr, h1, h2, h3⟩ := h
    exact ⟨⟨i, by rw [hr, ← hasB_at hok.eo h1 h2, hnb], Lib.hid ⟨hi, insE_at hi h1 h2⟩⟩, h3⟩))
  have HEL := Lib.hid hel
  have i1 : (x.delivered : Int) < (m.seq : Int) := by omega
  have wd1 : IntKind.u64.wrap ((m.seq : Int) - (x.delivered : Int)) = ((m.seq - x.delivered : Nat) : Int) := by rw [wrap_u64]; omega
  have i2 : decide ((c.win : Int) < ((m.seq - x.delivered : Nat) : Int)) = false := decide_eq_false (by omega)
  have i3 : decide (c.win < m.seq - x.delivered) = false := decide_eq_false (by omega)
  have i4 : decide ((m.seq : Int) ≤ (x.delivered : Int)) = false := decide_eq_false (by omega)
  have i5 : decide (m.seq ≤ x.delivered) = false := decide_eq_false (by omega)
  have HH12 : Hid (x.delivered < m.seq ∧ m.seq - x.delivered ≤ c.win) := Lib.hid ⟨h1, h2⟩
  clear hz hm hq he hpn hE hok hfb hb hn h1 h2 hnb
  go_enter Try.func66, Try.ntmps66
  go_wp2_with fail
  refine (HSC.out _).mono ?_
  rintro r w2 ⟨rfl, rfl⟩
  generalize (w.alloc (.cells m.cells 60)).alloc (.cells #[.slice none 0 0, .slice none 0 0, .bool false] 77) = wA at *
  obtain ⟨d0, d1, d2, d3, d4, d5, d6, d7, d8, d9, d10, f0, f1, f2, f3, f4, f5, f6, f7, f8, f9, f10⟩ := (HM.out.st HSt.out.st (Dj.no _)).ob.n11
  rw [hel] at d10
  clear d0 d1 d2 d3 d4 d5 d6 d7 f0 f1 f2 f3 f4 f5 f6 f7 f8 f9 f10 hel
  go_wp2_with fail
  go_quiet (fail)
  go_wp2_with fail
  have s3 : St No wA No (wA.drewN nq) := St.drewN No wA nq
  have e10 := s3.cellN d10
  have e1 := s3.cellN b1
  have e16 := s3.cellN b16
  have e9 := s3.cellN d9
  have HS3 := Lib.hid s3
  generalize wA.drewN nq = wB at *
  clear s3 d8 d9 d10 b0 b1 b12 b16 wd1 i1 i2 i3
  go_region_held3 (fun w' => w'.cell? ⟨p, 10, none⟩ = some (.slice ea x.early.length ec) ∧ w'.cell? ⟨w.heap.size, 1, none⟩ = some (.int .u64 m.seq)) (go_keep)
    (first
      | (go_at_call 89
         refine (HSH.out _ ?_).mono ?_
         · (refine St.trans (St.trans HSt.out.st HS3.out) ?_; (repeat (first | exact St.refl No _ | refine St.trans ?_ (St.drew No _) | refine St.trans ?_ (St.drewN No _ _))))
         rintro r w5 ⟨⟨i, rfl, HI⟩, hs5⟩
         have hs5' : St No wB No w5 := by (refine St.trans ?_ hs5; (repeat (first | exact St.refl No _ | refine St.trans ?_ (St.drew No _) | refine St.trans ?_ (St.drewN No _ _))))
         have y10 := hs5'.cellN e10
         have y1 := hs5'.cellN e1
         have y16 := hs5'.cellN e16
         have y9 := hs5'.cellN e9
         have HS5 := Lib.hid (HS3.out.trans hs5')
         clear hs5 hs5'))
  clear e10 e1 e16 e9
  go_wp2_with fail
  go_quiet (fail)
  go_wp2_with fail
  have s6 : St No w5 No (w5.drewN nq) := St.drewN No w5 nq
  have e10 := s6.cellN y10
  have e1 := s6.cellN y1
  have e16 := s6.cellN y16
  have HS6 := Lib.hid (HS5.out.trans s6)
  generalize w5.drewN nq = wC at *
  clear s6 y10 y1 y16 y9 HS5 HS3 i4 i5
  have HWC : Hid (St No w No wC) := Lib.hid (HSt.out.st.trans HS6.out)
  have HCL : Hid (∀ W, St No wC No W → Calls Try.prog 77 #[.slice m.pa bs.length m.pc] W fun e w' => ∃ a5 c5, e = .returned (.slice a5 bs.length c5) ∧ St No wC (fpV (.slice a5 bs.length c5)) w' ∧ Hid (∀ W2, W2.heap = (w'.alloc (.cells #[.int .u64 m.seq, .slice a5 bs.length c5] 133)).heap → W2.os = w'.os → W2.tape = w'.tape → W2.output = w'.output → Calls Try.prog 92 #[.slice ea x.early.length ec, .int .i64 i, .slice (some ⟨w'.heap.size, 0, none⟩) 1 1] W2 fun e w7 => ∃ V1, e = .returned V1 ∧ LsF w7 V1 (es.take i ++ (⟨m.seq, .slice a5 bs.length c5, bs⟩ : FB) :: es.drop i) ∧ St (fpV (.slice ea es.length ec)) (w'.alloc (.cells #[.int .u64 m.seq, .slice a5 bs.length c5] 133)) (fpV V1) w7)) := Lib.hid (fun W s => (xclone_calls m.pa m.pc bs (by omega) HNN.out W (HBS.out.st (HWC.out.trans s) (Dj.no _))).mono (fun r w' h => by
    obtain ⟨v, rfl, ho, hs⟩ := h
    obtain ⟨a5, c5, rfl, _, _, _, _⟩ := ho.form
    have sw : St No w No w' := (HWC.out.trans s).trans (hs.drop (G' := No) (fun _ e => e.elim))
    refine ⟨a5, c5, rfl, s.trans hs, Lib.hid (fun W2 hh h1 h2 h3 => ?_)⟩
    have sA : St No w' No (w'.alloc (.cells #[.int .u64 m.seq, .slice a5 bs.length c5] 133)) := St.alloc' No w' _
    have hl := ((HM.out.lf.st sw (Dj.no _)).st sA (Dj.no _)).hp hh
    have hin := HM.out.in
    rw [← HEL.out]
    refine (insert_calls W2 _ es ⟨m.seq, .slice a5 bs.length c5, bs⟩ w'.heap.size i hl (by rw [HEL.out]; omega) (by rw [HEL.out]; exact HI.out.1) ((Ob.alloc w' _ _).move (by rw [hh]; rfl)) (fun e => ?_) ((ho.st sA (Dj.no _)).move (fun k _ => by rw [hh])) (fun k a b => ?_)).mono ?_
    · have := hin _ (.inr (.inr (fpL_iff.2 (.inl e))))
      have := sw.size
      omega
    · have e1 := hin k (.inr (.inr b))
      have e2 := hs.news k a
      have e3 := (HWC.out.trans s).size
      omega
    · rintro r w7 ⟨V1, rfl, hl7, hs7⟩
      exact ⟨V1, rfl, hl7, hs7.os.trans h1, hs7.tape.trans h2, hs7.output.trans h3, by rw [← hh]; exact hs7.size, fun k hk hn => by rw [hs7.block k (by rw [hh]; exact hk) hn, hh], fun k hk => by rw [← hh]; exact hs7.new k hk⟩))
  go_cut [6] from 61 to 76 (fun v wx => ∃ (va7 : Option Addr) (vc7 : Nat) (xv : Value), Hid (PrM wx p c x.sent x.acked x.mask x.delivered Vq (.slice va7 (es.length + 1) vc7) qs (es.take i ++ (⟨m.seq, xv, bs⟩ : FB) :: es.drop i)) ∧ Hid (St (fpP p Vq (.slice ea es.length ec) qs es) wC (fpP p Vq (.slice va7 (es.length + 1) vc7) qs (es.take i ++ (⟨m.seq, xv, bs⟩ : FB) :: es.drop i)) wx))
  case first =>
    go_region_law (first
      | (go_simp
         go_at_call 77
         refine (HCL.out _ (by repeat (first | exact St.refl No _ | refine St.trans ?_ (St.drew No _) | refine St.trans ?_ (St.drewN No _ _)))).mono ?_
         rintro r w6 ⟨a5, c5, rfl, hs6, HIN⟩
         have y10 : w6.cell? ⟨p, 10, none⟩ = some (.slice ea x.early.length ec) := hs6.cellN e10
         have y1 := hs6.cellN e1
         have y16 := hs6.cellN e16
         have hpc : p < wC.heap.size := World.block_lt_of_cell? wC _ e10
         have hpb : w.heap.size < wC.heap.size := World.block_lt_of_cell? wC _ e1
         have hz6 := hs6.size
         have q1 : p ≠ w6.heap.size := by omega
         have q2 : w6.heap.size ≠ p := by omega
         have q3 : w.heap.size ≠ w6.heap.size := by omega
         have q4 : w6.heap.size ≠ w.heap.size := by omega
         have hp6 : p < w6.heap.size := by omega
         have y10a : (w6.alloc (.cells #[.int .u64 m.seq, .slice a5 bs.length c5] 133)).cell? ⟨p, 10, none⟩ = some (.slice ea x.early.length ec) := (St.alloc' No w6 _).cellN y10
         have HS6b := Lib.hid hs6
         clear hs6)
      | (go_simp
         go_at_call 92
         refine (HIN.out _ rfl rfl rfl rfl).mono ?_
         rintro r w7 ⟨V1, rfl, hl7, hs7⟩
         have hob7 := ((HM.out.ob.move (((HWC.out.trans (HS6b.out.drop (G' := No) (fun _ e => e.elim))).trans (St.alloc' No w6 _)).block p HM.out.ob.lt (fun e => e)))).move (hs7.block p (by rw [World.size_alloc]; omega) (fun e => HM.out.df (fpL_iff.2 (.inl e))))
         have z10 : w7.cell? ⟨p, 10, none⟩ = some (.slice ea es.length ec) := by rw [hob7.cell 10]; rfl
         have zf10 : w7.frozen? ⟨p, 10, none⟩ = false := hob7.free 10
         obtain ⟨va7, vc7, e7, _, _, _, _⟩ := hl7.own.form
         have hlen7 : (es.take i ++ (⟨m.seq, .slice a5 bs.length c5, bs⟩ : FB) :: es.drop i).length = es.length + 1 := by rw [List.length_append, List.length_cons, List.length_take, List.length_drop]; have := HI.out.1; have := HEL.out; omega
         rw [hlen7] at e7
         subst e7
         have HX7 := Lib.hid (PrM.inserted (HM.out.st HWC.out (Dj.no _)).in ((HM.out.st HWC.out (Dj.no _)).st HS6b.out (Dj.no _)) HS6b.out hl7 hs7)
         clear hl7 hs7 hob7))
    all_goals (go_wp2_with fail; go_meet)
    all_goals exact ⟨va7, vc7, _, Lib.hid HX7.out.1, Lib.hid HX7.out.2⟩
  case rest =>
    obtain ⟨va7, vc7, xv, HPM, HST⟩ := hcut
    clear e10 e1 e16
    have HI2 := HI.out.2
    have hEs : (es.take i ++ (⟨m.seq, xv, bs⟩ : FB) :: es.drop i).map FB.pl = insE x.early m.seq bs := by
      rw [HI2, HHE.out, List.map_append, List.map_cons, List.map_take, List.map_drop]
      rfl
    have hbd : ∀ f ∈ es.take i ++ (⟨m.seq, xv, bs⟩ : FB) :: es.drop i, x.delivered < f.seq ∧ f.seq ≤ 18446744073709551615 ∧ f.b.length ≤ 3072 := fun f hf => by
      have hes : ∀ f ∈ es, x.delivered < f.seq ∧ f.seq ≤ 18446744073709551615 ∧ f.b.length ≤ 3072 := fun f hf => by
        have h := HOK.out.er (f.seq, f.b) (by rw [HHE.out]; exact List.mem_map.2 ⟨f, hf, rfl⟩)
        have h2 : 1 ≤ f.b.length ∧ f.b.length ≤ 3072 := of_decide_eq_true (show decide _ = true from h.2.2.2)
        exact ⟨by have := h.1; show x.delivered < f.seq; omega, h.2.2.1, h2.2⟩
      rcases List.mem_append.1 hf with hf | hf
      · exact hes f (List.mem_of_mem_take hf)
      · rcases List.mem_cons.1 hf with rfl | hf
        · exact ⟨HH12.out.1, hms, hbl⟩
        · exact hes f (List.mem_of_mem_drop hf)
    have hln : (es.take i ++ (⟨m.seq, xv, bs⟩ : FB) :: es.drop i).length = es.length + 1 := by rw [List.length_append, List.length_cons, List.length_take, List.length_drop]; have := HI.out.1; have := HEL.out; omega
    have HL0 := Lib.hid (Lp.start HPM.out HST.out hEs hdl hbd (insE_sorted HOK.out.eo HNB.out) (n0 := 17) (by rw [hln, HEL.out]; omega))
    have HRC := Lib.hid (HRS.out.move (HS6.out.block _ HRS.out.lt (fun e => e)))
    have hrt : w.heap.size + 1 < wc.heap.size := Nat.lt_of_lt_of_le HRC.out.lt HST.out.size
    clear hEs hbd hln HI2
    go_wp2
    generalize hws : wc.alloc (.cells #[.slice none 0 0, .slice none 0 0, .bool true] 77) = wS at *
    generalize wc.heap.size = t at *
    clear hws
    go_loopw [9] (fun _ wr => ∃ (dl : Nat) (Ve : Value) (es' : List FB) (Vu : Value) (us : List UB), Hid (Lp wC wr (fpP p Vq (.slice ea es.length ec) qs es) p c x Vq qs (insE x.early m.seq bs) t 17 dl Ve es' Vu us)) (fun _ wr => lenOf (wr.cell? ⟨p, 10, none⟩))
    case atStart => exact ⟨_, _, _, _, _, HL0⟩
    case round =>
      obtain ⟨dl, Ve, es', Vu, us, HL⟩ := hrel
      have HPR := Lib.hid HL.out.up.pr
      have htp : t ≠ p := fun e => HL.out.up.tp (.inl e)
      have hpt : p ≠ t := fun e => htp e.symm
      have htl := HL.out.up.tk.lt
      have hpl2 := HPR.out.ob.lt
      obtain ⟨t0, t1, t2, tf0, tf1, tf2⟩ := HL.out.up.tk.n3
      obtain ⟨d0, d1, d2, d3, d4, d5, d6, d7, d8, d9, d10, f0, f1, f2, f3, f4, f5, f6, f7, f8, f9, f10⟩ := HPR.out.ob.n11
      clear d1 d2 d3 d4 d5 d6 d8 f0 f1 f2 f3 f4 f5 f6 f7 f8
      have HUL : Hid (us.length ≤ 4294967296) := Lib.hid (by have := HL.out.ln; omega)
      obtain ⟨ua, uc, rfl, _, _, _, _⟩ := HL.out.up.lu.own.form
      cases es' with
      | nil =>
        have HSTOP : Hid (stopB dl ([] : List FB)) := Lib.hid (fun f fs e => by cases e)
        obtain ⟨va, vc, rfl, _, _, _, _⟩ := HPR.out.lf.own.form
        rw [show ([] : List FB).length = 0 from rfl] at d10
        go_wp2_with fail
        go_quiet (fail)
        have HAE := Lib.hid (HL.out.at_end HSTOP.out HE.out HOB.out HHQ.out)
        have HAC : Hid (Calls Try.prog 91 #[.pointer (some ⟨p, 7, none⟩)] (wr.drewN nq) fun e w' => e = .returned (.agg (outC c.adr 11 dl (ackM dl (([] : List FB).map FB.pl)) (.slice none 0 0))) ∧ St No (wr.drewN nq) No w') := Lib.hid (by
          have hok2 := comeX_ok (bs := bs) HOK.out hms
          have hee : ∀ f ∈ ([] : List FB), dl + 2 ≤ f.seq ∧ f.seq ≤ dl + 64 ∧ f.seq ≤ 18446744073709551615 := fun f hf => by
            have := hok2.er (f.seq, f.b) (by rw [HAE.out.2.2.1]; exact List.mem_map.2 ⟨f, hf, rfl⟩)
            rw [HAE.out.2.1] at this
            omega
          have hll := HL.out.ln
          exact ack_calls _ p c x.sent x.acked x.mask dl Vq _ qs _ (HL.out.drew nq).up.pr HL.out.dm hee (by omega) (fun f hf => by have := (HL.out.bd f hf).2.2; omega))
        have HLQ := Lib.hid (HL.out.drew nq)
        have HRB := Lib.hid ((HRC.out.move (HL.out.st.block _ HRC.out.lt (fun e => absurd (HM.out.in _ e) (by omega)))).drewN nq)
        generalize wr.drewN nq = wB at *
        clear d7 d9 d10 f9 f10 t0 t1 t2 tf0 tf1 tf2 htl hpl2 HL HPR
        go_wp2_with fail
        refine HAC.out.mono ?_
        rintro r w6 ⟨rfl, hs6⟩
        have HS6B := Lib.hid hs6
        have hot := HLQ.out.up.tk.move (hs6.block t HLQ.out.up.tk.lt (fun e => e))
        have hor := HRB.out.move (hs6.block _ HRB.out.lt (fun e => e))
        have HRT := Lib.hid hor
        obtain ⟨t0, t1, t2, tf0, tf1, tf2⟩ := hot.n3
        obtain ⟨r0, r1, r2, rf0, rf1, rf2⟩ := hor.n3
        have htl := hot.lt
        have hrl := hor.lt
        have n1 : t ≠ w6.heap.size := by omega
        have n2 : w6.heap.size ≠ t := by omega
        have n3 : w.heap.size + 1 ≠ w6.heap.size := by omega
        have n4 : w6.heap.size ≠ w.heap.size + 1 := by omega
        have n5 : w.heap.size + 1 ≠ t := by omega
        have n6 : t ≠ w.heap.size + 1 := by omega
        obtain ⟨mk, HMK⟩ : ∃ mk, Hid (mk = ackM dl (([] : List FB).map FB.pl)) := ⟨_, Lib.hid rfl⟩
        rw [← HMK.out]
        have hsz1 : (outC c.adr 11 dl mk (.slice none 0 0)).size = 18 := rfl
        clear hs6 hot hor
        go_wp2_with fail
        rw [outFold]
        have s1 : St (fun j => j = t ∨ j = w.heap.size + 1) w6 (fun j => j = t ∨ j = w.heap.size + 1) (w6.setCell ⟨t, 1, none⟩ (.slice (some ⟨w6.heap.size, 0, none⟩) 1 1)) := St.setCell _ _ _ (.inl rfl)
        have sA : St (fun j => j = t ∨ j = w.heap.size + 1) w6 (fun j => j = t ∨ j = w.heap.size + 1) ((((w6.setCell ⟨t, 1, none⟩ (.slice (some ⟨w6.heap.size, 0, none⟩) 1 1)).setCell ⟨w.heap.size + 1, 0, none⟩ (.slice ua us.length uc)).setCell ⟨w.heap.size + 1, 1, none⟩ (.slice (some ⟨w6.heap.size, 0, none⟩) 1 1)).setCell ⟨w.heap.size + 1, 2, none⟩ (.bool true)) := ((s1.trans (St.setCell _ _ _ (.inr rfl))).trans (St.setCell _ _ _ (.inr rfl))).trans (St.setCell _ _ _ (.inr rfl))
        have hTR := taken_row (HRT.out.move ((St.setCell (F := fpB0 t) w6 ⟨t, 1, none⟩ (.slice (some ⟨w6.heap.size, 0, none⟩) 1 1) rfl).block _ HRT.out.lt (fun e => n5 e))) (.slice ua us.length uc) (.slice (some ⟨w6.heap.size, 0, none⟩) 1 1) (.bool true)
        have hsA : ((((w6.setCell ⟨t, 1, none⟩ (.slice (some ⟨w6.heap.size, 0, none⟩) 1 1)).setCell ⟨w.heap.size + 1, 0, none⟩ (.slice ua us.length uc)).setCell ⟨w.heap.size + 1, 1, none⟩ (.slice (some ⟨w6.heap.size, 0, none⟩) 1 1)).setCell ⟨w.heap.size + 1, 2, none⟩ (.bool true)).heap.size = w6.heap.size := by simp
        generalize (((w6.setCell ⟨t, 1, none⟩ (.slice (some ⟨w6.heap.size, 0, none⟩) 1 1)).setCell ⟨w.heap.size + 1, 0, none⟩ (.slice ua us.length uc)).setCell ⟨w.heap.size + 1, 1, none⟩ (.slice (some ⟨w6.heap.size, 0, none⟩) 1 1)).setCell ⟨w.heap.size + 1, 2, none⟩ (.bool true) = w7 at *
        have hob := Ob.alloc w7 (outC c.adr 11 dl mk (.slice none 0 0)) 62
        have s9 : St No w7 No (w7.alloc (.cells (outC c.adr 11 dl mk (.slice none 0 0)) 62)) := St.alloc' No _ _
        refine bodyPost_ret (results_cell_row_tmp2 rfl _ _ (w.heap.size + 1) _ _ _ _ rfl (hTR.move (s9.block _ hTR.lt (fun e => e))) Try.underlying77 rfl tkInfo) rfl ?_
        rw [hsA, HMK.out] at hob
        rw [HMK.out] at s9 ⊢
        exact HLQ.out.taken HSTOP.out HE.out HOB.out HHQ.out HM.out.in HWC.out HRC.out.lt HS6B.out sA (Nat.le_of_eq hsA) hob s9

      | cons f fs =>
        obtain ⟨sq, fv, fb⟩ := f
        have HBF := Lib.hid (HL.out.bd _ (List.mem_cons_self ..))
        have hform : OwB wr fv fb := HPR.out.lf.el _ (List.mem_cons_self ..)
        obtain ⟨fa, fc, rfl, _, _, _, _⟩ := hform.form
        clear hform
        have hfl := HPR.out.lf.own
        rw [List.length_cons] at hfl
        rcases hfl.2 with ⟨_, h0⟩ | ⟨g, cap, cur, e, hc1, _, _, _⟩
        · omega
        subst e
        obtain ⟨n, hn⟩ : ∃ n, n = fs.length := ⟨_, rfl⟩
        have HN := Lib.hid hn.symm
        rw [← hn] at HL HPR d10 hfl
        clear hn
        have hn16 : n ≤ 16 := by have h := HL.out.ln; have := HN.out; rw [List.length_cons] at h; omega
        have hgw : g < wr.heap.size := HPR.out.lf.in g (fpL_iff.2 (.inl (fpV_at.2 rfl)))
        have hgp : g ≠ p := fun e => HPR.out.df (by rw [← e]; exact fpL_iff.2 (.inl (fpV_at.2 rfl)))
        have hgt : g ≠ t := fun e => HL.out.up.tp (by rw [← e]; exact .inr (.inr (fpL_iff.2 (.inl (fpV_at.2 rfl)))))
        have c0 : wr.cell? ⟨g, 0, none⟩ = some (.int .u64 sq) := hfl.isAt (j := 0) rfl
        have c1 : wr.cell? ⟨g, 1, none⟩ = some (.slice fa fb.length fc) := hfl.isAt (j := 1) rfl
        have HD10 := Lib.hid d10
        have g1 : (0 : Int) < (n : Int) + 1 := by omega
        have g2 : decide ((0 : Int) < (n : Int) + 1) = true := decide_eq_true g1
        clear hfl
        by_cases hsq : sq = dl + 1
        · have wd : IntKind.u64.wrap ((dl : Int) + 1) = (sq : Int) := by rw [wrap_u64]; have := HBF.out.2.1; have e : (⟨sq, .slice fa fb.length fc, fb⟩ : FB).seq = sq := rfl; omega
          have HSQ := Lib.hid hsq
          clear hsq
          go_wp2_with fail
          go_quiet (fail)
          have sB : St No wr No (wr.drewN nq) := St.drewN No wr nq
          have zB : (wr.drewN nq).heap.size = wr.heap.size := rfl
          have HLB : Hid (Lp wC (wr.drewN nq) (fpP p Vq (.slice ea es.length ec) qs es) p c x Vq qs (insE x.early m.seq bs) t 17 dl (.slice (some ⟨g, 0, none⟩) (n + 1) cap) (⟨sq, .slice fa fb.length fc, fb⟩ :: fs) (.slice ua us.length uc) us) := Lib.hid (HL.out.drew nq)
          have y10 := sB.cellN d10
          have y9 := sB.cellN d9
          have y7 := sB.cellN d7
          have x0 := sB.cellN c0
          have x1 := sB.cellN c1
          have v0 := sB.cellN t0
          have v1 := sB.cellN t1
          have v2 := sB.cellN t2
          have yf9 := HLB.out.up.pr.ob.free 9
          have yf10 := HLB.out.up.pr.ob.free 10
          have vf0 := HLB.out.up.tk.free 0
          have hgB : g < (wr.drewN nq).heap.size := hgw
          have htB : t < (wr.drewN nq).heap.size := htl
          have hpB : p < (wr.drewN nq).heap.size := hpl2
          generalize wr.drewN nq = wB at *
          clear d0 d7 d9 d10 f9 f10 t0 t1 t2 tf0 tf1 tf2 c0 c1 sB zB hgw htl hpl2 HL HPR
          go_wp2_with fail
          have sF : St No wB No (wB.alloc (.cells #[.int .u64 sq, .slice fa fb.length fc] 133)) := St.alloc' No wB _
          have obF := Ob.alloc wB #[.int .u64 sq, .slice fa fb.length fc] 133
          have r0 : (wB.alloc (.cells #[.int .u64 sq, .slice fa fb.length fc] 133)).cell? ⟨wB.heap.size, 0, none⟩ = some (.int .u64 sq) := by rw [obF.cell 0]; rfl
          have r1 : (wB.alloc (.cells #[.int .u64 sq, .slice fa fb.length fc] 133)).cell? ⟨wB.heap.size, 1, none⟩ = some (.slice fa fb.length fc) := by rw [obF.cell 1]; rfl
          have k10 := sF.cellN y10
          have k9 := sF.cellN y9
          have k7 := sF.cellN y7
          have u0 := sF.cellN v0
          have obp := HLB.out.up.pr.ob.move (sF.block _ HLB.out.up.pr.ob.lt (fun e => e))
          have obt := HLB.out.up.tk.move (sF.block _ HLB.out.up.tk.lt (fun e => e))
          have kf9 := obp.free 9
          have kf10 := obp.free 10
          have uf0 := obt.free 0
          have HUF : Hid (LsU (wB.alloc (.cells #[.int .u64 sq, .slice fa fb.length fc] 133)) (.slice ua us.length uc) us) := Lib.hid (HLB.out.up.lu.st sF (Dj.no _))
          have HFV : Hid (OwB (wB.alloc (.cells #[.int .u64 sq, .slice fa fb.length fc] 133)) (.slice fa fb.length fc) fb) := Lib.hid ((HLB.out.up.pr.lf.el _ (List.mem_cons_self ..)).st sF (Dj.no _))
          have HDJ : Hid (Dj (fpV (.slice fa fb.length fc)) (fpL UB.v (.slice ua us.length uc) us)) := Lib.hid (fun k a b => HLB.out.up.du k (.inr (.inr (fpL_iff.2 (.inr ⟨_, List.mem_cons_self .., a⟩)))) b)
          have hszF : (wB.alloc (.cells #[.int .u64 sq, .slice fa fb.length fc] 133)).heap.size = wB.heap.size + 1 := World.size_alloc ..
          have HOBP := Lib.hid obp
          have HOBT := Lib.hid obt
          have HOBF := Lib.hid obF
          generalize hwF : wB.alloc (.cells #[.int .u64 sq, .slice fa fb.length fc] 133) = wF at *
          have HWF := Lib.hid hwF
          clear y10 y9 y7 x0 x1 v0 v1 v2 yf9 yf10 vf0 hwF obF obp obt sF
          have q1 : p < wF.heap.size := by omega
          have q2 : t < wF.heap.size := by omega
          have HSZF := Lib.hid hszF
          clear hszF
          go_cut [9] from 78 to 133 (fun v wx => ∃ (va3 : Option Addr) (vc3 : Nat) (w3 : World), wx = w3.setCell ⟨t, 0, none⟩ (.slice va3 (us.length + 1) vc3) ∧ Hid (Ob w3 t 77 #[.slice ua us.length uc, .slice none 0 0, .bool true]) ∧ Hid (Ob w3 p 124 #[.int .u8 c.adr, .int .i64 c.room, .int .i64 c.win, .int .u64 x.sent, .int .u64 x.acked, Vq, .int .u64 (x.mask.toNat : Int), .int .u8 c.adr, .int .u64 c.win, .int .u64 dl, .slice (some ⟨g, 0, none⟩) (n + 1) cap]) ∧ Hid (LsU w3 (.slice va3 (us.length + 1) vc3) (us ++ [(⟨c.adr, sq, .slice fa fb.length fc, fb⟩ : UB)])) ∧ Hid (St (fpV (.slice ua us.length uc)) ((wB.alloc (.cells #[.int .u64 sq, .slice fa fb.length fc] 133)).alloc (.cells #[.int .u8 c.adr, .int .u64 (sq : Int), .slice fa fb.length fc] 136)) (fpV (.slice va3 (us.length + 1) vc3)) w3))
          case first =>
            go_region_law (first
              | (refine step_appL 75 infU Try.underlying75 (by decide) rfl (.tmp 106) (.tmp 116) rfl _ us rfl ((HUF.out.st (St.alloc' No wF (.cells #[.int .u8 c.adr, .int .u64 (sq : Int), .slice fa fb.length fc] 136)) (Dj.no _)).hp rfl) ⟨c.adr, sq, .slice fa fb.length fc, fb⟩ wF.heap.size rfl ((Ob.alloc wF #[.int .u8 c.adr, .int .u64 (sq : Int), .slice fa fb.length fc] 136).move rfl) rfl (fun u hu => by simp only [UB.cells, List.mem_cons, List.not_mem_nil, or_false] at hu; rcases hu with rfl | rfl | rfl <;> rfl) ((HFV.out.st (St.alloc' No wF (.cells #[.int .u8 c.adr, .int .u64 (sq : Int), .slice fa fb.length fc] 136)) (Dj.no _)).move (fun _ _ => rfl)) HDJ.out HUL.out ?_
                 intro V3 w3 hg3 hs3
                 have b3t : w3.heap[t]? = wF.heap[t]? := (hs3.block t (Nat.lt_of_lt_of_le q2 (St.alloc' No wF _).size) (fun e => HLB.out.up.tu (fpL_iff.2 (.inl e)))).trans (Below.heap_alloc wF _ t q2)
                 have b3p : w3.heap[p]? = wF.heap[p]? := (hs3.block p (Nat.lt_of_lt_of_le q1 (St.alloc' No wF _).size) (fun e => HLB.out.up.du p (.inl rfl) (fpL_iff.2 (.inl e)))).trans (Below.heap_alloc wF _ p q1)
                 have ob3t := HOBT.out.move b3t
                 have ob3p := HOBP.out.move b3p
                 have n0 : w3.cell? ⟨t, 0, none⟩ = some (.slice ua us.length uc) := by rw [ob3t.cell 0]; rfl
                 have nf0 := ob3t.free 0
                 have n9 : w3.cell? ⟨p, 9, none⟩ = some (.int .u64 dl) := by rw [ob3p.cell 9]; rfl
                 have nf9 := ob3p.free 9
                 have n10 : w3.cell? ⟨p, 10, none⟩ = some (.slice (some ⟨g, 0, none⟩) (n + 1) cap) := by rw [ob3p.cell 10]; rfl
                 have nf10 := ob3p.free 10
                 obtain ⟨va3, vc3, e3, _, _, _, _⟩ := hg3.own.form
                 rw [List.length_append, List.length_cons, List.length_nil, Nat.zero_add] at e3
                 subst e3
                 have HO3T := Lib.hid ob3t
                 have HO3P := Lib.hid ob3p
                 have HG3 := Lib.hid hg3
                 have HS3 : Hid (St (fpV (.slice ua us.length uc)) ((wB.alloc (.cells #[.int .u64 sq, .slice fa fb.length fc] 133)).alloc (.cells #[.int .u8 c.adr, .int .u64 (sq : Int), .slice fa fb.length fc] 136)) (fpV (.slice va3 (us.length + 1) vc3)) w3) := Lib.hid (by rw [HWF.out]; exact ⟨hs3.os, hs3.tape, hs3.output, hs3.size, hs3.block, hs3.new⟩)
                 clear hg3 hs3 b3t b3p ob3t ob3p))
            all_goals (go_wp2_with fail; go_meet)
            all_goals exact ⟨va3, vc3, w3, rfl, HO3T, HO3P, HG3, HS3⟩
          case rest =>
            obtain ⟨va3, vc3, w3, rfl, HO3T, HO3P, HG3, HS3⟩ := hcut
            clear r0 r1 k10 k9 k7 u0 kf9 kf10 uf0
            have d9 : (w3.setCell ⟨t, 0, none⟩ (.slice va3 (us.length + 1) vc3)).cell? ⟨p, 9, none⟩ = some (.int .u64 dl) := by
              rw [(HO3P.out.move (St.setCell (F := fpB0 t) w3 ⟨t, 0, none⟩ (.slice va3 (us.length + 1) vc3) rfl |>.block p HO3P.out.lt (fun e => hpt e))).cell 9]; rfl
            have hOP := HO3P.out.move (St.setCell (F := fpB0 t) w3 ⟨t, 0, none⟩ (.slice va3 (us.length + 1) vc3) rfl |>.block p HO3P.out.lt (fun e => hpt e))
            have df9 := hOP.free 9
            have HOP9 := Lib.hid (hOP.set 9 (.int .u64 sq))
            have d10 : ((w3.setCell ⟨t, 0, none⟩ (.slice va3 (us.length + 1) vc3)).setCell ⟨p, 9, none⟩ (.int .u64 sq)).cell? ⟨p, 10, none⟩ = some (.slice (some ⟨g, 0, none⟩) (n + 1) cap) := by rw [HOP9.out.cell 10]; rfl
            clear hOP
            have HDE : Hid (Calls Try.prog 93 #[.slice (some ⟨g, 0, none⟩) (n + 1) cap, .int .i64 0, .int .i64 1] ((w3.setCell ⟨t, 0, none⟩ (.slice va3 (us.length + 1) vc3)).setCell ⟨p, 9, none⟩ (.int .u64 sq)) fun e w' => e = .returned (.slice (some ⟨g, 0, none⟩) n cap) ∧ LsF w' (.slice (some ⟨g, 0, none⟩) n cap) fs ∧ St (fpB0 g) ((w3.setCell ⟨t, 0, none⟩ (.slice va3 (us.length + 1) vc3)).setCell ⟨p, 9, none⟩ (.int .u64 sq)) (fpB0 g) w') := Lib.hid (by
              have h := HLB.out.up
              have l1 := ((h.pr.lf.st (St.alloc' No wB _) (Dj.no _)).st (St.alloc' No _ _) (Dj.no _)).st HS3.out (fun k a b => h.du k (.inr (.inr b)) (fpL_iff.2 (.inl a)))
              have l2 := l1.st (St.setCell (F := fpB0 t) w3 ⟨t, 0, none⟩ (.slice va3 (us.length + 1) vc3) rfl) (fun k a b => by cases (show k = t from a); exact h.tp (.inr (.inr b)))
              have l3 := l2.st (St.setCell (F := fpB0 p) _ ⟨p, 9, none⟩ (.int .u64 sq) rfl) (fun k a b => by cases (show k = p from a); exact h.pr.df b)
              exact delete_calls _ g cap n _ fs HN.out l3 (by omega))
            go_wp2_with fail
            refine HDE.out.mono ?_
            rintro r w4 ⟨rfl, hl4, hs4⟩
            have hOP4 := HOP9.out.move (hs4.block p HOP9.out.lt (fun e => hgp (show p = g from e).symm))
            have e10 : w4.cell? ⟨p, 10, none⟩ = some (.slice (some ⟨g, 0, none⟩) (n + 1) cap) := by rw [hOP4.cell 10]; rfl
            have ef10 := hOP4.free 10
            have HEND : Hid (Lp wC (w4.setCell ⟨p, 10, none⟩ (.slice (some ⟨g, 0, none⟩) n cap)) (fpP p Vq (.slice ea es.length ec) qs es) p c x Vq qs (insE x.early m.seq bs) t 17 (dl + 1) (.slice (some ⟨g, 0, none⟩) n cap) fs (.slice va3 (us.length + 1) vc3) (us ++ [⟨c.adr, sq, .slice fa fb.length fc, fb⟩])) := Lib.hid (by
              have hsq := HSQ.out
              rw [hsq] at hs4
              exact HLB.out.step hsq HN.out HG3.out HS3.out hl4 hs4)
            have HME : Hid (lenOf ((w4.setCell ⟨p, 10, none⟩ (.slice (some ⟨g, 0, none⟩) n cap)).cell? ⟨p, 10, none⟩) < lenOf (wr.cell? ⟨p, 10, none⟩)) := Lib.hid (by rw [(hOP4.set 10 (.slice (some ⟨g, 0, none⟩) n cap)).cell 10, HD10.out]; exact Nat.lt_succ_self n)
            clear hl4 hs4 hOP4 d9 df9 d10
            go_wp2
            exact ⟨⟨_, _, _, _, _, HEND⟩, HME.out⟩
        · have HSTOP : Hid (stopB dl ((⟨sq, .slice fa fb.length fc, fb⟩ : FB) :: fs)) := Lib.hid (fun f fs e => by cases e; exact hsq)
          obtain ⟨dn, hdn⟩ : ∃ dn, dn = dl + 1 := ⟨_, rfl⟩
          have wd : IntKind.u64.wrap ((dl : Int) + 1) = (dn : Int) := by rw [wrap_u64]; have := HBF.out.1; have := HBF.out.2.1; have e : (⟨sq, .slice fa fb.length fc, fb⟩ : FB).seq = sq := rfl; omega
          have e1 : ((sq : Int) == (dn : Int)) = false := by rw [beq_eq_false_iff_ne]; omega
          have e2 : ¬ (sq : Int) = (dn : Int) := by omega
          clear hsq hdn c1
          go_wp2_with fail
          go_quiet (fail)
          have HAE := Lib.hid (HL.out.at_end HSTOP.out HE.out HOB.out HHQ.out)
          have HAC : Hid (Calls Try.prog 91 #[.pointer (some ⟨p, 7, none⟩)] (wr.drewN nq) fun e w' => e = .returned (.agg (outC c.adr 11 dl (ackM dl (((⟨sq, .slice fa fb.length fc, fb⟩ : FB) :: fs).map FB.pl)) (.slice none 0 0))) ∧ St No (wr.drewN nq) No w') := Lib.hid (by
            have hok2 := comeX_ok (bs := bs) HOK.out hms
            have hee : ∀ f ∈ ((⟨sq, .slice fa fb.length fc, fb⟩ : FB) :: fs), dl + 2 ≤ f.seq ∧ f.seq ≤ dl + 64 ∧ f.seq ≤ 18446744073709551615 := fun f hf => by
              have := hok2.er (f.seq, f.b) (by rw [HAE.out.2.2.1]; exact List.mem_map.2 ⟨f, hf, rfl⟩)
              rw [HAE.out.2.1] at this
              omega
            have hll := HL.out.ln
            exact ack_calls _ p c x.sent x.acked x.mask dl Vq _ qs _ (HL.out.drew nq).up.pr HL.out.dm hee (by omega) (fun f hf => by have := (HL.out.bd f hf).2.2; omega))
          have HLQ := Lib.hid (HL.out.drew nq)
          have HRB := Lib.hid ((HRC.out.move (HL.out.st.block _ HRC.out.lt (fun e => absurd (HM.out.in _ e) (by omega)))).drewN nq)
          generalize wr.drewN nq = wB at *
          clear d7 d9 d10 f9 f10 t0 t1 t2 tf0 tf1 tf2 htl hpl2 HL HPR
          go_wp2_with fail
          refine HAC.out.mono ?_
          rintro r w6 ⟨rfl, hs6⟩
          have HS6B := Lib.hid hs6
          have hot := HLQ.out.up.tk.move (hs6.block t HLQ.out.up.tk.lt (fun e => e))
          have hor := HRB.out.move (hs6.block _ HRB.out.lt (fun e => e))
          have HRT := Lib.hid hor
          obtain ⟨t0, t1, t2, tf0, tf1, tf2⟩ := hot.n3
          obtain ⟨r0, r1, r2, rf0, rf1, rf2⟩ := hor.n3
          have htl := hot.lt
          have hrl := hor.lt
          have n1 : t ≠ w6.heap.size := by omega
          have n2 : w6.heap.size ≠ t := by omega
          have n3 : w.heap.size + 1 ≠ w6.heap.size := by omega
          have n4 : w6.heap.size ≠ w.heap.size + 1 := by omega
          have n5 : w.heap.size + 1 ≠ t := by omega
          have n6 : t ≠ w.heap.size + 1 := by omega
          obtain ⟨mk, HMK⟩ : ∃ mk, Hid (mk = ackM dl (((⟨sq, .slice fa fb.length fc, fb⟩ : FB) :: fs).map FB.pl)) := ⟨_, Lib.hid rfl⟩
          rw [← HMK.out]
          have hsz1 : (outC c.adr 11 dl mk (.slice none 0 0)).size = 18 := rfl
          clear hs6 hot hor
          go_wp2_with fail
          rw [outFold]
          have s1 : St (fun j => j = t ∨ j = w.heap.size + 1) w6 (fun j => j = t ∨ j = w.heap.size + 1) (w6.setCell ⟨t, 1, none⟩ (.slice (some ⟨w6.heap.size, 0, none⟩) 1 1)) := St.setCell _ _ _ (.inl rfl)
          have sA : St (fun j => j = t ∨ j = w.heap.size + 1) w6 (fun j => j = t ∨ j = w.heap.size + 1) ((((w6.setCell ⟨t, 1, none⟩ (.slice (some ⟨w6.heap.size, 0, none⟩) 1 1)).setCell ⟨w.heap.size + 1, 0, none⟩ (.slice ua us.length uc)).setCell ⟨w.heap.size + 1, 1, none⟩ (.slice (some ⟨w6.heap.size, 0, none⟩) 1 1)).setCell ⟨w.heap.size + 1, 2, none⟩ (.bool true)) := ((s1.trans (St.setCell _ _ _ (.inr rfl))).trans (St.setCell _ _ _ (.inr rfl))).trans (St.setCell _ _ _ (.inr rfl))
          have hTR := taken_row (HRT.out.move ((St.setCell (F := fpB0 t) w6 ⟨t, 1, none⟩ (.slice (some ⟨w6.heap.size, 0, none⟩) 1 1) rfl).block _ HRT.out.lt (fun e => n5 e))) (.slice ua us.length uc) (.slice (some ⟨w6.heap.size, 0, none⟩) 1 1) (.bool true)
          have hsA : ((((w6.setCell ⟨t, 1, none⟩ (.slice (some ⟨w6.heap.size, 0, none⟩) 1 1)).setCell ⟨w.heap.size + 1, 0, none⟩ (.slice ua us.length uc)).setCell ⟨w.heap.size + 1, 1, none⟩ (.slice (some ⟨w6.heap.size, 0, none⟩) 1 1)).setCell ⟨w.heap.size + 1, 2, none⟩ (.bool true)).heap.size = w6.heap.size := by simp
          generalize (((w6.setCell ⟨t, 1, none⟩ (.slice (some ⟨w6.heap.size, 0, none⟩) 1 1)).setCell ⟨w.heap.size + 1, 0, none⟩ (.slice ua us.length uc)).setCell ⟨w.heap.size + 1, 1, none⟩ (.slice (some ⟨w6.heap.size, 0, none⟩) 1 1)).setCell ⟨w.heap.size + 1, 2, none⟩ (.bool true) = w7 at *
          have hob := Ob.alloc w7 (outC c.adr 11 dl mk (.slice none 0 0)) 62
          have s9 : St No w7 No (w7.alloc (.cells (outC c.adr 11 dl mk (.slice none 0 0)) 62)) := St.alloc' No _ _
          refine bodyPost_ret (results_cell_row_tmp2 rfl _ _ (w.heap.size + 1) _ _ _ _ rfl (hTR.move (s9.block _ hTR.lt (fun e => e))) Try.underlying77 rfl tkInfo) rfl ?_
          rw [hsA, HMK.out] at hob
          rw [HMK.out] at s9 ⊢
          exact HLQ.out.taken HSTOP.out HE.out HOB.out HHQ.out HM.out.in HWC.out HRC.out.lt HS6B.out sA (Nat.le_of_eq hsA) hob s9

end Go.Proofs.Ytjepmckofocdnaa
