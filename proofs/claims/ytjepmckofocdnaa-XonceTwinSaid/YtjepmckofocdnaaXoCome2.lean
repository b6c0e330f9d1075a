
/-
  come: what is there already is answered by the Ack alone.
-/
import Derived.Test.YtjepmckofocdnaaXoCome1
namespace Go.Proofs.Ytjepmckofocdnaa
open Go.RowKit
set_option linter.unusedVariables false
set_option linter.unusedSimpArgs false

def ackO (c : PC) (dl : Nat) (mk : BitVec 64) : OB := ⟨c.adr, 11, dl, mk, .slice none 0 0, []⟩
theorem OwB.nil' (w : World) : OwB w (.slice none 0 0) [] := OwB.nil w
theorem ackO_ls {w : World} {c : PC} {dl g : Nat} {mk : BitVec 64} (h : Ob w g 62 (outC c.adr 11 dl mk (.slice none 0 0))) : LsO w (.slice (some ⟨g, 0, none⟩) 1 1) [ackO c dl mk] :=
  LsG.one (x := ackO c dl mk) h rfl (OwB.nil _) (by simp [ackO, fpV, Value.ownBlock])
theorem ackO_fp {c : PC} {dl g j : Nat} {mk : BitVec 64} (h : fpL OB.v (.slice (some ⟨g, 0, none⟩) 1 1) [ackO c dl mk] j) : j = g := by
  rcases fpL_iff.1 h with h | ⟨o, ho, h⟩
  · exact fpV_at.1 h
  · rw [List.mem_singleton.1 ho] at h
    simp [ackO, fpV, Value.ownBlock] at h
set_option maxRecDepth 100000 in
set_option maxHeartbeats 2000000 in
theorem come_old (w : World) (F : Nat → Prop) (p : Nat) (c : PC) (x : XP) (h : Pr w F p c x) (hok : x.Ok c) (m : MV) (bs : List B8) (hpn : m.pn = bs.length) (hms : m.seq ≤ 18446744073709551615) (hz : sizedB bs.length = true) (hf : ¬ (x.delivered < m.seq ∧ c.win < m.seq - x.delivered)) (ho : oldB x m.seq = true) :
    Calls Try.prog 66 #[.pointer (some ⟨p, 7, none⟩), .agg m.cells] w (TakenJ w F p c (comeX c x m.seq bs) (comeT c x m.seq bs) (comeE c x m.seq bs)) := by
  have HP := Lib.hid h
  obtain ⟨Vq, Ve, qs, es, hm, hq, he, rfl⟩ := h
  have HM := Lib.hid hm
  have hpl := hm.ob.lt
  have hsz : m.cells.size = 17 := rfl
  have HSt := Lib.hid (Start.of w m)
  obtain ⟨b0, b1, b12, b16⟩ := HSt.out.cells
  rw [hpn] at b16
  have hE : comeE c x m.seq bs = 0 := by unfold comeE; rw [if_pos hz, if_neg hf]
  have hwn := hok.wn
  have hrm := hok.rm
  have hdl := hok.dl
  have hfr : ∀ f ∈ es, x.delivered + 2 ≤ f.seq ∧ f.seq ≤ x.delivered + 64 ∧ f.seq ≤ 18446744073709551615 := fun f hf => by
    have := hok.er (f.seq, f.b) (by rw [he]; exact List.mem_map.2 ⟨f, hf, rfl⟩)
    omega
  have hfb : ∀ f ∈ es, f.b.length ≤ 140737488351232 := fun f hf => by
    have : 1 ≤ f.b.length ∧ f.b.length ≤ 3072 := of_decide_eq_true (show decide _ = true from (hok.er (f.seq, f.b) (by rw [he]; exact List.mem_map.2 ⟨f, hf, rfl⟩)).2.2.2)
    omega
  have hel : es.length = x.early.length := by rw [he, List.length_map]
  have hel2 : x.early.length ≤ 16 := by have := hok.early_len; omega
  obtain ⟨ea, ec, rfl, _, _, _, _⟩ := hm.lf.own.form
  have HFS : Hid (Frs w ea x.early) := Lib.hid (by rw [he]; exact hm.lf.frs hfb)
  have HSC := Lib.hid (fun W => sized_calls m.pa bs.length m.pc W)
  rw [hz] at HSC
  have HRS := Lib.hid HSt.out.res
  have HR : Hid (∀ (wB : World) (g : Nat) (w' : World), St No w No wB → wB.heap.size ≤ g → Ob w' g 62 (outC c.adr 11 x.delivered (ackM x.delivered (es.map fun f => (f.seq, f.b))) (.slice none 0 0)) → St No wB No w' → TakenJ w (fpP p Vq (.slice ea es.length ec) qs es) p c (comeX c x m.seq bs) (comeT c x m.seq bs) (comeE c x m.seq bs) (.returned (.tuple #[.agg #[.slice none 0 0, .slice (some ⟨g, 0, none⟩) 1 1, .bool false], .int .i64 0])) w') := Lib.hid (fun wB g w' s hg hob s2 => by
    have e1 : comeX c x m.seq bs = x := by unfold comeX; rw [if_pos hE, ho]; rfl
    have e2 : comeT c x m.seq bs = ⟨[], [ackX c x], false⟩ := by unfold comeT; rw [if_pos hE, ho]; rfl
    rw [e1, e2, hE]
    have hin := HM.out.in
    have hgw : w.heap.size ≤ g := Nat.le_trans s.size hg
    have sT := s.trans s2
    refine ⟨_, [], _, [ackO c x.delivered (ackM x.delivered (es.map fun f => (f.seq, f.b)))], fpP p Vq (.slice ea es.length ec) qs es, rfl, LsG.nil _, rfl, ackO_ls hob, ?_, HP.out.st sT (Dj.no _), ?_, fun k _ b => fpL_nil b, ?_, fun k a _ => fpL_nil a⟩
    · show [_] = [ackX c x]
      unfold ackX OB.pl ackO
      rw [he]
    · refine ⟨sT.os, sT.tape, sT.output, sT.size, fun k hk _ => sT.block k hk (fun e => e), ?_⟩
      rintro k (hk | hk | hk)
      · exact .inl hk
      · exact (fpL_nil hk).elim
      · exact .inr (by rw [ackO_fp hk]; exact hgw)
    · exact fun k a b => by rw [ackO_fp b] at a; have := hin _ a; omega)
  have HSH : Hid (∀ W, St No w No W → Calls Try.prog 89 #[.slice ea x.early.length ec, .int .u64 m.seq, .func (.func 90) #[] #[]] W fun r w' => (∃ i : Nat, r = .returned (.tuple #[.int .i64 i, .bool (hasB x.early m.seq)])) ∧ St No W No w') := Lib.hid (fun W s => (search_calls W ea ec x.early m.seq (HFS.out.st s) hok.eo (by omega)).mono (fun r w' h => by
    obtain ⟨i, hi, hr, h1, h2, h3⟩ := h
    exact ⟨⟨i, by rw [hr, hasB_at hok.eo h1 h2]⟩, h3⟩))
  have HAC : Hid (∀ W, St No w No W → Calls Try.prog 91 #[.pointer (some ⟨p, 7, none⟩)] W fun e w' => e = .returned (.agg (outC c.adr 11 x.delivered (ackM x.delivered (es.map fun f => (f.seq, f.b))) (.slice none 0 0))) ∧ St No W No w') := Lib.hid (fun W s => ack_calls W p c x.sent x.acked x.mask x.delivered Vq _ qs es (HM.out.st s (Dj.no _)) hdl hfr (by omega) hfb)
  have wd : x.delivered < m.seq → IntKind.u64.wrap ((m.seq : Int) - (x.delivered : Int)) = ((m.seq - x.delivered : Nat) : Int) := fun h => by rw [wrap_u64]; omega
  have HOL := Lib.hid ho
  have HEL := Lib.hid hel
  clear hz hm hq he hpn hE hok ho hfr hfb
  go_enter Try.func66, Try.ntmps66
  go_wp2_with fail
  refine (HSC.out _).mono ?_
  rintro r w2 ⟨rfl, rfl⟩
  generalize (w.alloc (.cells m.cells 60)).alloc (.cells #[.slice none 0 0, .slice none 0 0, .bool false] 77) = wA at *
  obtain ⟨d0, d1, d2, d3, d4, d5, d6, d7, d8, d9, d10, f0, f1, f2, f3, f4, f5, f6, f7, f8, f9, f10⟩ := (HM.out.st HSt.out.st (Dj.no _)).ob.n11
  rw [hel] at d10
  clear d0 d1 d2 d3 d4 d5 d6 d7 f0 f1 f2 f3 f4 f5 f6 f7 f8 f9 f10 hel
  by_cases q : x.delivered < m.seq
  · have i1 : (x.delivered : Int) < (m.seq : Int) := by omega
    have wd1 := wd q
    have i2 : decide ((c.win : Int) < ((m.seq - x.delivered : Nat) : Int)) = false := decide_eq_false (by omega)
    have i3 : decide (c.win < m.seq - x.delivered) = false := decide_eq_false (by omega)
    have HHB : Hid (hasB x.early m.seq = true) := Lib.hid (by
      have h := HOL.out
      unfold oldB at h
      rw [decide_eq_false (by omega), Bool.false_or] at h
      exact h)
    have i4 : decide ((m.seq : Int) ≤ (x.delivered : Int)) = false := decide_eq_false (by omega)
    have i5 : decide (m.seq ≤ x.delivered) = false := decide_eq_false (by omega)
    clear wd q hf
    go_wp2_with fail
    go_quiet (fail)
    go_wp2_with fail
    have s3 : St No wA No (wA.drewN nq) := St.drewN No wA nq
    have e10 := s3.cellN d10
    have e1 := s3.cellN b1
    have e9 := s3.cellN d9
    have HS3 := Lib.hid s3
    generalize wA.drewN nq = wB at *
    clear s3
    go_region_held3 (fun w' => w'.cell? ⟨p, 10, none⟩ = some (.slice ea x.early.length ec) ∧ w'.cell? ⟨w.heap.size, 1, none⟩ = some (.int .u64 m.seq)) (go_keep)
      (first
        | (go_at_call 89
           refine (HSH.out _ ?_).mono ?_
           · (refine St.trans (St.trans HSt.out.st HS3.out) ?_; (repeat (first | exact St.refl No _ | refine St.trans ?_ (St.drew No _) | refine St.trans ?_ (St.drewN No _ _))))
           rintro r w5 ⟨⟨i, rfl⟩, hs5⟩
           have hs5' : St No wB No w5 := by (refine St.trans ?_ hs5; (repeat (first | exact St.refl No _ | refine St.trans ?_ (St.drew No _) | refine St.trans ?_ (St.drewN No _ _))))
           have y10 := hs5'.cellN e10
           have y1 := hs5'.cellN e1
           have y9 := hs5'.cellN e9
           have HS5 := Lib.hid (HS3.out.trans hs5')
           clear hs5 hs5'))
    rw [HHB.out]
    go_wp2_with fail
    go_quiet (fail)
    go_wp2_with fail
    refine (HAC.out _ (St.trans (St.trans HSt.out.st HS5.out) (St.drewN No w5 nq))).mono ?_
    rintro r w6 ⟨rfl, hs6⟩
    have HS6 := Lib.hid (HS5.out.trans ((St.drewN No w5 nq).trans hs6))
    have HRS6 := Lib.hid (HRS.out.move (HS6.out.block _ HRS.out.lt (fun e => e)))
    clear hs6 y10 y1 y9 e10 e1 e9 d10 d9 d8 b1
    try clear b0 b12 b16
    obtain ⟨r0, r1, r2, rf0, rf1, rf2⟩ := HRS6.out.n3
    have hrl := HRS6.out.lt
    have hn1 : w.heap.size + 1 ≠ w6.heap.size := by omega
    have hn2 : w6.heap.size ≠ w.heap.size + 1 := by omega
    obtain ⟨mk, hmk⟩ : ∃ mk, mk = ackM x.delivered (es.map fun f => (f.seq, f.b)) := ⟨_, rfl⟩
    rw [← hmk] at HR ⊢
    clear hmk
    have hsz1 : (outC c.adr 11 x.delivered mk (.slice none 0 0)).size = 18 := rfl
    go_wp2_with fail
    rw [outFold]
    have sA : St (fpB0 (w.heap.size + 1)) w6 (fpB0 (w.heap.size + 1)) (((w6.setCell ⟨w.heap.size + 1, 0, none⟩ (.slice none 0 0)).setCell ⟨w.heap.size + 1, 1, none⟩ (.slice (some ⟨w6.heap.size, 0, none⟩) 1 1)).setCell ⟨w.heap.size + 1, 2, none⟩ (.bool false)) := St.xsets (F := fpB0 (w.heap.size + 1)) (w.heap.size + 1) rfl [_, _, _] 0 w6
    have hTR := taken_row HRS6.out (.slice none 0 0) (.slice (some ⟨w6.heap.size, 0, none⟩) 1 1) (.bool false)
    have hsA : (((w6.setCell ⟨w.heap.size + 1, 0, none⟩ (.slice none 0 0)).setCell ⟨w.heap.size + 1, 1, none⟩ (.slice (some ⟨w6.heap.size, 0, none⟩) 1 1)).setCell ⟨w.heap.size + 1, 2, none⟩ (.bool false)).heap.size = w6.heap.size := by simp
    have hs1 := (HSt.out.st.trans HS6.out).own sA (by omega)
    generalize ((w6.setCell ⟨w.heap.size + 1, 0, none⟩ (.slice none 0 0)).setCell ⟨w.heap.size + 1, 1, none⟩ (.slice (some ⟨w6.heap.size, 0, none⟩) 1 1)).setCell ⟨w.heap.size + 1, 2, none⟩ (.bool false) = w7 at *
    have hob := Ob.alloc w7 (outC c.adr 11 x.delivered mk (.slice none 0 0)) 62
    have s8 : St No w7 No (w7.alloc (.cells (outC c.adr 11 x.delivered mk (.slice none 0 0)) 62)) := St.alloc' No _ _
    refine bodyPost_ret (results_cell_row_tmp2 rfl _ _ (w.heap.size + 1) _ _ _ _ rfl (hTR.move (s8.block _ hTR.lt (fun e => e))) Try.underlying77 rfl tkInfo) rfl ?_
    rw [hsA] at hob
    exact HR.out w7 w6.heap.size _ hs1 (Nat.le_of_eq hsA) hob s8
  · have i1 : decide ((x.delivered : Int) < (m.seq : Int)) = false := decide_eq_false (by omega)
    have i1n : decide (x.delivered < m.seq) = false := decide_eq_false q
    have i4 : (m.seq : Int) ≤ (x.delivered : Int) := by omega
    clear wd q hf
    go_wp2_with fail
    go_quiet (fail)
    go_wp2_with fail
    have s3 : St No wA No (wA.drewN nq) := St.drewN No wA nq
    have e10 := s3.cellN d10
    have e1 := s3.cellN b1
    have e9 := s3.cellN d9
    have HS3 := Lib.hid s3
    generalize wA.drewN nq = wB at *
    clear s3
    go_region_held3 (fun w' => w'.cell? ⟨p, 10, none⟩ = some (.slice ea x.early.length ec) ∧ w'.cell? ⟨w.heap.size, 1, none⟩ = some (.int .u64 m.seq)) (go_keep)
      (first
        | (go_at_call 89
           refine (HSH.out _ ?_).mono ?_
           · (refine St.trans (St.trans HSt.out.st HS3.out) ?_; (repeat (first | exact St.refl No _ | refine St.trans ?_ (St.drew No _) | refine St.trans ?_ (St.drewN No _ _))))
           rintro r w5 ⟨⟨i, rfl⟩, hs5⟩
           have hs5' : St No wB No w5 := by (refine St.trans ?_ hs5; (repeat (first | exact St.refl No _ | refine St.trans ?_ (St.drew No _) | refine St.trans ?_ (St.drewN No _ _))))
           have y10 := hs5'.cellN e10
           have y1 := hs5'.cellN e1
           have y9 := hs5'.cellN e9
           have HS5 := Lib.hid (HS3.out.trans hs5')
           clear hs5 hs5'))
    go_wp2_with fail
    go_quiet (fail)
    go_wp2_with fail
    refine (HAC.out _ (St.trans (St.trans HSt.out.st HS5.out) (St.drewN No w5 nq))).mono ?_
    rintro r w6 ⟨rfl, hs6⟩
    have HS6 := Lib.hid (HS5.out.trans ((St.drewN No w5 nq).trans hs6))
    have HRS6 := Lib.hid (HRS.out.move (HS6.out.block _ HRS.out.lt (fun e => e)))
    clear hs6 y10 y1 y9 e10 e1 e9 d10 d9 d8 b1
    try clear b0 b12 b16
    obtain ⟨r0, r1, r2, rf0, rf1, rf2⟩ := HRS6.out.n3
    have hrl := HRS6.out.lt
    have hn1 : w.heap.size + 1 ≠ w6.heap.size := by omega
    have hn2 : w6.heap.size ≠ w.heap.size + 1 := by omega
    obtain ⟨mk, hmk⟩ : ∃ mk, mk = ackM x.delivered (es.map fun f => (f.seq, f.b)) := ⟨_, rfl⟩
    rw [← hmk] at HR ⊢
    clear hmk
    have hsz1 : (outC c.adr 11 x.delivered mk (.slice none 0 0)).size = 18 := rfl
    go_wp2_with fail
    rw [outFold]
    have sA : St (fpB0 (w.heap.size + 1)) w6 (fpB0 (w.heap.size + 1)) (((w6.setCell ⟨w.heap.size + 1, 0, none⟩ (.slice none 0 0)).setCell ⟨w.heap.size + 1, 1, none⟩ (.slice (some ⟨w6.heap.size, 0, none⟩) 1 1)).setCell ⟨w.heap.size + 1, 2, none⟩ (.bool false)) := St.xsets (F := fpB0 (w.heap.size + 1)) (w.heap.size + 1) rfl [_, _, _] 0 w6
    have hTR := taken_row HRS6.out (.slice none 0 0) (.slice (some ⟨w6.heap.size, 0, none⟩) 1 1) (.bool false)
    have hsA : (((w6.setCell ⟨w.heap.size + 1, 0, none⟩ (.slice none 0 0)).setCell ⟨w.heap.size + 1, 1, none⟩ (.slice (some ⟨w6.heap.size, 0, none⟩) 1 1)).setCell ⟨w.heap.size + 1, 2, none⟩ (.bool false)).heap.size = w6.heap.size := by simp
    have hs1 := (HSt.out.st.trans HS6.out).own sA (by omega)
    generalize ((w6.setCell ⟨w.heap.size + 1, 0, none⟩ (.slice none 0 0)).setCell ⟨w.heap.size + 1, 1, none⟩ (.slice (some ⟨w6.heap.size, 0, none⟩) 1 1)).setCell ⟨w.heap.size + 1, 2, none⟩ (.bool false) = w7 at *
    have hob := Ob.alloc w7 (outC c.adr 11 x.delivered mk (.slice none 0 0)) 62
    have s8 : St No w7 No (w7.alloc (.cells (outC c.adr 11 x.delivered mk (.slice none 0 0)) 62)) := St.alloc' No _ _
    refine bodyPost_ret (results_cell_row_tmp2 rfl _ _ (w.heap.size + 1) _ _ _ _ rfl (hTR.move (s8.block _ hTR.lt (fun e => e))) Try.underlying77 rfl tkInfo) rfl ?_
    rw [hsA] at hob
    exact HR.out w7 w6.heap.size _ hs1 (Nat.le_of_eq hsA) hob s8
end Go.Proofs.Ytjepmckofocdnaa
