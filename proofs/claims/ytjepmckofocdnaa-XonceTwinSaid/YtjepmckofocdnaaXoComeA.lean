
/-
  come: the four arms in one; an end's Take of a Data; an end's Take of either.
-/
import Derived.Test.YtjepmckofocdnaaXoCome2
import Derived.Test.YtjepmckofocdnaaXoCome4
namespace Go.Proofs.Ytjepmckofocdnaa
open Go.RowKit
set_option linter.unusedVariables false
set_option linter.unusedSimpArgs false

theorem come_calls (w : World) (F : Nat → Prop) (p : Nat) (c : PC) (x : XP) (h : Pr w F p c x) (hok : x.Ok c) (m : MV) (bs : List B8) (hpn : m.pn = bs.length) (hms : m.seq ≤ 18446744073709551615) (hb : Bs w m.pa bs) (hn : m.pa = none → m.pc = 0) :
    Calls Try.prog 66 #[.pointer (some ⟨p, 7, none⟩), .agg m.cells] w (TakenJ w F p c (comeX c x m.seq bs) (comeT c x m.seq bs) (comeE c x m.seq bs)) := by
  cases hz : sizedB bs.length with
  | false => exact come_long w F p c x h m bs hpn hz
  | true =>
    by_cases hf : x.delivered < m.seq ∧ c.win < m.seq - x.delivered
    · exact come_far w F p c x h m bs hpn hms hz hf.1 hf.2
    · cases ho : oldB x m.seq with
      | true => exact come_old w F p c x h hok m bs hpn hms hz hf ho
      | false =>
        unfold oldB at ho
        rw [Bool.or_eq_false_iff] at ho
        have h1 : x.delivered < m.seq := by have := of_decide_eq_false ho.1; omega
        exact come_new w F p c x h hok m bs hpn hms hz h1 (by omega) ho.2 hb hn
def takeDE (k : EC) (X : Nat → XP) (a : Nat) (m : MV) (bs : List B8) : Int := if isP k a then (if plainB m then comeE (k.pc a) (X a) m.seq bs else 86) else 80
def takeDX (k : EC) (X : Nat → XP) (a : Nat) (m : MV) (bs : List B8) : Nat → XP := if takeB k a m then upd X a (comeX (k.pc a) (X a) m.seq bs) else X
def takeDT (k : EC) (X : Nat → XP) (a : Nat) (m : MV) (bs : List B8) : XT := if takeB k a m then comeT (k.pc a) (X a) m.seq bs else XT.none
set_option maxRecDepth 100000 in
set_option maxHeartbeats 2000000 in
theorem takeD_calls (w : World) (F : Nat → Prop) (e : Nat) (k : EC) (X : Nat → XP) (h : En w F e k X) (hk : k.hosts ≤ 16) (hx : EX k X) (a : Nat) (ha : a ≤ 255) (m : MV) (hm : m.Wf) (hkd : m.kind ≠ 11) (bs : List B8) (hpn : m.pn = bs.length) (hb : Bs w m.pa bs) (hn : m.pa = none → m.pc = 0) :
    Calls Try.prog 33 #[.pointer (some ⟨e, 0, none⟩), .int .u8 a, .agg m.cells] w (TakeJ w F e k (takeDX k X a m bs) (takeDT k X a m bs) (takeDE k X a m bs)) := by
  have hsz : m.cells.size = 17 := rfl
  have hkdi : (m.kind == 11) = false := by rw [beq_eq_false_iff_ne]; exact hkd
  have HBS := Lib.hid hb
  have HPN := Lib.hid hpn
  have HNN := Lib.hid hn
  clear hb hpn hn
  clear hkd
  have HEN := Lib.hid h
  obtain ⟨g, P, R, hE, rfl⟩ := h
  have HST := Lib.hid (Start.of w m)
  have HIN := Lib.hid hE.in
  have HEA := Lib.hid (hE.st HST.out.st (Dj.no _))
  have hpc := peer_calls _ e g k P R X HEA.out hk a ha
  have hl1 : w.heap.size + 1 < ((w.alloc (.cells m.cells 60)).alloc (.cells #[.slice none 0 0, .slice none 0 0, .bool false] 77)).heap.size := HST.out.res.lt
  have HE0 := Lib.hid hE
  clear hE
  cases hp : isP k a with
  | false =>
    rw [ptrV_no hp] at hpc
    have HPC := Lib.hid hpc
    have HJ : Hid (∀ w', St No w No w' → TakeJ w (fpE e g k k.hosts R) e k (takeDX k X a m bs) (takeDT k X a m bs) (takeDE k X a m bs) (.returned (.tuple #[.agg #[.slice none 0 0, .slice none 0 0, .bool false], .int .i64 80])) w') := Lib.hid (fun w' s => by
      have e0 : takeB k a m = false := by unfold takeB; rw [hp]; rfl
      have e1 : takeDX k X a m bs = X := by unfold takeDX; rw [e0]; rfl
      have e2 : takeDT k X a m bs = XT.none := by unfold takeDT; rw [e0]; rfl
      have e3 : takeDE k X a m bs = 80 := by unfold takeDE; rw [hp]; rfl
      rw [e1, e2, e3]
      exact TakeJ.none HEN.out s)
    clear hpc hp
    go_enter Try.func33, Try.ntmps33
    go_wp2_with fail
    refine HPC.out.mono ?_
    rintro r w1 ⟨rfl, rfl⟩
    generalize (w.alloc (.cells m.cells 60)).alloc (.cells #[.slice none 0 0, .slice none 0 0, .bool false] 77) = wA at *
    have HRS := Lib.hid HST.out.res
    obtain ⟨r0, r1, r2, rf0, rf1, rf2⟩ := HRS.out.n3
    go_wp2_with fail
    refine bodyPost_ret (results_cell_row_tmp2 rfl _ _ (w.heap.size + 1) _ _ _ _ rfl (taken_row HRS.out _ _ _) Try.underlying77 rfl tkInfo) rfl ?_
    exact HJ.out _ (HST.out.st.own (St.xsets (F := fpB0 (w.heap.size + 1)) (w.heap.size + 1) rfl [_, _, _] 0 _) (by omega))
  | true =>
    have hpi := isP_iff.1 hp
    rw [ptrV_yes hp] at hpc
    have HPC := Lib.hid hpc
    have HPL := Lib.hid (plain_calls ((w.alloc (.cells m.cells 60)).alloc (.cells #[.slice none 0 0, .slice none 0 0, .bool false] 77)) m hm)
    clear hpc
    cases hpb : plainB m with
    | false =>
      have HJ : Hid (∀ w', St No w No w' → TakeJ w (fpE e g k k.hosts R) e k (takeDX k X a m bs) (takeDT k X a m bs) (takeDE k X a m bs) (.returned (.tuple #[.agg #[.slice none 0 0, .slice none 0 0, .bool false], .int .i64 86])) w') := Lib.hid (fun w' s => by
        have e0 : takeB k a m = false := by unfold takeB; rw [hp, hpb]; rfl
        have e1 : takeDX k X a m bs = X := by unfold takeDX; rw [e0]; rfl
        have e2 : takeDT k X a m bs = XT.none := by unfold takeDT; rw [e0]; rfl
        have e3 : takeDE k X a m bs = 86 := by unfold takeDE; rw [hp, hpb]; rfl
        rw [e1, e2, e3]
        exact TakeJ.none HEN.out s)
      rw [hpb] at HPL
      clear hp hpb
      go_enter Try.func33, Try.ntmps33
      go_wp2_with fail
      refine HPC.out.mono ?_
      rintro r w1 ⟨rfl, rfl⟩
      generalize (w.alloc (.cells m.cells 60)).alloc (.cells #[.slice none 0 0, .slice none 0 0, .bool false] 77) = wA at *
      obtain ⟨m0, m2, m3, m4, m5, m6, m7, m8, m9, m10, m11, m12, m13, m14, m15, m16⟩ := MV.n17 HST.out.box
      have m1 := HST.out.cells.2.1
      go_wp2_with fail
      refine HPL.out.mono ?_
      rintro r w2 ⟨rfl, hs2⟩
      have HS2 := Lib.hid (HST.out.st.trans hs2)
      have HRS := Lib.hid (HST.out.res.move (hs2.block _ HST.out.res.lt (fun e => e)))
      clear hs2
      obtain ⟨r0, r1, r2, rf0, rf1, rf2⟩ := HRS.out.n3
      go_wp2_with fail
      refine bodyPost_ret (results_cell_row_tmp2 rfl _ _ (w.heap.size + 1) _ _ _ _ rfl (taken_row HRS.out _ _ _) Try.underlying77 rfl tkInfo) rfl ?_
      exact HJ.out _ (HS2.out.own (St.xsets (F := fpB0 (w.heap.size + 1)) (w.heap.size + 1) rfl [_, _, _] 0 _) (by omega))
    | true =>
      have HJ : Hid (∀ wX wB w' r, St No w No wX → w.heap.size + 1 < wX.heap.size → TakenJ wX (R a) (P a) (k.pc a) (comeX (k.pc a) (X a) m.seq bs) (comeT (k.pc a) (X a) m.seq bs) (comeE (k.pc a) (X a) m.seq bs) r wB → St (fpB0 (w.heap.size + 1)) wB (fpB0 (w.heap.size + 1)) w' → TakeJ w (fpE e g k k.hosts R) e k (takeDX k X a m bs) (takeDT k X a m bs) (takeDE k X a m bs) r w') := Lib.hid (fun wX wB w' r s hl hj s2 => by
        have e0 : takeB k a m = true := by unfold takeB; rw [hp, hpb]; rfl
        have e1 : takeDX k X a m bs = upd X a (comeX (k.pc a) (X a) m.seq bs) := by unfold takeDX; rw [e0]; rfl
        have e2 : takeDT k X a m bs = comeT (k.pc a) (X a) m.seq bs := by unfold takeDT; rw [e0]; rfl
        have e3 : takeDE k X a m bs = comeE (k.pc a) (X a) m.seq bs := by unfold takeDE; rw [hp, hpb]; rfl
        rw [e1, e2, e3]
        exact (hj.take ((HE0.out.st s (Dj.no _))) hpi.1 hpi.2).wrap HIN.out s s2 (by omega) hl)
      rw [hpb] at HPL
      clear hp hpb
      go_enter Try.func33, Try.ntmps33
      go_wp2_with fail
      refine HPC.out.mono ?_
      rintro r w1 ⟨rfl, rfl⟩
      generalize (w.alloc (.cells m.cells 60)).alloc (.cells #[.slice none 0 0, .slice none 0 0, .bool false] 77) = wA at *
      obtain ⟨m0, m2, m3, m4, m5, m6, m7, m8, m9, m10, m11, m12, m13, m14, m15, m16⟩ := MV.n17 HST.out.box
      have m1 := HST.out.cells.2.1
      go_wp2_with fail
      refine HPL.out.mono ?_
      rintro r w2 ⟨rfl, hs2⟩
      have HS2 := Lib.hid (HST.out.st.trans hs2)
      have HRS := Lib.hid (HST.out.res.move (hs2.block _ HST.out.res.lt (fun e => e)))
      have HBX := Lib.hid (HST.out.box.move (hs2.block _ HST.out.box.lt (fun e => e)))
      have HPR := Lib.hid ((HEA.out.st hs2 (Dj.no _)).pr a hpi.1 hpi.2)
      clear hs2 m0 m2 m3 m4 m5 m6 m7 m8 m9 m10 m11 m12 m13 m14 m15 m16 m1
      obtain ⟨m0, m2, m3, m4, m5, m6, m7, m8, m9, m10, m11, m12, m13, m14, m15, m16⟩ := MV.n17 HBX.out
      have m1 : w2.cell? ⟨w.heap.size, 1, none⟩ = some (.int .u64 m.seq) := by rw [HBX.out.cell 1]; rfl
      go_wp2_with fail
      refine (come_calls w2 (R a) (P a) (k.pc a) (X a) HPR.out (hx a hpi.1 hpi.2) m bs HPN.out hm.seq (HBS.out.st HS2.out (Dj.no _)) HNN.out).mono ?_
      rintro r w3 hj
      have HT := Lib.hid hj
      have hs3 : St (R a) w2 No w3 := by
        obtain ⟨Vu, us, Vm, os, F', _, _, _, _, _, _, h7, _⟩ := hj
        exact h7.drop (fun _ e => e.elim)
      obtain ⟨Vu, us, Vm, os, F', rfl, hu, _, ho, _, _, _⟩ := hj
      obtain ⟨ua, uc, rfl, _, _, _, _⟩ := hu.own.form
      obtain ⟨oa, oc, rfl, _, _, _, _⟩ := ho.own.form
      clear hu ho
      have HRS3 := Lib.hid (HRS.out.move (hs3.block _ HRS.out.lt (fun e => by have := HIN.out _ (.inr (.inr ⟨a, hpi.1, hpi.2, e⟩)); omega)))
      clear hs3
      clear m0 m2 m3 m4 m5 m6 m7 m8 m9 m10 m11 m12 m13 m14 m15 m16 m1
      obtain ⟨r0, r1, r2, rf0, rf1, rf2⟩ := HRS3.out.n3
      go_wp2_with fail
      refine bodyPost_ret (results_cell_row_tmp2 rfl _ _ (w.heap.size + 1) _ _ _ _ rfl (taken_row HRS3.out _ _ _) Try.underlying77 rfl tkInfo) rfl ?_
      exact HJ.out _ _ _ _ HS2.out HRS.out.lt HT.out (St.xsets (F := fpB0 (w.heap.size + 1)) (w.heap.size + 1) rfl [_, _, _] 0 _)
/-- a Take of either kind -/
def tkE (k : EC) (X : Nat → XP) (a : Nat) (m : MV) (bs : List B8) : Int := if m.kind = 11 then takeE k X a m else takeDE k X a m bs
def tkX (k : EC) (X : Nat → XP) (a : Nat) (m : MV) (bs : List B8) : Nat → XP := if m.kind = 11 then takeX k X a m else takeDX k X a m bs
def tkT (k : EC) (X : Nat → XP) (a : Nat) (m : MV) (bs : List B8) : XT := if m.kind = 11 then takeT k X a m else takeDT k X a m bs
theorem take_calls (w : World) (F : Nat → Prop) (e : Nat) (k : EC) (X : Nat → XP) (h : En w F e k X) (hk : k.hosts ≤ 16) (hx : EX k X) (a : Nat) (ha : a ≤ 255) (m : MV) (hm : m.Wf) (bs : List B8) (hpn : m.pn = bs.length) (hb : Bs w m.pa bs) (hn : m.pa = none → m.pc = 0) :
    Calls Try.prog 33 #[.pointer (some ⟨e, 0, none⟩), .int .u8 a, .agg m.cells] w (TakeJ w F e k (tkX k X a m bs) (tkT k X a m bs) (tkE k X a m bs)) := by
  unfold tkX tkT tkE
  by_cases hkd : m.kind = 11
  · rw [if_pos hkd, if_pos hkd, if_pos hkd]
    exact takeA_calls w F e k X h hk hx a ha m hm hkd
  · rw [if_neg hkd, if_neg hkd, if_neg hkd]
    exact takeD_calls w F e k X h hk hx a ha m hm hkd bs hpn hb hn
theorem takeDX_ex {k : EC} {X : Nat → XP} {a : Nat} {m : MV} {bs : List B8} (h : EX k X) (hs : m.seq ≤ 18446744073709551615) : EX k (takeDX k X a m bs) := by
  unfold takeDX
  cases hb : takeB k a m with
  | false => exact h
  | true =>
    unfold takeB at hb
    rw [Bool.and_eq_true] at hb
    have hp := isP_iff.1 hb.1
    exact h.turn (comeX_ok (h a hp.1 hp.2) hs)
end Go.Proofs.Ytjepmckofocdnaa
