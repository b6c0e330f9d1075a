
/-
  An end's Take of an acknowledgement.
-/
import Derived.Test.YtjepmckofocdnaaXoCalls
namespace Go.Proofs.Ytjepmckofocdnaa
open Go.RowKit
set_option linter.unusedVariables false
set_option linter.unusedSimpArgs false

/-- what a Take answers; the end behind it -/
def TakeJ (w : World) (F : Nat → Prop) (e : Nat) (k : EC) (X' : Nat → XP) (t : XT) (er : Int) (r : Ending) (w' : World) : Prop :=
  ∃ Vu us Vm os F', r = .returned (.tuple #[.agg #[Vu, Vm, .bool t.ch], .int .i64 er]) ∧ LsU w' Vu us ∧ us.map UB.pl = t.ups ∧ LsO w' Vm os ∧ os.map OB.pl = t.mails ∧ En w' F' e k X' ∧ St F w (fun j => F' j ∨ fpL UB.v Vu us j ∨ fpL OB.v Vm os j) w' ∧ Dj F' (fpL UB.v Vu us) ∧ Dj F' (fpL OB.v Vm os) ∧ Dj (fpL UB.v Vu us) (fpL OB.v Vm os)
theorem TakeJ.none {w w' : World} {F : Nat → Prop} {e : Nat} {k : EC} {X : Nat → XP} {er : Int} (h : En w F e k X) (s : St No w No w') : TakeJ w F e k X XT.none er (.returned (.tuple #[.agg #[.slice none 0 0, .slice none 0 0, .bool false], .int .i64 er])) w' :=
  ⟨_, [], _, [], F, rfl, LsG.nil _, rfl, LsG.nil _, rfl, h.st s (Dj.no _), s.wide (fun _ h => h.elim) (fun k hk => hk.elim .inl (fun h => h.elim (fun h => (fpL_nil h).elim) (fun h => (fpL_nil h).elim))), fun k _ b => fpL_nil b, fun k _ b => fpL_nil b, fun k _ b => fpL_nil b⟩
theorem TakenJ.take {w w' : World} {e g : Nat} {k : EC} {P : Nat → Nat} {R : Nat → Nat → Prop} {X : Nat → XP} {a : Nat} {x' : XP} {t : XT} {er : Int} {r : Ending} (hE : EnM w e g k k.hosts P R X) (ha : a < k.hosts) (hs : a ≠ k.self) (h : TakenJ w (R a) (P a) (k.pc a) x' t er r w') :
    TakeJ w (fpE e g k k.hosts R) e k (upd X a x') t er r w' := by
  obtain ⟨Vu, us, Vm, os, F', h1, h2, h3, h4, h5, h6, h7, h8, h9, h10⟩ := h
  have ht := hE.turn ha hs h7 h6
  have hd := ht.2.2 (fun j x y => y.elim (h8 j x) (h9 j x))
  exact ⟨Vu, us, Vm, os, _, h1, h2, h3, h4, h5, ⟨g, P, _, ht.1, rfl⟩, ht.2.1, fun j x y => hd j x (.inl y), fun j x y => hd j x (.inr y), h10⟩
/-- a Take's answer seen from ahead of the boxes, and behind the result's row -/
theorem TakeJ.wrap {w wA wB w' : World} {g : Nat} {F : Nat → Prop} {e : Nat} {k : EC} {X : Nat → XP} {t : XT} {er : Int} {r : Ending} (h : TakeJ wA F e k X t er r wB) (hF : In F w) (s1 : St No w No wA) (s2 : St (fpB0 g) wB (fpB0 g) w') (hg : w.heap.size ≤ g) (hg2 : g < wA.heap.size) : TakeJ w F e k X t er r w' := by
  obtain ⟨Vu, us, Vm, os, F', h1, h2, h3, h4, h5, h6, h7, h8, h9, h10⟩ := h
  have hn : ∀ j, (F' j ∨ fpL UB.v Vu us j ∨ fpL OB.v Vm os j) → j ≠ g := fun j hj e => by
    subst e
    exact (h7.new j hj).elim (fun x => absurd (hF j x) (by omega)) (fun x => by omega)
  have hd : ∀ {G : Nat → Prop}, (∀ j, G j → F' j ∨ fpL UB.v Vu us j ∨ fpL OB.v Vm os j) → Dj (fpB0 g) G := fun hG j x y => hn j (hG j y) x
  refine ⟨Vu, us, Vm, os, F', h1, h2.st s2 (hd fun j x => .inr (.inl x)), h3, h4.st s2 (hd fun j x => .inr (.inr x)), h5, h6.st s2 (hd fun j x => .inl x), ?_, h8, h9, h10⟩
  have z1 := s1.size
  have z2 := h7.size
  have z3 := s2.size
  refine ⟨s2.os.trans (h7.os.trans s1.os), s2.tape.trans (h7.tape.trans s1.tape), s2.output.trans (h7.output.trans s1.output), by omega, fun j hj hnF => ?_, fun j hj => ?_⟩
  · rw [s2.block j (by omega) (fun e => by have e' : j = g := e; omega), h7.block j (by omega) hnF, s1.block j hj (fun e => e)]
  · exact (h7.new j hj).elim .inl (fun x => .inr (by omega))
def takeE (k : EC) (X : Nat → XP) (a : Nat) (m : MV) : Int := if isP k a then (if plainB m then heardE (X a) m.seq m.mask else 86) else 80
def takeB (k : EC) (a : Nat) (m : MV) : Bool := isP k a && plainB m
def takeX (k : EC) (X : Nat → XP) (a : Nat) (m : MV) : Nat → XP := if takeB k a m then upd X a (heardX (X a) m.seq m.mask) else X
def takeT (k : EC) (X : Nat → XP) (a : Nat) (m : MV) : XT := if takeB k a m then heardT (k.pc a) (X a) m.seq m.mask else XT.none
set_option maxRecDepth 100000 in
set_option maxHeartbeats 1000000 in
theorem takeA_calls (w : World) (F : Nat → Prop) (e : Nat) (k : EC) (X : Nat → XP) (h : En w F e k X) (hk : k.hosts ≤ 16) (hx : EX k X) (a : Nat) (ha : a ≤ 255) (m : MV) (hm : m.Wf) (hkd : m.kind = 11) :
    Calls Try.prog 33 #[.pointer (some ⟨e, 0, none⟩), .int .u8 a, .agg m.cells] w (TakeJ w F e k (takeX k X a m) (takeT k X a m) (takeE k X a m)) := by
  have hsz : m.cells.size = 17 := rfl
  have hkdi : (m.kind == 11) = true := by rw [beq_iff_eq]; exact hkd
  clear hkd
  have HEN := Lib.hid h
  obtain ⟨g, P, R, hE, rfl⟩ := h
  have HST := Lib.hid (Start.of w m)
  have HIN := Lib.hid hE.in
  have HEA := Lib.hid (hE.st HST.out.st (Dj.no _))
  have hpc := peer_calls _ e g k P R X HEA.out hk a ha
  have hl1 : w.heap.size + 1 < ((w.alloc (.cells m.cells 60)).alloc (.cells #[.slice none 0 0, .slice none 0 0, .bool false] 77)).heap.size := HST.out.res.lt
  have HE0 := Lib.hid hE
  clear hE
  cases hp : isP k a with
  | false =>
    rw [ptrV_no hp] at hpc
    have HPC := Lib.hid hpc
    have HJ : Hid (∀ w', St No w No w' → TakeJ w (fpE e g k k.hosts R) e k (takeX k X a m) (takeT k X a m) (takeE k X a m) (.returned (.tuple #[.agg #[.slice none 0 0, .slice none 0 0, .bool false], .int .i64 80])) w') := Lib.hid (fun w' s => by
      have e0 : takeB k a m = false := by unfold takeB; rw [hp]; rfl
      have e1 : takeX k X a m = X := by unfold takeX; rw [e0]; rfl
      have e2 : takeT k X a m = XT.none := by unfold takeT; rw [e0]; rfl
      have e3 : takeE k X a m = 80 := by unfold takeE; rw [hp]; rfl
      rw [e1, e2, e3]
      exact TakeJ.none HEN.out s)
    clear hpc hp
    go_enter Try.func33, Try.ntmps33
    go_wp2_with fail
    refine HPC.out.mono ?_
    rintro r w1 ⟨rfl, rfl⟩
    generalize (w.alloc (.cells m.cells 60)).alloc (.cells #[.slice none 0 0, .slice none 0 0, .bool false] 77) = wA at *
    have HRS := Lib.hid HST.out.res
    obtain ⟨r0, r1, r2, rf0, rf1, rf2⟩ := HRS.out.n3
    go_wp2_with fail
    refine bodyPost_ret (results_cell_row_tmp2 rfl _ _ (w.heap.size + 1) _ _ _ _ rfl (taken_row HRS.out _ _ _) Try.underlying77 rfl tkInfo) rfl ?_
    exact HJ.out _ (HST.out.st.own (St.xsets (F := fpB0 (w.heap.size + 1)) (w.heap.size + 1) rfl [_, _, _] 0 _) (by omega))
  | true =>
    have hpi := isP_iff.1 hp
    rw [ptrV_yes hp] at hpc
    have HPC := Lib.hid hpc
    have HPL := Lib.hid (plain_calls ((w.alloc (.cells m.cells 60)).alloc (.cells #[.slice none 0 0, .slice none 0 0, .bool false] 77)) m hm)
    clear hpc
    cases hpb : plainB m with
    | false =>
      have HJ : Hid (∀ w', St No w No w' → TakeJ w (fpE e g k k.hosts R) e k (takeX k X a m) (takeT k X a m) (takeE k X a m) (.returned (.tuple #[.agg #[.slice none 0 0, .slice none 0 0, .bool false], .int .i64 86])) w') := Lib.hid (fun w' s => by
        have e0 : takeB k a m = false := by unfold takeB; rw [hp, hpb]; rfl
        have e1 : takeX k X a m = X := by unfold takeX; rw [e0]; rfl
        have e2 : takeT k X a m = XT.none := by unfold takeT; rw [e0]; rfl
        have e3 : takeE k X a m = 86 := by unfold takeE; rw [hp, hpb]; rfl
        rw [e1, e2, e3]
        exact TakeJ.none HEN.out s)
      rw [hpb] at HPL
      clear hp hpb
      go_enter Try.func33, Try.ntmps33
      go_wp2_with fail
      refine HPC.out.mono ?_
      rintro r w1 ⟨rfl, rfl⟩
      generalize (w.alloc (.cells m.cells 60)).alloc (.cells #[.slice none 0 0, .slice none 0 0, .bool false] 77) = wA at *
      obtain ⟨m0, m2, m3, m4, m5, m6, m7, m8, m9, m10, m11, m12, m13, m14, m15, m16⟩ := MV.n17 HST.out.box
      have m1 := HST.out.cells.2.1
      go_wp2_with fail
      refine HPL.out.mono ?_
      rintro r w2 ⟨rfl, hs2⟩
      have HS2 := Lib.hid (HST.out.st.trans hs2)
      have HRS := Lib.hid (HST.out.res.move (hs2.block _ HST.out.res.lt (fun e => e)))
      clear hs2
      obtain ⟨r0, r1, r2, rf0, rf1, rf2⟩ := HRS.out.n3
      go_wp2_with fail
      refine bodyPost_ret (results_cell_row_tmp2 rfl _ _ (w.heap.size + 1) _ _ _ _ rfl (taken_row HRS.out _ _ _) Try.underlying77 rfl tkInfo) rfl ?_
      exact HJ.out _ (HS2.out.own (St.xsets (F := fpB0 (w.heap.size + 1)) (w.heap.size + 1) rfl [_, _, _] 0 _) (by omega))
    | true =>
      have HJ : Hid (∀ wX wB w' r, St No w No wX → w.heap.size + 1 < wX.heap.size → TakenJ wX (R a) (P a) (k.pc a) (heardX (X a) m.seq m.mask) (heardT (k.pc a) (X a) m.seq m.mask) (heardE (X a) m.seq m.mask) r wB → St (fpB0 (w.heap.size + 1)) wB (fpB0 (w.heap.size + 1)) w' → TakeJ w (fpE e g k k.hosts R) e k (takeX k X a m) (takeT k X a m) (takeE k X a m) r w') := Lib.hid (fun wX wB w' r s hl hj s2 => by
        have e0 : takeB k a m = true := by unfold takeB; rw [hp, hpb]; rfl
        have e1 : takeX k X a m = upd X a (heardX (X a) m.seq m.mask) := by unfold takeX; rw [e0]; rfl
        have e2 : takeT k X a m = heardT (k.pc a) (X a) m.seq m.mask := by unfold takeT; rw [e0]; rfl
        have e3 : takeE k X a m = heardE (X a) m.seq m.mask := by unfold takeE; rw [hp, hpb]; rfl
        rw [e1, e2, e3]
        exact (hj.take ((HE0.out.st s (Dj.no _))) hpi.1 hpi.2).wrap HIN.out s s2 (by omega) hl)
      rw [hpb] at HPL
      clear hp hpb
      go_enter Try.func33, Try.ntmps33
      go_wp2_with fail
      refine HPC.out.mono ?_
      rintro r w1 ⟨rfl, rfl⟩
      generalize (w.alloc (.cells m.cells 60)).alloc (.cells #[.slice none 0 0, .slice none 0 0, .bool false] 77) = wA at *
      obtain ⟨m0, m2, m3, m4, m5, m6, m7, m8, m9, m10, m11, m12, m13, m14, m15, m16⟩ := MV.n17 HST.out.box
      have m1 := HST.out.cells.2.1
      go_wp2_with fail
      refine HPL.out.mono ?_
      rintro r w2 ⟨rfl, hs2⟩
      have HS2 := Lib.hid (HST.out.st.trans hs2)
      have HRS := Lib.hid (HST.out.res.move (hs2.block _ HST.out.res.lt (fun e => e)))
      have HBX := Lib.hid (HST.out.box.move (hs2.block _ HST.out.box.lt (fun e => e)))
      have HPR := Lib.hid ((HEA.out.st hs2 (Dj.no _)).pr a hpi.1 hpi.2)
      clear hs2 m0 m2 m3 m4 m5 m6 m7 m8 m9 m10 m11 m12 m13 m14 m15 m16 m1
      obtain ⟨m0, m2, m3, m4, m5, m6, m7, m8, m9, m10, m11, m12, m13, m14, m15, m16⟩ := MV.n17 HBX.out
      have m1 : w2.cell? ⟨w.heap.size, 1, none⟩ = some (.int .u64 m.seq) := by rw [HBX.out.cell 1]; rfl
      go_wp2_with fail
      refine (heard_calls w2 (R a) (P a) (k.pc a) (X a) HPR.out (hx a hpi.1 hpi.2) m hm.seq).mono ?_
      rintro r w3 hj
      have HT := Lib.hid hj
      have hs3 : St (R a) w2 No w3 := by
        obtain ⟨Vu, us, Vm, os, F', _, _, _, _, _, _, h7, _⟩ := hj
        exact h7.drop (fun _ e => e.elim)
      obtain ⟨Vu, us, Vm, os, F', rfl, hu, _, ho, _, _, _⟩ := hj
      obtain ⟨ua, uc, rfl, _, _, _, _⟩ := hu.own.form
      obtain ⟨oa, oc, rfl, _, _, _, _⟩ := ho.own.form
      clear hu ho
      have HRS3 := Lib.hid (HRS.out.move (hs3.block _ HRS.out.lt (fun e => by have := HIN.out _ (.inr (.inr ⟨a, hpi.1, hpi.2, e⟩)); omega)))
      clear hs3
      clear m0 m2 m3 m4 m5 m6 m7 m8 m9 m10 m11 m12 m13 m14 m15 m16 m1
      obtain ⟨r0, r1, r2, rf0, rf1, rf2⟩ := HRS3.out.n3
      go_wp2_with fail
      refine bodyPost_ret (results_cell_row_tmp2 rfl _ _ (w.heap.size + 1) _ _ _ _ rfl (taken_row HRS3.out _ _ _) Try.underlying77 rfl tkInfo) rfl ?_
      exact HJ.out _ _ _ _ HS2.out HRS.out.lt HT.out (St.xsets (F := fpB0 (w.heap.size + 1)) (w.heap.size + 1) rfl [_, _, _] 0 _)
end Go.Proofs.Ytjepmckofocdnaa
