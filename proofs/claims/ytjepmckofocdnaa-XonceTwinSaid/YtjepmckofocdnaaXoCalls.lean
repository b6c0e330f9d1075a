
/-
  An end's Room, Send.
-/
import Derived.Test.YtjepmckofocdnaaXoLoad
import Derived.Test.YtjepmckofocdnaaXoPlain
namespace Go.Proofs.Ytjepmckofocdnaa
open Go.RowKit
set_option linter.unusedVariables false
set_option linter.unusedSimpArgs false

/-- is it a peer's address? -/
def isP (k : EC) (a : Nat) : Bool := decide (a < k.hosts ∧ a ≠ k.self)
theorem isP_iff {k : EC} {a : Nat} : isP k a = true ↔ a < k.hosts ∧ a ≠ k.self := decide_eq_true_iff
theorem ptrV_yes {k : EC} {P : Nat → Nat} {a : Nat} (h : isP k a = true) : ptrV k P k.hosts a = .pointer (some ⟨P a, 0, none⟩) := if_pos (isP_iff.1 h)
theorem ptrV_no {k : EC} {P : Nat → Nat} {a : Nat} (h : isP k a = false) : ptrV k P k.hosts a = .pointer none := if_neg (fun x => by rw [isP_iff.2 x] at h; cases h)
def roomN (k : EC) (X : Nat → XP) (a : Nat) : Nat := if isP k a then leftN k.room (X a).queue.length (X a).sent else 0
set_option maxRecDepth 100000 in
set_option maxHeartbeats 1000000 in
theorem room_calls (w : World) (F : Nat → Prop) (e : Nat) (k : EC) (X : Nat → XP) (h : En w F e k X) (hk : k.hosts ≤ 16) (hx : EX k X) (a : Nat) (ha : a ≤ 255) :
    Calls Try.prog 32 #[.pointer (some ⟨e, 0, none⟩), .int .u8 a] w fun r w' => r = .returned (.int .i64 (roomN k X a)) ∧ Dr w w' := by
  obtain ⟨g, P, R, hE, rfl⟩ := h
  have hpc := peer_calls w e g k P R X hE hk a ha
  cases hp : isP k a with
  | false =>
    rw [ptrV_no hp] at hpc
    have HR : Hid (roomN k X a = 0) := Lib.hid (by unfold roomN; rw [hp]; rfl)
    have HPC := Lib.hid hpc
    clear hpc hE hp
    go_enter Try.func32, Try.ntmps32
    go_wp2_with fail
    refine HPC.out.mono ?_
    rintro r w1 ⟨rfl, rfl⟩
    go_wp2
    go_ret
    rw [HR.out]
    exact ⟨rfl, Dr.refl _⟩
  | true =>
    have hpi := isP_iff.1 hp
    rw [ptrV_yes hp] at hpc
    have HR : Hid (roomN k X a = leftN k.room (X a).queue.length (X a).sent) := Lib.hid (by unfold roomN; rw [hp]; rfl)
    obtain ⟨Vq, Ve, qs, es, hm, hq, he, hF⟩ := hE.pr a hpi.1 hpi.2
    have hxo := hx a hpi.1 hpi.2
    obtain ⟨d0, d1, d2, d3, d4, d5, d6, d7, d8, d9, d10, f0, f1, f2, f3, f4, f5, f6, f7, f8, f9, f10⟩ := hm.ob.n11
    obtain ⟨qa, qc, rfl, _, _, _, _⟩ := hm.lq.own.form
    have hql : (X a).queue.length = qs.length := by rw [hq, List.length_map]
    have hlc := left_calls w (P a) k.room qs.length (X a).sent qa qc d1 d3 d5 (by have := hxo.ql; rw [hql] at this; exact this) hxo.rm hxo.se
    rw [hql] at HR
    have HLC := Lib.hid hlc
    have HPC := Lib.hid hpc
    clear hlc hpc hE hp hm d0 d1 d2 d3 d4 d5 d6 d7 d8 d9 d10 f0 f1 f2 f3 f4 f5 f6 f7 f8 f9 f10
    go_enter Try.func32, Try.ntmps32
    go_wp2_with fail
    refine HPC.out.mono ?_
    rintro r w1 ⟨rfl, rfl⟩
    go_wp2_with fail
    refine HLC.out.mono ?_
    rintro r w2 ⟨rfl, hd⟩
    go_wp2
    go_ret
    rw [HR.out]
    exact ⟨rfl, hd⟩
def sendB (k : EC) (a : Nat) (bs : List B8) : Bool := isP k a && sizedB bs.length
def sendE (k : EC) (X : Nat → XP) (a : Nat) (bs : List B8) : Int := if isP k a then (if sizedB bs.length then pushE (k.pc a) (X a) else 81) else 80
def sendX (k : EC) (X : Nat → XP) (a : Nat) (bs : List B8) : Nat → XP := if sendB k a bs then upd X a (pushX (k.pc a) (X a) bs) else X
def sendM (k : EC) (X : Nat → XP) (a : Nat) (bs : List B8) : List XM := if sendB k a bs then pushM (k.pc a) (X a) bs else []
/-- mails and an error; the end behind a call -/
def SendJ (w : World) (F : Nat → Prop) (e : Nat) (k : EC) (X' : Nat → XP) (ms : List XM) (er : Int) (r : Ending) (w' : World) : Prop :=
  ∃ V os F', r = .returned (.tuple #[V, .int .i64 er]) ∧ LsO w' V os ∧ os.map OB.pl = ms ∧ En w' F' e k X' ∧ St F w (fun j => F' j ∨ fpL OB.v V os j) w' ∧ Dj F' (fpL OB.v V os)
theorem SendJ.none {w : World} {F : Nat → Prop} {e : Nat} {k : EC} {X : Nat → XP} {er : Int} (h : En w F e k X) : SendJ w F e k X [] er (.returned (.tuple #[.slice none 0 0, .int .i64 er])) w :=
  ⟨_, [], F, rfl, LsG.nil _, rfl, h, (St.refl F w).drop (fun k hk => hk.elim .inl (fun h => (fpL_nil h).elim)), fun k _ b => fpL_nil b⟩
theorem MailsJ.send {w w' : World} {e g : Nat} {k : EC} {P : Nat → Nat} {R : Nat → Nat → Prop} {X : Nat → XP} {a : Nat} {x' : XP} {ms : List XM} {er : Int} {r : Ending} (hE : EnM w e g k k.hosts P R X) (ha : a < k.hosts) (hs : a ≠ k.self) (h : MailsJ w (R a) (P a) (k.pc a) x' ms er r w') :
    SendJ w (fpE e g k k.hosts R) e k (upd X a x') ms er r w' := by
  obtain ⟨V, os, F', h1, h2, h3, h4, h5, h6⟩ := h
  have ht := hE.turn ha hs h5 h4
  exact ⟨V, os, _, h1, h2, h3, ⟨g, P, _, ht.1, rfl⟩, ht.2.1, ht.2.2 h6⟩
set_option maxRecDepth 100000 in
set_option maxHeartbeats 1000000 in
theorem send_calls (w : World) (F : Nat → Prop) (e : Nat) (k : EC) (X : Nat → XP) (h : En w F e k X) (hk : k.hosts ≤ 16) (hx : EX k X) (a : Nat) (ha : a ≤ 255) (ba : Option Addr) (cap : Nat) (bs : List B8) (hb : Bs w ba bs) (hda : Dj F (fpA ba)) (hn : ba = none → cap = 0) :
    Calls Try.prog 24 #[.pointer (some ⟨e, 0, none⟩), .int .u8 a, .slice ba bs.length cap] w (SendJ w F e k (sendX k X a bs) (sendM k X a bs) (sendE k X a bs)) := by
  have HEN := Lib.hid h
  obtain ⟨g, P, R, hE, rfl⟩ := h
  have hpc := peer_calls w e g k P R X hE hk a ha
  cases hp : isP k a with
  | false =>
    rw [ptrV_no hp] at hpc
    have HPC := Lib.hid hpc
    have HJ : Hid (SendJ w (fpE e g k k.hosts R) e k (sendX k X a bs) (sendM k X a bs) (sendE k X a bs) (.returned (.tuple #[.slice none 0 0, .int .i64 80])) w) := Lib.hid (by
      have e0 : sendB k a bs = false := by unfold sendB; rw [hp]; rfl
      have e1 : sendX k X a bs = X := by unfold sendX; rw [e0]; rfl
      have e2 : sendM k X a bs = [] := by unfold sendM; rw [e0]; rfl
      have e3 : sendE k X a bs = 80 := by unfold sendE; rw [hp]; rfl
      rw [e1, e2, e3]
      exact SendJ.none HEN.out)
    clear hpc hE hp
    go_enter Try.func24, Try.ntmps24
    go_wp2_with fail
    refine HPC.out.mono ?_
    rintro r w1 ⟨rfl, rfl⟩
    go_wp2
    go_ret2
    exact HJ.out
  | true =>
    have hpi := isP_iff.1 hp
    rw [ptrV_yes hp] at hpc
    have HPC := Lib.hid hpc
    have hsz := fun W => sized_calls ba bs.length cap W
    cases hz : sizedB bs.length with
    | false =>
      rw [hz] at hsz
      have HJ : Hid (SendJ w (fpE e g k k.hosts R) e k (sendX k X a bs) (sendM k X a bs) (sendE k X a bs) (.returned (.tuple #[.slice none 0 0, .int .i64 81])) w) := Lib.hid (by
        have e0 : sendB k a bs = false := by unfold sendB; rw [hp, hz]; rfl
        have e1 : sendX k X a bs = X := by unfold sendX; rw [e0]; rfl
        have e2 : sendM k X a bs = [] := by unfold sendM; rw [e0]; rfl
        have e3 : sendE k X a bs = 81 := by unfold sendE; rw [hp, hz]; rfl
        rw [e1, e2, e3]
        exact SendJ.none HEN.out)
      clear hpc hE hp hz
      go_enter Try.func24, Try.ntmps24
      go_wp2_with fail
      refine HPC.out.mono ?_
      rintro r w1 ⟨rfl, rfl⟩
      go_wp2_with fail
      refine (hsz _).mono ?_
      rintro r w2 ⟨rfl, rfl⟩
      go_wp2
      go_ret2
      exact HJ.out
    | true =>
      rw [hz] at hsz
      have HJ : Hid (∀ r w', MailsJ w (R a) (P a) (k.pc a) (pushX (k.pc a) (X a) bs) (pushM (k.pc a) (X a) bs) (pushE (k.pc a) (X a)) r w' → SendJ w (fpE e g k k.hosts R) e k (sendX k X a bs) (sendM k X a bs) (sendE k X a bs) r w') := Lib.hid (fun r w' hj => by
        have e0 : sendB k a bs = true := by unfold sendB; rw [hp, hz]; rfl
        have e1 : sendX k X a bs = upd X a (pushX (k.pc a) (X a) bs) := by unfold sendX; rw [e0]; rfl
        have e2 : sendM k X a bs = pushM (k.pc a) (X a) bs := by unfold sendM; rw [e0]; rfl
        have e3 : sendE k X a bs = pushE (k.pc a) (X a) := by unfold sendE; rw [hp, hz]; rfl
        rw [e1, e2, e3]
        exact hj.send hE hpi.1 hpi.2)
      have HPU := Lib.hid (push_calls w (R a) (P a) (k.pc a) (X a) (hE.pr a hpi.1 hpi.2) (hx a hpi.1 hpi.2) ba cap bs hb (fun j x y => hda j (.inr (.inr ⟨a, hpi.1, hpi.2, x⟩)) y) hn hz)
      clear hpc hE hp hz hb hda
      go_enter Try.func24, Try.ntmps24
      go_wp2_with fail
      refine HPC.out.mono ?_
      rintro r w1 ⟨rfl, rfl⟩
      go_wp2_with fail
      refine (hsz _).mono ?_
      rintro r w2 ⟨rfl, rfl⟩
      go_wp2_with fail
      refine HPU.out.mono ?_
      rintro r w3 hj
      have HJ3 := Lib.hid (HJ.out r w3 hj)
      obtain ⟨V, os, F', rfl, _⟩ := hj
      go_wp2
      go_ret2
      exact HJ3.out
end Go.Proofs.Ytjepmckofocdnaa
