
/-
  Send, whatever the payload: an empty one may point anywhere.
-/
import Derived.Test.YtjepmckofocdnaaXoCalls
namespace Go.Proofs.Ytjepmckofocdnaa
open Go.RowKit
set_option linter.unusedVariables false
set_option linter.unusedSimpArgs false

set_option maxRecDepth 100000 in
set_option maxHeartbeats 1000000 in
theorem send_callsZ (w : World) (F : Nat → Prop) (e : Nat) (k : EC) (X : Nat → XP) (h : En w F e k X) (hk : k.hosts ≤ 16) (hx : EX k X) (a : Nat) (ha : a ≤ 255) (ba : Option Addr) (cap : Nat) (bs : List B8) (hz : sizedB bs.length = false) :
    Calls Try.prog 24 #[.pointer (some ⟨e, 0, none⟩), .int .u8 a, .slice ba bs.length cap] w (SendJ w F e k (sendX k X a bs) (sendM k X a bs) (sendE k X a bs)) := by
  have HEN := Lib.hid h
  obtain ⟨g, P, R, hE, rfl⟩ := h
  have hpc := peer_calls w e g k P R X hE hk a ha
  cases hp : isP k a with
  | false =>
    rw [ptrV_no hp] at hpc
    have HPC := Lib.hid hpc
    have HJ : Hid (SendJ w (fpE e g k k.hosts R) e k (sendX k X a bs) (sendM k X a bs) (sendE k X a bs) (.returned (.tuple #[.slice none 0 0, .int .i64 80])) w) := Lib.hid (by
      have e0 : sendB k a bs = false := by unfold sendB; rw [hp]; rfl
      have e1 : sendX k X a bs = X := by unfold sendX; rw [e0]; rfl
      have e2 : sendM k X a bs = [] := by unfold sendM; rw [e0]; rfl
      have e3 : sendE k X a bs = 80 := by unfold sendE; rw [hp]; rfl
      rw [e1, e2, e3]
      exact SendJ.none HEN.out)
    clear hpc hE hp
    go_enter Try.func24, Try.ntmps24
    go_wp2_with fail
    refine HPC.out.mono ?_
    rintro r w1 ⟨rfl, rfl⟩
    go_wp2
    go_ret2
    exact HJ.out
  | true =>
    have hpi := isP_iff.1 hp
    rw [ptrV_yes hp] at hpc
    have HPC := Lib.hid hpc
    have hsz := fun W => sized_calls ba bs.length cap W
    rw [hz] at hsz
    have HJ : Hid (SendJ w (fpE e g k k.hosts R) e k (sendX k X a bs) (sendM k X a bs) (sendE k X a bs) (.returned (.tuple #[.slice none 0 0, .int .i64 81])) w) := Lib.hid (by
      have e0 : sendB k a bs = false := by unfold sendB; rw [hp, hz]; rfl
      have e1 : sendX k X a bs = X := by unfold sendX; rw [e0]; rfl
      have e2 : sendM k X a bs = [] := by unfold sendM; rw [e0]; rfl
      have e3 : sendE k X a bs = 81 := by unfold sendE; rw [hp, hz]; rfl
      rw [e1, e2, e3]
      exact SendJ.none HEN.out)
    clear hpc hE hp hz
    go_enter Try.func24, Try.ntmps24
    go_wp2_with fail
    refine HPC.out.mono ?_
    rintro r w1 ⟨rfl, rfl⟩
    go_wp2_with fail
    refine (hsz _).mono ?_
    rintro r w2 ⟨rfl, rfl⟩
    go_wp2
    go_ret2
    exact HJ.out
theorem send_callsD (w : World) (F : Nat → Prop) (e : Nat) (k : EC) (X : Nat → XP) (h : En w F e k X) (hk : k.hosts ≤ 16) (hx : EX k X) (a : Nat) (ha : a ≤ 255) (ba : Option Addr) (cap : Nat) (bs : List B8) (hb : Bs w ba bs) (hda : sizedB bs.length = true → Dj F (fpA ba)) (hn : ba = none → cap = 0) :
    Calls Try.prog 24 #[.pointer (some ⟨e, 0, none⟩), .int .u8 a, .slice ba bs.length cap] w (SendJ w F e k (sendX k X a bs) (sendM k X a bs) (sendE k X a bs)) := by
  cases hz : sizedB bs.length with
  | false => exact send_callsZ w F e k X h hk hx a ha ba cap bs hz
  | true => exact send_calls w F e k X h hk hx a ha ba cap bs hb (hda hz) hn
end Go.Proofs.Ytjepmckofocdnaa
