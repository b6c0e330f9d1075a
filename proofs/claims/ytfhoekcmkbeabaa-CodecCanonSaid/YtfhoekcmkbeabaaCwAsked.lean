
/-
  The walk over the statements' asked.
-/
import Derived.Test.YtfhoekcmkbeabaaCwLay
namespace Go.Proofs.Ytfhoekcmkbeabaa
open Go.RowKit
set_option linter.unusedVariables false
set_option linter.unusedSimpArgs false

def AskedPost (w : World) (e : Ending) (w' : World) : Prop := e = .returned (.bool true) ∧ St No w No w'
set_option maxRecDepth 100000 in
set_option maxHeartbeats 2000000 in
theorem asked_calls (kind : Int) (w : World) (F G : Nat → Prop) (v : Value) (p : Nat) (th : Bool) (s : WS) (hw : Wh w F v th s) (hr : Rw w G p th s) (hok : s.ok) (hth : th = false → s.out = []) :
    Calls Try.prog 37 #[v, .pointer (some ⟨p, 0, none⟩), .int .i64 kind] w (AskedPost w) := by
  obtain ⟨a, c, k0, k1, k2, k3, f2, f3, hv, hc1, hc2, hnone, ho, hnp, hF⟩ := hr.open
  have HW := Lib.hid hw
  have HR := Lib.hid hr
  have HOK := Lib.hid hok
  have HTH := Lib.hid hth
  have hl : s.out.length ≤ 16777216 := by have := hok.hi; have := hok.fit; omega
  clear hv hc1 hc2 hnone ho hnp hF hw hr hok hth k0 k1 k3 f2 f3
  have HLN : Hid (∀ n, Calls Try.prog 51 #[v] (w.drewN n) fun e w'' => e = .returned (.int .i64 (s.out.length : Int)) ∧ ∃ m, w'' = w.drewN m) :=
    Lib.hid (fun n => (wLen_calls (w.drewN n) F v th s HTH.out (HW.out.move (fun _ _ => rfl))).mono fun e w' ⟨he, hw⟩ => ⟨he, n, hw.symm⟩)
  by_cases h10 : kind = 10
  · subst h10
    go_enter Try.func37, Try.ntmps37
    go_wp2
    go_quiet ((go_at_call 51; exact HLN.out _))
    go_wp2
    go_ret
    exact ⟨by simp, St.drewN _ _ _⟩
  by_cases h11 : kind = 11
  · subst h11
    go_enter Try.func37, Try.ntmps37
    have HE1 := Lib.hid (wErr_calls w F v th s HW.out)
    have HE2 := Lib.hid (rErr_calls w G p th s HR.out)
    generalize errT th s = x at HE1 HE2
    go_wp2_with (first
      | (go_at_call 78; refine HE1.out.mono ?_; rintro e w1 ⟨rfl, rfl⟩)
      | (go_at_call 32; refine (num_calls x _).mono ?_; rintro e w1 ⟨rfl, rfl⟩)
      | (go_at_call 79; refine HE2.out.mono ?_; rintro e w1 ⟨rfl, rfl⟩))
    go_ret
    exact ⟨by simp, St.refl _ _⟩
  by_cases h12 : kind = 12
  · subst h12
    clear h10 h11 k2
    go_enter Try.func37, Try.ntmps37
    go_wp2_with fail
    refine (wOut_calls w F v th s HW.out).mono ?_
    rintro e w1 (⟨he, rfl, hs1⟩ | ⟨he, g, rfl, ho1, hg, hs1⟩)
    · have HA : Hid (∃ e, Calls Try.prog 80 #[.pointer (some ⟨p, 0, none⟩)] w1 e) := Lib.hid ⟨_, rAll_calls w1 G p th s HOK.out (HR.out.st hs1 (Dj.no _))⟩
      have HB := Lib.hid (rAll_calls w1 G p th s HOK.out (HR.out.st hs1 (Dj.no _)))
      rw [if_neg he] at HB
      generalize errT th s = x at HB he ⊢
      have HS1 := Lib.hid hs1
      clear hs1 he HA
      go_wp2_with (first
        | (go_at_call 32; refine (num_calls x _).mono ?_; rintro e w1 ⟨rfl, rfl⟩)
        | (go_at_call 80; refine HB.out.mono ?_; rintro e w2 ⟨v2, rfl, ho2, hs2⟩; obtain ⟨a2, c2, rfl, _, _, _, _⟩ := ho2.form; have HO2 := Lib.hid ho2; have HS2 := Lib.hid hs2; clear ho2 hs2)
        | (go_at_call 17; refine (same_calls none 0 [] a2 c2 [] (by simp) (by simp) _ (Rd.nil _ _) HO2.out.bs).mono ?_; rintro e w3 ⟨rfl, hd3⟩; have HD3 := Lib.hid hd3; clear hd3))
      go_ret
      exact ⟨by simp, (HS1.out.trans (HS2.out.drop (fun k hk => .inr hk))).trans (HD3.out.st _) |>.drop (fun k hk => hk.elim)⟩
    · have HB := Lib.hid (rAll_calls w1 G p th s HOK.out (HR.out.st hs1 (Dj.no _)))
      rw [if_pos he, he] at HB
      have HO1 := Lib.hid ho1
      have HS1 := Lib.hid hs1
      have HG := Lib.hid hg
      clear hs1 he ho1 hg
      go_wp2_with (first
        | (go_at_call 32; refine (num_calls 0 _).mono ?_; rintro e w1 ⟨rfl, rfl⟩)
        | (go_at_call 80; refine HB.out.mono ?_; rintro e w2 ⟨v2, rfl, ho2, hs2⟩; obtain ⟨a2, c2, rfl, _, _, _, _⟩ := ho2.form; have HO2 := Lib.hid ho2; have HS2 := Lib.hid hs2; clear ho2 hs2)
        | (go_at_call 17; refine (same_calls _ _ s.out a2 c2 s.out (by unfold maxLen; omega) (by unfold maxLen; omega) _ (HO1.out.bs.st HS2.out (Dj.no _)) HO2.out.bs).mono ?_; rintro e w3 ⟨rfl, hd3⟩; have HD3 := Lib.hid hd3; clear hd3))
      go_ret
      exact ⟨by simp, ((HS1.out.trans (HS2.out.wide (fun _ h => h.elim) (fun k hk => .inr hk))).trans (HD3.out.st _)).wide (fun _ h => h) (fun k hk => hk.elim)⟩
  · have e10 : (kind == 10) = false := beq_eq_false_iff_ne.2 h10
    have e11 : (kind == 11) = false := beq_eq_false_iff_ne.2 h11
    have e12 : (kind == 12) = false := beq_eq_false_iff_ne.2 h12
    clear h10 h11 h12
    go_enter Try.func37, Try.ntmps37
    go_wp2
    go_ret
    exact ⟨rfl, St.refl _ _⟩
end Go.Proofs.Ytfhoekcmkbeabaa
