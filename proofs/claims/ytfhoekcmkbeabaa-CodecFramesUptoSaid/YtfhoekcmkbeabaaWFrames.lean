/-
  The walk over the statement CodecFrames.
-/
import Derived.Test.YtfhoekcmkbeabaaCwRefFrames
import Derived.Test.YtfhoekcmkbeabaaCwHand
import Derived.Test.YtfhoekcmkbeabaaCwLists
import Derived.Test.YtfhoekcmkbeabaaCwSteps
namespace Go.Proofs.Ytfhoekcmkbeabaa
open Go.RowKit
set_option linter.unusedVariables false
set_option linter.unusedSimpArgs false

theorem frameO_len (bs : List B8) : (frameO bs).length ≤ 16777216 := by
  unfold frameO
  split
  · unfold frameB sizeB
    simp [beTo_len]
    omega
  · simp
theorem same_self (a : Option Addr) (c : Nat) (xs : List B8) (b : Option Addr) (d : Nat) (hx : xs.length ≤ maxLen) (w : World) (ha : Bs w a xs) (hb : Bs w b xs) :
    Calls Try.prog 17 #[.slice a xs.length c, .slice b xs.length d] w fun e w' => e = .returned (.bool true) ∧ Dr w w' :=
  (same_calls a c xs b d xs hx hx w ha hb).mono fun e w' h => by rw [decide_eq_true rfl] at h; exact h
theorem framesB_few : ∀ (n : Nat) (bs : List B8), (framesB n bs).1.length ≤ n ∧ (framesB n bs).2.1 ≤ bs.length ∧ ∀ (i : Nat) (body : List B8), (framesB n bs).1[i]? = some body → body.length ≤ bs.length := by
  intro n
  induction n with
  | zero => intro bs; refine ⟨Nat.le_refl _, Nat.zero_le _, ?_⟩; intro i b h; simp [framesB] at h
  | succ n ih =>
    intro bs
    simp only [framesB]
    split
    · refine ⟨Nat.zero_le _, Nat.zero_le _, ?_⟩; intro i b h; simp at h
    · split
      · rename_i h0
        have hl := wholeE_len h0
        obtain ⟨h1, h2, h3⟩ := ih (bs.drop (8 + (wholeO bs).length))
        rw [List.length_drop] at h2
        refine ⟨by simp; omega, by show 8 + (wholeO bs).length + _ ≤ _; omega, ?_⟩
        intro i b h
        cases i with
        | zero => simp at h; subst h; omega
        | succ i => simp at h; have := h3 i b h; simp at this; omega
      · refine ⟨Nat.zero_le _, Nat.zero_le _, ?_⟩; intro i b h; simp at h

set_option maxRecDepth 100000 in
set_option maxHeartbeats 2000000 in
theorem frames_walk (a : Option Addr) (c : Nat) (xs : List B8) (b : Option Addr) (d : Nat) (ys : List B8) (hx : xs.length ≤ 1048576) (hy : ys.length ≤ 1048576) (hac : a = none → c = 0) (hld : ys.length ≤ d) (hdm : d ≤ 9223372036854775807)
    (w : World) (ha : Bs w a xs) (hb : Bs w b ys) :
    Calls Try.prog 8 #[.slice a xs.length c, .slice b ys.length d] w fun e w' => e = .returned (.bool true) ∧ Below w.heap.size w w' := by
  have HA := Lib.hid ha
  have HB := Lib.hid hb
  have HAC := Lib.hid hac
  clear ha hb hac
  go_enter Try.func8, Try.ntmps8
  go_wp2_with fail
  refine (handed_calls a c xs (by omega) w HA.out).mono ?_
  rintro e w1 ⟨v1, rfl, hh1, hs1⟩
  obtain ⟨a1, c1, rfl, hb1, hn1, hfp1⟩ := hh1.form
  have HH1 := Lib.hid hh1
  have HS1 := Lib.hid hs1
  have HB1 := Lib.hid hb1
  have HN1 := Lib.hid hn1
  have HA1 : Hid (Bs w1 a xs) := Lib.hid (HA.out.st hs1 (Dj.no _))
  have HY1 : Hid (Bs w1 b ys) := Lib.hid (HB.out.st hs1 (Dj.no _))
  clear hh1 hs1 hb1 hn1 hfp1
  have HF1 := Lib.hid (frame_calls a1 c1 xs (by omega) HN1.out w1 HB1.out)
  have HF2 := Lib.hid (fun W => refFrame_calls a c xs (by omega) W)
  have HFL := Lib.hid (frameO_len xs)
  unfold FramePost at HF1 HF2
  generalize frameO xs = fo at *
  generalize frameE xs = fe at *
  go_wp2_with fail
  refine HF1.out.mono ?_
  rintro e w2 ⟨v2, rfl, ho2, hs2⟩
  obtain ⟨a2, c2, rfl, _, _, _, _⟩ := ho2.form
  have HO2 := Lib.hid ho2
  have HS2 := Lib.hid hs2
  have HA2 : Hid (Bs w2 a xs) := Lib.hid (HA1.out.st hs2 (Dj.no _))
  clear ho2 hs2
  go_wp2_with fail
  refine (HF2.out w2 HA2.out).mono ?_
  rintro e w3 ⟨v3, rfl, ho3, hs3⟩
  obtain ⟨a3, c3, rfl, _, _, _, _⟩ := ho3.form
  have HO3 := Lib.hid ho3
  have HS3 := Lib.hid hs3
  have HO23 : Hid (Bs w3 a2 fo) := Lib.hid (HO2.out.bs.st hs3 (Dj.no _))
  have HA3 : Hid (Bs w3 a xs) := Lib.hid (HA2.out.st hs3 (Dj.no _))
  have HH3 : Hid (Hand w3 a xs (.slice a1 xs.length c1)) := Lib.hid ((HH1.out.st HS2.out (Dj.no _)).st hs3 (Dj.no _))
  clear ho3 hs3
  go_wp2_with (first
    | (go_at_call 32; refine (num_calls fe _).mono ?_; rintro e w4 ⟨rfl, rfl⟩)
    | (go_at_call 17; refine (same_self a2 c2 fo a3 c3 (by have := HFL.out; unfold maxLen; omega) w3 HO23.out HO3.out.bs).mono ?_; rintro e w4 ⟨rfl, hd4⟩; have HD4 := Lib.hid hd4; clear hd4)
    | (go_at_call 24; refine (kept_calls _ a c xs (by omega) w4 (HH3.out.move (fun k _ => by rw [HD4.out.heap])) (HA3.out.move (fun k _ => by rw [HD4.out.heap]))).mono ?_; rintro e w5 ⟨rfl, hd5⟩; have HD5 := Lib.hid hd5; clear hd5))
  have HSA : Hid (St No w No w5) := Lib.hid ((((HS1.out.drop (G' := No) (fun _ h => h.elim)).trans (HS2.out.drop (G' := No) (fun _ h => h.elim))).trans (HS3.out.drop (G' := No) (fun _ h => h.elim))).trans ((HD4.out.st No).trans (HD5.out.st No)))
  have HY5 : Hid (Bs w5 b ys) := Lib.hid (HB.out.st HSA.out (Dj.no _))
  clear HS1 HS2 HS3 HD4 HD5 HH1 HB1 HN1 HA1 HY1 HF1 HF2 HFL HO2 HA2 HO3 HO23 HA3 HH3
  refine (handed_calls b d ys (by omega) w5 HY5.out).mono ?_
  rintro e w6 ⟨v6, rfl, hh6, hs6⟩
  obtain ⟨a6, c6, rfl, hb6, hn6, hfp6⟩ := hh6.form
  have HH6 := Lib.hid hh6
  have HS6 := Lib.hid hs6
  have HB6 := Lib.hid hb6
  have HY6 : Hid (Bs w6 b ys) := Lib.hid (HY5.out.st hs6 (Dj.no _))
  clear hh6 hs6 hb6 hn6 hfp6
  have HG1 := Lib.hid (frames_calls a6 c6 ys (by omega) w6 HB6.out)
  have HG2 := Lib.hid (fun W => refFrames_calls b d ys (by omega) hld hdm W)
  have hfew := framesB_few ys.length ys
  unfold FramesPost at HG1 HG2
  generalize framesB ys.length ys = r at *
  obtain ⟨bods, at_, er⟩ := r
  simp only at hfew HG1 HG2
  have HFEW := Lib.hid hfew.2.2
  have hfl := hfew.1
  have hat := hfew.2.1
  clear hfew
  go_wp2_with fail
  refine HG1.out.mono ?_
  rintro e w7 ⟨V7, D7, rfl, ho7, hs7⟩
  obtain ⟨a7, c7, rfl⟩ := ho7.form
  have HO7 := Lib.hid ho7
  have HS7 := Lib.hid hs7
  have HY7 : Hid (Bs w7 b ys) := Lib.hid (HY6.out.st hs7 (Dj.no _))
  clear ho7 hs7
  go_wp2_with fail
  refine (HG2.out w7 HY7.out).mono ?_
  rintro e w8 ⟨V8, D8, rfl, ho8, hs8⟩
  obtain ⟨a8, c8, rfl⟩ := ho8.form
  have HO8 := Lib.hid ho8
  have HS8 := Lib.hid hs8
  have HO78 : Hid (Bods w8 (.slice a7 bods.length c7) D7 bods) := Lib.hid (HO7.out.st hs8 (Dj.no _) (Dj.no _))
  have HY8 : Hid (Bs w8 b ys) := Lib.hid (HY7.out.st hs8 (Dj.no _))
  have HH8 : Hid (Hand w8 b ys (.slice a6 ys.length c6)) := Lib.hid ((HH6.out.st HS7.out (Dj.no _)).st hs8 (Dj.no _))
  clear ho8 hs8
  go_wp2_with (first
    | (go_at_call 32; refine (num_calls er _).mono ?_; rintro e w4 ⟨rfl, rfl⟩)
    | (go_at_call 24; refine (kept_calls _ b d ys (by omega) w8 HH8.out HY8.out).mono ?_; rintro e w9 ⟨rfl, hd9⟩; have HD9 := Lib.hid hd9; clear hd9))
  have HST : Hid (St No w No w9) := Lib.hid ((((HSA.out.trans (HS6.out.drop (G' := No) (fun _ h => h.elim))).trans HS7.out).trans HS8.out).trans (HD9.out.st No))
  have HP7 : Hid (Bods w9 (.slice a7 bods.length c7) D7 bods) := Lib.hid (HO78.out.st (HD9.out.st No) (Dj.no _) (Dj.no _))
  have HP8 : Hid (Bods w9 (.slice a8 bods.length c8) D8 bods) := Lib.hid (HO8.out.st (HD9.out.st No) (Dj.no _) (Dj.no _))
  clear HSA HY5 HH6 HS6 HB6 HY6 HG1 HG2 HO7 HS7 HY7 HO8 HS8 HO78 HY8 HH8 HD9
  go_loopw [17] (fun i wr => ∃ k : Nat, k ≤ bods.length ∧ i = .int .i64 k ∧ Hid (Dr w9 wr)) (fun i _ => bods.length - (intOf i).toNat)
  case atStart => exact ⟨0, by omega, rfl, Lib.hid (Dr.refl _)⟩
  case round =>
    obtain ⟨k, hk, rfl, HDR⟩ := hrel
    by_cases hlt : k < bods.length
    · obtain ⟨body, hbody⟩ : ∃ body, bods[k]? = some body := ⟨_, List.getElem?_eq_getElem hlt⟩
      have hbl := HFEW.out k body hbody
      obtain ⟨x7, b7, d7, rfl, hc7, hbs7⟩ := (HP7.out.st (HDR.out.st No) (Dj.no _) (Dj.no _)).at hbody
      obtain ⟨x8, b8, d8, rfl, hc8, hbs8⟩ := (HP8.out.st (HDR.out.st No) (Dj.no _) (Dj.no _)).at hbody
      have HSM : Hid (∀ n, Calls Try.prog 17 #[.slice b7 body.length d7, .slice b8 body.length d8] (wr.drewN n) fun e w'' => e = .returned (.bool true) ∧ ∃ m, w'' = wr.drewN m) :=
        Lib.hid (fun n => (same_self b7 d7 body b8 d8 (by unfold maxLen; omega) (wr.drewN n) (hbs7.move (fun _ _ => rfl)) (hbs8.move (fun _ _ => rfl))).mono fun e w' ⟨he, hd⟩ => ⟨he, ((Dr.one n).trans hd).out⟩)
      have hlt2 : (k : Int) < (bods.length : Int) := by omega
      clear hbody hbs7 hbs8
      go_wp2
      go_quiet ((go_at_call 17; exact HSM.out _))
      go_wp2
      exact ⟨⟨k + 1, by omega, by go_num, Lib.hid (HDR.out.drewN nq)⟩, by simp [intOf]; omega⟩
    · obtain rfl : k = bods.length := by omega
      go_wp2
      go_ret
      exact ⟨rfl, (HST.out.trans (HDR.out.st No)).below⟩
end Go.Proofs.Ytfhoekcmkbeabaa
