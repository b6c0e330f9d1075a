
/-
  The walk over the statement CodecSpoilt.
-/
import Derived.Test.YtfhoekcmkbeabaaCwSpoilt2
import Derived.Test.YtfhoekcmkbeabaaWTorn
import Derived.Test.YtfhoekcmkbeabaaCwTurn
import Derived.Deep.QuietTactic
import Derived.BigQuiet
import Derived.Deep.RegionWith
namespace Go.Proofs.Ytfhoekcmkbeabaa
open Go.RowKit
set_option linter.unusedVariables false
set_option linter.unusedSimpArgs false

set_option maxRecDepth 100000 in
set_option maxHeartbeats 8000000 in
theorem spoilt_walk (a : Option Addr) (c : Nat) (L : List (List B8)) (hs : sumLen L ≤ 9437184) (which at_ : Int) (mask : BitVec 32) (sum : Bool) (w : World) (h : Lists w a L) :
    Calls Try.prog 10 #[.slice a L.length c, .int .i64 which, .int .i64 at_, .int .u32 (mask.toNat : Int), .bool sum] w fun e w' => e = .returned (.bool true) ∧ Below w.heap.size w w' := by
  have hm := sum_many L
  have hmL : L.length ≤ 9437184 := by omega
  have HL0 := Lib.hid h
  clear h
  have HFT := Lib.hid (bodsFit_calls a c L (by omega) w HL0.out)
  go_enter Try.func10, Try.ntmps10
  cases hf : fitsB L with
  | false =>
    rw [hf] at HFT
    go_wp2_with fail
    refine HFT.out.mono ?_
    rintro e w1 ⟨rfl, hd1⟩
    have HD1 := Lib.hid hd1
    clear hd1
    go_wp2
    go_ret
    exact ⟨rfl, (HD1.out.st No).below⟩
  | true =>
    rw [hf] at HFT
    go_wp2_with fail
    refine HFT.out.mono ?_
    rintro e w1 ⟨rfl, hd1⟩
    have HL1 := Lib.hid (HL0.out.st (hd1.st No))
    have HD1 := Lib.hid hd1
    clear hd1
    have HFM := Lib.hid (framed_calls a c L hs hf w1 HL1.out)
    have hal := flatB_sum L
    rw [← hal] at hs
    go_wp2_with fail
    refine HFM.out.mono ?_
    rintro e w2 ⟨Va, Ve, rfl, hoa, hoe, hs2, a1, c1, a2, c2, rfl, rfl, hn1⟩
    have HBE : Hid (Rd w2 a2 (endsV L L.length)) := Lib.hid hoe.rd
    have HS2 : Hid (St No w No w2) := Lib.hid ((HD1.out.st No).trans hs2)
    have HL : Hid (Lists w2 a L) := Lib.hid (HL1.out.st hs2)
    have hcap : (flatB L).length ≤ c1 := by
      obtain ⟨_, _, e, h1, _⟩ := hoa.form
      cases e
      exact h1
    have hcm : c1 ≤ maxLen := by
      obtain ⟨_, _, e, _, h1, _⟩ := hoa.form
      cases e
      exact h1
    unfold maxLen at hcm
    have HBA0 : Hid (Bs w2 a1 (flatB L)) := Lib.hid hoa.bs
    have HN1 := Lib.hid hn1
    clear hoa hoe hs2 hn1 HFM HFT HD1 HL1 HL0
    by_cases hbad : which < 0 ∨ (¬ which < 0 ∧ (L.length : Int) ≤ which) ∨ (¬ which < 0 ∧ ¬ (L.length : Int) ≤ which ∧ at_ < 0)
    · rcases hbad with h1 | ⟨h1, h2⟩ | ⟨h1, h2, h3⟩
      · go_wp2
        go_ret
        exact ⟨rfl, HS2.out.below⟩
      · go_wp2
        go_ret
        exact ⟨rfl, HS2.out.below⟩
      · go_wp2
        go_ret
        exact ⟨rfl, HS2.out.below⟩
    · obtain ⟨i, rfl⟩ : ∃ i : Nat, which = (i : Int) := ⟨which.toNat, by omega⟩
      obtain ⟨n, rfl⟩ : ∃ n : Nat, at_ = (n : Int) := ⟨at_.toNat, by omega⟩
      have hi : i < L.length := by omega
      have hi2 : (i : Int) < (L.length : Int) := by omega
      clear hbad
      obtain ⟨x3, b3, d3, part, hpart, rfl, hc3, hb3, hn3, hl3⟩ := HL.out.at hi
      obtain ⟨x7, hx7, hc7⟩ := HBE.out i _ (endsV_at L L.length i hi)
      change w2.cell? (x7.add i) = some (.int .i64 (endP L (i + 1) : Int)) at hc7
      rw [endP_succ L i part hpart] at hc7
      subst hx7
      have hfit := end_fits L i part hpart
      have HTB := Lib.hid (told_body L i part hpart ((fitsB_iff L).1 hf))
      have HTS := Lib.hid (told_sum L i part hpart ((fitsB_iff L).1 hf))
      have HST := Lib.hid (sum_there L i part hpart)
      have HPB := Lib.hid hb3
      have HPN := Lib.hid hn3
      clear hpart hb3 hn3 hf hal hm
      generalize flatB L = all at *
      generalize endP L i = ei at *
      obtain ⟨y1, rfl⟩ : ∃ y, a1 = some y := by obtain ⟨x, hx, _⟩ := Bs.at HBA0.out 0 (by omega); exact ⟨x, hx⟩
      clear HN1
      cases sum with
      | false =>
        have HDATA := Lib.hid (HTB.out n mask)
        have hfl : ei + 8 + part.length ≤ all.length := by omega
        go_wp2
        go_quiet (fail)
        have HPB3 : Hid (Bs (w2.drewN nq) b3 part) := Lib.hid (HPB.out.move (fun _ _ => rfl))
        have HST3 : Hid (St No w No (w2.drewN nq)) := Lib.hid (HS2.out.trans (St.drewN No w2 nq))
        have HBA : Hid (Bs (w2.drewN nq) (some y1) all) := Lib.hid (HBA0.out.move (fun _ _ => rfl))
        have HL3 : Hid (Lists (w2.drewN nq) (some x3) L) := Lib.hid (HL.out.st (St.drewN No w2 nq))
        have hc4 : (w2.drewN nq).cell? (x3.add i) = some (.slice b3 part.length d3) := hc3
        rw [show (ei : Int) + (8 + (part.length : Int)) - (part.length : Int) - 8 = (ei : Int) by omega]
        clear HTB HTS HST HPB HS2 HBA0 HL HBE hc3 hc7
        generalize w2.drewN nq = w3 at *
        have HP4 : Hid (part.length = part.length) := Lib.hid rfl
        by_cases hn8 : n < 8 * part.length
        · have HTL : Hid ((turnTo n mask 32 part).length = part.length) := Lib.hid ((turnTo_len n mask 32 part).trans HP4.out)
          have HTC := Lib.hid (fun W h => by have h2 := turn_calls b3 d3 part HPN.out (by have := HP4.out; omega) n (by have := HP4.out; omega) mask W h; skip; exact h2)
          have HDT := Lib.hid (HDATA.out _ rfl)
          generalize turnTo n mask 32 part = other at *
          have hn9 : (n : Int) < 8 * (part.length : Int) := by omega
          go_wp2_with fail
          refine (HTC.out _ HPB3.out).mono ?_
          rintro e w4 ⟨v4, rfl, ho4, hs4, g, cap, rfl⟩
          have HO4 := Lib.hid ho4
          have HS4 := Lib.hid hs4
          have HPB4 : Hid (Bs w4 b3 part) := Lib.hid (HPB3.out.st hs4 (Dj.no _))
          clear ho4 hs4
          go_wp2_with fail
          have hsame := same_calls b3 d3 part (some ⟨g, 0, none⟩) cap other (by have := HP4.out; unfold maxLen; omega) (by have := HTL.out; unfold maxLen; omega) w4 HPB4.out HO4.out.bs
          skip
          refine hsame.mono ?_
          rintro e w5 ⟨rfl, hd5⟩
          have HD5 := Lib.hid hd5
          clear hd5
          by_cases heq : part = other
          · rw [decide_eq_true heq]
            clear heq
            go_wp2
            go_ret
            exact ⟨rfl, (HST3.out.trans (HS4.out.drop (G' := No) (fun _ h => h.elim)) |>.trans (HD5.out.st No)).below⟩
          · rw [decide_eq_false heq]
            have HDT2 := Lib.hid (HDT.out heq)
            clear heq
            have HB5 : Hid (Bs w5 (some y1) all) := Lib.hid ((HBA.out.st HS4.out (Dj.no _)).st (HD5.out.st No) (Dj.no _))
            have HO5 : Hid (OwB w5 (.slice (some ⟨g, 0, none⟩) other.length cap) other) := Lib.hid (HO4.out.move (fun k _ => by rw [HD5.out.heap]))
            have HL5 : Hid (Lists w5 (some x3) L) := Lib.hid ((HL3.out.st (HS4.out.drop (G' := No) (fun _ h => h.elim))).st (HD5.out.st No))
            have HST5 : Hid (St No w No w5) := Lib.hid ((HST3.out.trans (HS4.out.drop (G' := No) (fun _ h => h.elim))).trans (HD5.out.st No))
            clear HTC HDT HPB3 HPB4 HO4 HS4 HD5 HST3 HL3 HBA
            go_wp2
            obtain ⟨d1, hd1⟩ : ∃ d1, all.take (ei + 8) ++ other = d1 := ⟨_, rfl⟩
            have hd1l : d1.length = (ei + 8) + other.length := by rw [← hd1]; simp; omega
            have HTW1 : Hid (∀ W : World, W.heap = w5.heap → Calls Try.prog 29 #[.slice (some y1) (ei + 8) c1, .slice (some ⟨g, 0, none⟩) other.length cap] W fun e w' => ∃ v, e = .returned v ∧ OwB w' v d1 ∧ St No W (fpV v) w' ∧ ∃ g cap, v = .slice (some ⟨g, 0, none⟩) d1.length cap) := Lib.hid (fun W hW => by
              have h := two_calls (some y1) c1 (all.take (ei + 8)) (some ⟨g, 0, none⟩) cap other (fun h => by cases h) (fun h => by cases h) (by have := HTL.out; rw [List.length_take]; omega) W ((HB5.out.take _).move (fun _ _ => by rw [hW])) (HO5.out.bs.move (fun _ _ => by rw [hW]))
              rw [hd1, show (all.take (ei + 8)).length = (ei + 8) by rw [List.length_take]; omega] at h
              exact h)
            have HD1 := Lib.hid hd1
            have HD1L := Lib.hid hd1l
            obtain ⟨dat, hdat⟩ : ∃ dat, d1 ++ all.drop ((ei + 8) + part.length) = dat := ⟨_, rfl⟩
            have hdatl : dat.length = d1.length + (all.length - ((ei + 8) + part.length)) := by rw [← hdat]; simp
            have HDATL : Hid (dat.length ≤ 4294967296) := Lib.hid (by have := HTL.out; omega)
            have HTW2 : Hid (∀ (W : World) (g1 cp m2 cc : Nat) (A2 : Option Addr), m2 = all.length - ((ei + 8) + part.length) → (A2 = none → cc = 0) → Bs W A2 (all.drop ((ei + 8) + part.length)) → OwB W (.slice (some ⟨g1, 0, none⟩) d1.length cp) d1 →
                Calls Try.prog 29 #[.slice (some ⟨g1, 0, none⟩) d1.length cp, .slice A2 m2 cc] W fun e w' => ∃ v, e = .returned v ∧ OwB w' v dat ∧ St No W (fpV v) w' ∧ ∃ g cap, v = .slice (some ⟨g, 0, none⟩) dat.length cap) := Lib.hid (fun W g1 cp m2 cc A2 hm2 hcc hB hO => by
              have h := two_calls (some ⟨g1, 0, none⟩) cp d1 A2 cc (all.drop ((ei + 8) + part.length)) (fun h => by cases h) hcc (by have := HTL.out; simp; omega) W hO.bs hB
              rw [hdat, show (all.drop ((ei + 8) + part.length)).length = m2 by simp; omega] at h
              exact h)
            have HDF : Hid (framesB dat.length dat = (L.take i, ei, 27)) := Lib.hid (by rw [← hdat, ← hd1]; exact HDT2.out)
            clear hd1 hd1l hdat hdatl HDT2
            have HB5D : Hid (Bs w5.drew (some (y1.add ((ei + 8) + part.length))) (all.drop ((ei + 8) + part.length))) := Lib.hid ((HB5.out.drop _).move (fun _ _ => rfl))
            have HB5E : Hid (all.length = (ei + 8) + part.length → Bs w5.drew (some y1) (all.drop ((ei + 8) + part.length))) := Lib.hid (fun h => by rw [← h, List.drop_length]; exact Rd.nil _ _)
            have HN1D : Hid ((some (y1.add ((ei + 8) + part.length))) = none → c1 - ((ei + 8) + part.length) = 0) := Lib.hid (fun h => by cases h)
            have hlo1 : (ei + 8) + part.length ≤ c1 := by omega
            have hwr : IntKind.i64.wrap ((ei : Int) + 8 + (part.length : Int)) = (((ei + 8) + part.length : Nat) : Int) := by rw [IntKind.wrap_i64]; omega
            by_cases hcc : c1 = (ei + 8) + part.length
            · have HEQ : Hid (all.length = (ei + 8) + part.length) := Lib.hid (by omega)
              subst hcc
              go_region_with (first
                | (go_at_call 29; refine (HTW2.out _ _ _ _ _ _ (by omega) (fun _ => by omega) ((HB5E.out HEQ.out).st HS6.out (Dj.no _)) HO6.out).mono ?_; rintro e w7 ⟨v7, rfl, ho7, hs7, g7, cap7, rfl⟩; have HO7 := Lib.hid ho7; have HS7 := Lib.hid hs7; clear ho7 hs7)
                | (go_at_call 29; refine (HTW1.out w5.drew rfl).mono ?_; clear HTW1; rintro e w6 ⟨v6, rfl, ho6, hs6, g6, cap6, rfl⟩; have HO6 := Lib.hid ho6; have HS6 := Lib.hid hs6; clear ho6 hs6))
              all_goals (
                have hlk : (L.take i).length = i := by rw [List.length_take]; omega
                have hfr := frames_calls (some ⟨g7, 0, none⟩) cap7 dat HDATL.out w7 HO7.out.bs
                unfold FramesPost at hfr
                rw [HDF.out] at hfr
                simp only at hfr
                have HFR := Lib.hid hfr
                have HLK := Lib.hid hlk
                have HS57 : Hid (St No w No w7) := Lib.hid (((HST5.out.trans (St.drew No w5)).trans (HS6.out.drop (G' := No) (fun _ h => h.elim))).trans (HS7.out.drop (G' := No) (fun _ h => h.elim)))
                have HL7 : Hid (Lists w7 (some x3) L) := Lib.hid (((HL5.out.st (St.drew No w5)).st (HS6.out.drop (G' := No) (fun _ h => h.elim))).st (HS7.out.drop (G' := No) (fun _ h => h.elim)))
                clear hfr hlk HS6 HS7 HO6 HST5 HL5 HTW2 HB5D HB5E HN1D HB5 HO5
                go_wp2_with fail
                refine HFR.out.mono ?_
                rintro e w8 ⟨V8, D8, rfl, ho8, hs8⟩
                obtain ⟨a8, c8, rfl⟩ := ho8.form
                have HB8 := Lib.hid ho8
                have HL8 := Lib.hid (HL7.out.st hs8)
                have HST8 : Hid (St No w No w8) := Lib.hid (HS57.out.trans hs8)
                clear ho8 hs8 HFR HL7 HS57
                rw [HLK.out]
                go_wp2_with (go_at_call 32; refine (num_calls 27 _).mono ?_; rintro e w9 ⟨rfl, rfl⟩)
                go_loopw [22] (fun j wr => ∃ k : Nat, k ≤ i ∧ j = .int .i64 k ∧ Hid (Dr w8 wr)) (fun j _ => i - (intOf j).toNat)
                case atStart => exact ⟨0, by omega, rfl, Lib.hid (Dr.refl _)⟩
                case round =>
                  obtain ⟨k, hk, rfl, HDQ⟩ := hrel
                  by_cases hjk : k < i
                  · obtain ⟨x5, b5, d5, body, hbody, hx5, hc5, hb5, _, hl5⟩ := (HL8.out.st (HDQ.out.st No)).at (k := k) (by omega)
                    cases hx5
                    obtain ⟨x6, b6, d6, rfl, hc6, hb6⟩ := (HB8.out.st (HDQ.out.st No) (Dj.no _) (Dj.no _)).at (i := k) (body := body) (by rw [List.getElem?_take, if_pos hjk]; exact hbody)
                    have HSM : Hid (∀ n, Calls Try.prog 17 #[.slice b6 body.length d6, .slice b5 body.length d5] (wr.drewN n) fun e w'' => e = .returned (.bool true) ∧ ∃ m, w'' = wr.drewN m) :=
                      Lib.hid (fun n => (same_one b6 d6 body b5 d5 (by unfold maxLen; omega) (wr.drewN n) (hb6.move (fun _ _ => rfl)) (hb5.move (fun _ _ => rfl))).mono fun e w' ⟨he, hd⟩ => ⟨he, ((Dr.one n).trans hd).out⟩)
                    have hlt2 : (k : Int) < (i : Int) := by omega
                    have hlt3 : (k : Int) < (L.length : Int) := by omega
                    clear hbody hb5 hb6
                    go_wp2
                    go_quiet ((go_at_call 17; exact HSM.out _))
                    go_wp2
                    exact ⟨⟨k + 1, by omega, by go_num, Lib.hid (HDQ.out.drewN nq)⟩, by simp [intOf]; omega⟩
                  · obtain rfl : k = i := by omega
                    go_wp2
                    go_ret
                    exact ⟨rfl, (HST8.out.trans (HDQ.out.st No)).below⟩
              )
            · go_region_with (first
                | (go_at_call 29; refine (HTW2.out _ _ _ _ _ _ rfl HN1D.out (HB5D.out.st HS6.out (Dj.no _)) HO6.out).mono ?_; rintro e w7 ⟨v7, rfl, ho7, hs7, g7, cap7, rfl⟩; have HO7 := Lib.hid ho7; have HS7 := Lib.hid hs7; clear ho7 hs7)
                | (go_at_call 29; refine (HTW1.out w5.drew rfl).mono ?_; clear HTW1; rintro e w6 ⟨v6, rfl, ho6, hs6, g6, cap6, rfl⟩; have HO6 := Lib.hid ho6; have HS6 := Lib.hid hs6; clear ho6 hs6))
              all_goals (
                have hlk : (L.take i).length = i := by rw [List.length_take]; omega
                have hfr := frames_calls (some ⟨g7, 0, none⟩) cap7 dat HDATL.out w7 HO7.out.bs
                unfold FramesPost at hfr
                rw [HDF.out] at hfr
                simp only at hfr
                have HFR := Lib.hid hfr
                have HLK := Lib.hid hlk
                have HS57 : Hid (St No w No w7) := Lib.hid (((HST5.out.trans (St.drew No w5)).trans (HS6.out.drop (G' := No) (fun _ h => h.elim))).trans (HS7.out.drop (G' := No) (fun _ h => h.elim)))
                have HL7 : Hid (Lists w7 (some x3) L) := Lib.hid (((HL5.out.st (St.drew No w5)).st (HS6.out.drop (G' := No) (fun _ h => h.elim))).st (HS7.out.drop (G' := No) (fun _ h => h.elim)))
                clear hfr hlk HS6 HS7 HO6 HST5 HL5 HTW2 HB5D HB5E HN1D HB5 HO5
                go_wp2_with fail
                refine HFR.out.mono ?_
                rintro e w8 ⟨V8, D8, rfl, ho8, hs8⟩
                obtain ⟨a8, c8, rfl⟩ := ho8.form
                have HB8 := Lib.hid ho8
                have HL8 := Lib.hid (HL7.out.st hs8)
                have HST8 : Hid (St No w No w8) := Lib.hid (HS57.out.trans hs8)
                clear ho8 hs8 HFR HL7 HS57
                rw [HLK.out]
                go_wp2_with (go_at_call 32; refine (num_calls 27 _).mono ?_; rintro e w9 ⟨rfl, rfl⟩)
                go_loopw [22] (fun j wr => ∃ k : Nat, k ≤ i ∧ j = .int .i64 k ∧ Hid (Dr w8 wr)) (fun j _ => i - (intOf j).toNat)
                case atStart => exact ⟨0, by omega, rfl, Lib.hid (Dr.refl _)⟩
                case round =>
                  obtain ⟨k, hk, rfl, HDQ⟩ := hrel
                  by_cases hjk : k < i
                  · obtain ⟨x5, b5, d5, body, hbody, hx5, hc5, hb5, _, hl5⟩ := (HL8.out.st (HDQ.out.st No)).at (k := k) (by omega)
                    cases hx5
                    obtain ⟨x6, b6, d6, rfl, hc6, hb6⟩ := (HB8.out.st (HDQ.out.st No) (Dj.no _) (Dj.no _)).at (i := k) (body := body) (by rw [List.getElem?_take, if_pos hjk]; exact hbody)
                    have HSM : Hid (∀ n, Calls Try.prog 17 #[.slice b6 body.length d6, .slice b5 body.length d5] (wr.drewN n) fun e w'' => e = .returned (.bool true) ∧ ∃ m, w'' = wr.drewN m) :=
                      Lib.hid (fun n => (same_one b6 d6 body b5 d5 (by unfold maxLen; omega) (wr.drewN n) (hb6.move (fun _ _ => rfl)) (hb5.move (fun _ _ => rfl))).mono fun e w' ⟨he, hd⟩ => ⟨he, ((Dr.one n).trans hd).out⟩)
                    have hlt2 : (k : Int) < (i : Int) := by omega
                    have hlt3 : (k : Int) < (L.length : Int) := by omega
                    clear hbody hb5 hb6
                    go_wp2
                    go_quiet ((go_at_call 17; exact HSM.out _))
                    go_wp2
                    exact ⟨⟨k + 1, by omega, by go_num, Lib.hid (HDQ.out.drewN nq)⟩, by simp [intOf]; omega⟩
                  · obtain rfl : k = i := by omega
                    go_wp2
                    go_ret
                    exact ⟨rfl, (HST8.out.trans (HDQ.out.st No)).below⟩
              )
        · have hn9 : ¬ (n : Int) < 8 * (part.length : Int) := by omega
          go_wp2
          go_ret
          exact ⟨rfl, HST3.out.below⟩
      | true =>
        have HP4 : Hid ((sumB part).length = 4) := Lib.hid (sumB_len part)
        have HDATA : Hid (∀ o, o = turnTo n mask 32 (sumB part) → ¬ sumB part = o → framesB ((all.take (ei + 4) ++ o) ++ all.drop (ei + 8)).length ((all.take (ei + 4) ++ o) ++ all.drop (ei + 8)) = (L.take i, ei, 27)) := Lib.hid (by
          have h := HTS.out n mask
          rw [HP4.out] at h
          exact h)
        have hfl : ei + 8 ≤ all.length := by omega
        go_wp2
        go_quiet (fail)
        have HPB3 : Hid (Bs (w2.drewN nq) (some (y1.add (ei + 4))) (sumB part)) := Lib.hid (by
          have h := (HBA0.out.drop (ei + 4)).take 4
          rw [HST.out] at h
          exact h.move (fun _ _ => rfl))
        have HPN4 : Hid ((some (y1.add (ei + 4)) : Option Addr) = none → c1 - (ei + 4) = 0) := Lib.hid (fun h => by cases h)
        have HST3 : Hid (St No w No (w2.drewN nq)) := Lib.hid (HS2.out.trans (St.drewN No w2 nq))
        have HBA : Hid (Bs (w2.drewN nq) (some y1) all) := Lib.hid (HBA0.out.move (fun _ _ => rfl))
        have HL3 : Hid (Lists (w2.drewN nq) (some x3) L) := Lib.hid (HL.out.st (St.drewN No w2 nq))
        have hc4 : (w2.drewN nq).cell? (x3.add i) = some (.slice b3 part.length d3) := hc3
        rw [show (ei : Int) + (8 + (part.length : Int)) - (part.length : Int) - 8 = (ei : Int) by omega]
        have hwr2 : IntKind.i64.wrap ((ei : Int) + 8) = ((ei + 8 : Nat) : Int) := by rw [IntKind.wrap_i64]; omega
        have hcl : ¬ c1 = ei + 4 := by omega
        clear HTB HTS HST HPB HS2 HBA0 HL HBE hc3 hc7 HPN
        generalize w2.drewN nq = w3 at *
        generalize sumB part = p4 at *
        by_cases hn8 : n < 8 * 4
        · have HTL : Hid ((turnTo n mask 32 p4).length = 4) := Lib.hid ((turnTo_len n mask 32 p4).trans HP4.out)
          have HTC := Lib.hid (fun W h => by have h2 := turn_calls (some (y1.add (ei + 4))) (c1 - (ei + 4)) p4 HPN4.out (by have := HP4.out; omega) n (by have := HP4.out; omega) mask W h; rw [HP4.out] at h2; exact h2)
          have HDT := Lib.hid (HDATA.out _ rfl)
          generalize turnTo n mask 32 p4 = other at *
          have hn9 : (n : Int) < 32 := by omega
          go_wp2_with fail
          refine (HTC.out _ HPB3.out).mono ?_
          rintro e w4 ⟨v4, rfl, ho4, hs4, g, cap, rfl⟩
          have HO4 := Lib.hid ho4
          have HS4 := Lib.hid hs4
          have HPB4 : Hid (Bs w4 (some (y1.add (ei + 4))) p4) := Lib.hid (HPB3.out.st hs4 (Dj.no _))
          clear ho4 hs4
          go_wp2_with fail
          have hsame := same_calls (some (y1.add (ei + 4))) (c1 - (ei + 4)) p4 (some ⟨g, 0, none⟩) cap other (by have := HP4.out; unfold maxLen; omega) (by have := HTL.out; unfold maxLen; omega) w4 HPB4.out HO4.out.bs
          rw [HP4.out] at hsame
          refine hsame.mono ?_
          rintro e w5 ⟨rfl, hd5⟩
          have HD5 := Lib.hid hd5
          clear hd5
          by_cases heq : p4 = other
          · rw [decide_eq_true heq]
            clear heq
            go_wp2
            go_ret
            exact ⟨rfl, (HST3.out.trans (HS4.out.drop (G' := No) (fun _ h => h.elim)) |>.trans (HD5.out.st No)).below⟩
          · rw [decide_eq_false heq]
            have HDT2 := Lib.hid (HDT.out heq)
            clear heq
            have HB5 : Hid (Bs w5 (some y1) all) := Lib.hid ((HBA.out.st HS4.out (Dj.no _)).st (HD5.out.st No) (Dj.no _))
            have HO5 : Hid (OwB w5 (.slice (some ⟨g, 0, none⟩) other.length cap) other) := Lib.hid (HO4.out.move (fun k _ => by rw [HD5.out.heap]))
            have HL5 : Hid (Lists w5 (some x3) L) := Lib.hid ((HL3.out.st (HS4.out.drop (G' := No) (fun _ h => h.elim))).st (HD5.out.st No))
            have HST5 : Hid (St No w No w5) := Lib.hid ((HST3.out.trans (HS4.out.drop (G' := No) (fun _ h => h.elim))).trans (HD5.out.st No))
            clear HTC HDT HPB3 HPB4 HO4 HS4 HD5 HST3 HL3 HBA
            go_wp2
            obtain ⟨d1, hd1⟩ : ∃ d1, all.take (ei + 4) ++ other = d1 := ⟨_, rfl⟩
            have hd1l : d1.length = (ei + 4) + other.length := by rw [← hd1]; simp; omega
            have HTW1 : Hid (∀ W : World, W.heap = w5.heap → Calls Try.prog 29 #[.slice (some y1) (ei + 4) c1, .slice (some ⟨g, 0, none⟩) other.length cap] W fun e w' => ∃ v, e = .returned v ∧ OwB w' v d1 ∧ St No W (fpV v) w' ∧ ∃ g cap, v = .slice (some ⟨g, 0, none⟩) d1.length cap) := Lib.hid (fun W hW => by
              have h := two_calls (some y1) c1 (all.take (ei + 4)) (some ⟨g, 0, none⟩) cap other (fun h => by cases h) (fun h => by cases h) (by have := HTL.out; rw [List.length_take]; omega) W ((HB5.out.take _).move (fun _ _ => by rw [hW])) (HO5.out.bs.move (fun _ _ => by rw [hW]))
              rw [hd1, show (all.take (ei + 4)).length = (ei + 4) by rw [List.length_take]; omega] at h
              exact h)
            have HD1 := Lib.hid hd1
            have HD1L := Lib.hid hd1l
            obtain ⟨dat, hdat⟩ : ∃ dat, d1 ++ all.drop (ei + 8) = dat := ⟨_, rfl⟩
            have hdatl : dat.length = d1.length + (all.length - (ei + 8)) := by rw [← hdat]; simp
            have HDATL : Hid (dat.length ≤ 4294967296) := Lib.hid (by have := HTL.out; omega)
            have HTW2 : Hid (∀ (W : World) (g1 cp m2 cc : Nat) (A2 : Option Addr), m2 = all.length - (ei + 8) → (A2 = none → cc = 0) → Bs W A2 (all.drop (ei + 8)) → OwB W (.slice (some ⟨g1, 0, none⟩) d1.length cp) d1 →
                Calls Try.prog 29 #[.slice (some ⟨g1, 0, none⟩) d1.length cp, .slice A2 m2 cc] W fun e w' => ∃ v, e = .returned v ∧ OwB w' v dat ∧ St No W (fpV v) w' ∧ ∃ g cap, v = .slice (some ⟨g, 0, none⟩) dat.length cap) := Lib.hid (fun W g1 cp m2 cc A2 hm2 hcc hB hO => by
              have h := two_calls (some ⟨g1, 0, none⟩) cp d1 A2 cc (all.drop (ei + 8)) (fun h => by cases h) hcc (by have := HTL.out; simp; omega) W hO.bs hB
              rw [hdat, show (all.drop (ei + 8)).length = m2 by simp; omega] at h
              exact h)
            have HDF : Hid (framesB dat.length dat = (L.take i, ei, 27)) := Lib.hid (by rw [← hdat, ← hd1]; exact HDT2.out)
            clear hd1 hd1l hdat hdatl HDT2
            have HB5D : Hid (Bs w5.drew (some (y1.add (ei + 8))) (all.drop (ei + 8))) := Lib.hid ((HB5.out.drop _).move (fun _ _ => rfl))
            have HB5E : Hid (all.length = ei + 8 → Bs w5.drew (some y1) (all.drop (ei + 8))) := Lib.hid (fun h => by rw [← h, List.drop_length]; exact Rd.nil _ _)
            have HN1D : Hid ((some (y1.add (ei + 8))) = none → c1 - (ei + 8) = 0) := Lib.hid (fun h => by cases h)
            have hlo1 : ei + 8 ≤ c1 := by omega
            have hwr : IntKind.i64.wrap ((ei : Int) + 4 + 4) = ((ei + 8 : Nat) : Int) := by rw [IntKind.wrap_i64]; omega
            by_cases hcc : c1 = ei + 8
            · have HEQ : Hid (all.length = ei + 8) := Lib.hid (by omega)
              subst hcc
              go_region_with (first
                | (go_at_call 29; refine (HTW2.out _ _ _ _ _ _ (by omega) (fun _ => by omega) ((HB5E.out HEQ.out).st HS6.out (Dj.no _)) HO6.out).mono ?_; rintro e w7 ⟨v7, rfl, ho7, hs7, g7, cap7, rfl⟩; have HO7 := Lib.hid ho7; have HS7 := Lib.hid hs7; clear ho7 hs7)
                | (go_at_call 29; refine (HTW1.out w5.drew rfl).mono ?_; clear HTW1; rintro e w6 ⟨v6, rfl, ho6, hs6, g6, cap6, rfl⟩; have HO6 := Lib.hid ho6; have HS6 := Lib.hid hs6; clear ho6 hs6))
              all_goals (
                have hlk : (L.take i).length = i := by rw [List.length_take]; omega
                have hfr := frames_calls (some ⟨g7, 0, none⟩) cap7 dat HDATL.out w7 HO7.out.bs
                unfold FramesPost at hfr
                rw [HDF.out] at hfr
                simp only at hfr
                have HFR := Lib.hid hfr
                have HLK := Lib.hid hlk
                have HS57 : Hid (St No w No w7) := Lib.hid (((HST5.out.trans (St.drew No w5)).trans (HS6.out.drop (G' := No) (fun _ h => h.elim))).trans (HS7.out.drop (G' := No) (fun _ h => h.elim)))
                have HL7 : Hid (Lists w7 (some x3) L) := Lib.hid (((HL5.out.st (St.drew No w5)).st (HS6.out.drop (G' := No) (fun _ h => h.elim))).st (HS7.out.drop (G' := No) (fun _ h => h.elim)))
                clear hfr hlk HS6 HS7 HO6 HST5 HL5 HTW2 HB5D HB5E HN1D HB5 HO5
                go_wp2_with fail
                refine HFR.out.mono ?_
                rintro e w8 ⟨V8, D8, rfl, ho8, hs8⟩
                obtain ⟨a8, c8, rfl⟩ := ho8.form
                have HB8 := Lib.hid ho8
                have HL8 := Lib.hid (HL7.out.st hs8)
                have HST8 : Hid (St No w No w8) := Lib.hid (HS57.out.trans hs8)
                clear ho8 hs8 HFR HL7 HS57
                rw [HLK.out]
                go_wp2_with (go_at_call 32; refine (num_calls 27 _).mono ?_; rintro e w9 ⟨rfl, rfl⟩)
                go_loopw [22] (fun j wr => ∃ k : Nat, k ≤ i ∧ j = .int .i64 k ∧ Hid (Dr w8 wr)) (fun j _ => i - (intOf j).toNat)
                case atStart => exact ⟨0, by omega, rfl, Lib.hid (Dr.refl _)⟩
                case round =>
                  obtain ⟨k, hk, rfl, HDQ⟩ := hrel
                  by_cases hjk : k < i
                  · obtain ⟨x5, b5, d5, body, hbody, hx5, hc5, hb5, _, hl5⟩ := (HL8.out.st (HDQ.out.st No)).at (k := k) (by omega)
                    cases hx5
                    obtain ⟨x6, b6, d6, rfl, hc6, hb6⟩ := (HB8.out.st (HDQ.out.st No) (Dj.no _) (Dj.no _)).at (i := k) (body := body) (by rw [List.getElem?_take, if_pos hjk]; exact hbody)
                    have HSM : Hid (∀ n, Calls Try.prog 17 #[.slice b6 body.length d6, .slice b5 body.length d5] (wr.drewN n) fun e w'' => e = .returned (.bool true) ∧ ∃ m, w'' = wr.drewN m) :=
                      Lib.hid (fun n => (same_one b6 d6 body b5 d5 (by unfold maxLen; omega) (wr.drewN n) (hb6.move (fun _ _ => rfl)) (hb5.move (fun _ _ => rfl))).mono fun e w' ⟨he, hd⟩ => ⟨he, ((Dr.one n).trans hd).out⟩)
                    have hlt2 : (k : Int) < (i : Int) := by omega
                    have hlt3 : (k : Int) < (L.length : Int) := by omega
                    clear hbody hb5 hb6
                    go_wp2
                    go_quiet ((go_at_call 17; exact HSM.out _))
                    go_wp2
                    exact ⟨⟨k + 1, by omega, by go_num, Lib.hid (HDQ.out.drewN nq)⟩, by simp [intOf]; omega⟩
                  · obtain rfl : k = i := by omega
                    go_wp2
                    go_ret
                    exact ⟨rfl, (HST8.out.trans (HDQ.out.st No)).below⟩
              )
            · go_region_with (first
                | (go_at_call 29; refine (HTW2.out _ _ _ _ _ _ rfl HN1D.out (HB5D.out.st HS6.out (Dj.no _)) HO6.out).mono ?_; rintro e w7 ⟨v7, rfl, ho7, hs7, g7, cap7, rfl⟩; have HO7 := Lib.hid ho7; have HS7 := Lib.hid hs7; clear ho7 hs7)
                | (go_at_call 29; refine (HTW1.out w5.drew rfl).mono ?_; clear HTW1; rintro e w6 ⟨v6, rfl, ho6, hs6, g6, cap6, rfl⟩; have HO6 := Lib.hid ho6; have HS6 := Lib.hid hs6; clear ho6 hs6))
              all_goals (
                have hlk : (L.take i).length = i := by rw [List.length_take]; omega
                have hfr := frames_calls (some ⟨g7, 0, none⟩) cap7 dat HDATL.out w7 HO7.out.bs
                unfold FramesPost at hfr
                rw [HDF.out] at hfr
                simp only at hfr
                have HFR := Lib.hid hfr
                have HLK := Lib.hid hlk
                have HS57 : Hid (St No w No w7) := Lib.hid (((HST5.out.trans (St.drew No w5)).trans (HS6.out.drop (G' := No) (fun _ h => h.elim))).trans (HS7.out.drop (G' := No) (fun _ h => h.elim)))
                have HL7 : Hid (Lists w7 (some x3) L) := Lib.hid (((HL5.out.st (St.drew No w5)).st (HS6.out.drop (G' := No) (fun _ h => h.elim))).st (HS7.out.drop (G' := No) (fun _ h => h.elim)))
                clear hfr hlk HS6 HS7 HO6 HST5 HL5 HTW2 HB5D HB5E HN1D HB5 HO5
                go_wp2_with fail
                refine HFR.out.mono ?_
                rintro e w8 ⟨V8, D8, rfl, ho8, hs8⟩
                obtain ⟨a8, c8, rfl⟩ := ho8.form
                have HB8 := Lib.hid ho8
                have HL8 := Lib.hid (HL7.out.st hs8)
                have HST8 : Hid (St No w No w8) := Lib.hid (HS57.out.trans hs8)
                clear ho8 hs8 HFR HL7 HS57
                rw [HLK.out]
                go_wp2_with (go_at_call 32; refine (num_calls 27 _).mono ?_; rintro e w9 ⟨rfl, rfl⟩)
                go_loopw [22] (fun j wr => ∃ k : Nat, k ≤ i ∧ j = .int .i64 k ∧ Hid (Dr w8 wr)) (fun j _ => i - (intOf j).toNat)
                case atStart => exact ⟨0, by omega, rfl, Lib.hid (Dr.refl _)⟩
                case round =>
                  obtain ⟨k, hk, rfl, HDQ⟩ := hrel
                  by_cases hjk : k < i
                  · obtain ⟨x5, b5, d5, body, hbody, hx5, hc5, hb5, _, hl5⟩ := (HL8.out.st (HDQ.out.st No)).at (k := k) (by omega)
                    cases hx5
                    obtain ⟨x6, b6, d6, rfl, hc6, hb6⟩ := (HB8.out.st (HDQ.out.st No) (Dj.no _) (Dj.no _)).at (i := k) (body := body) (by rw [List.getElem?_take, if_pos hjk]; exact hbody)
                    have HSM : Hid (∀ n, Calls Try.prog 17 #[.slice b6 body.length d6, .slice b5 body.length d5] (wr.drewN n) fun e w'' => e = .returned (.bool true) ∧ ∃ m, w'' = wr.drewN m) :=
                      Lib.hid (fun n => (same_one b6 d6 body b5 d5 (by unfold maxLen; omega) (wr.drewN n) (hb6.move (fun _ _ => rfl)) (hb5.move (fun _ _ => rfl))).mono fun e w' ⟨he, hd⟩ => ⟨he, ((Dr.one n).trans hd).out⟩)
                    have hlt2 : (k : Int) < (i : Int) := by omega
                    have hlt3 : (k : Int) < (L.length : Int) := by omega
                    clear hbody hb5 hb6
                    go_wp2
                    go_quiet ((go_at_call 17; exact HSM.out _))
                    go_wp2
                    exact ⟨⟨k + 1, by omega, by go_num, Lib.hid (HDQ.out.drewN nq)⟩, by simp [intOf]; omega⟩
                  · obtain rfl : k = i := by omega
                    go_wp2
                    go_ret
                    exact ⟨rfl, (HST8.out.trans (HDQ.out.st No)).below⟩
              )
        · have hn9 : ¬ (n : Int) < 32 := by omega
          go_wp2
          go_ret
          exact ⟨rfl, HST3.out.below⟩
end Go.Proofs.Ytfhoekcmkbeabaa
