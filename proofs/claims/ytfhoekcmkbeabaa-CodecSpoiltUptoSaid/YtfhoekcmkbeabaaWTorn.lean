
/-
  The walk over the statement CodecTorn.
-/
import Derived.Test.YtfhoekcmkbeabaaCwFramed
import Derived.Test.YtfhoekcmkbeabaaCwFrames
namespace Go.Proofs.Ytfhoekcmkbeabaa
open Go.RowKit
set_option linter.unusedVariables false
set_option linter.unusedSimpArgs false

theorem same_one (a : Option Addr) (c : Nat) (xs : List B8) (b : Option Addr) (d : Nat) (hx : xs.length ≤ maxLen) (w : World) (ha : Bs w a xs) (hb : Bs w b xs) :
    Calls Try.prog 17 #[.slice a xs.length c, .slice b xs.length d] w fun e w' => e = .returned (.bool true) ∧ Dr w w' :=
  (same_calls a c xs b d xs hx hx w ha hb).mono fun e w' h => by rw [decide_eq_true rfl] at h; exact h
def endN (L : List (List B8)) (k : Nat) : Nat := (flatB (L.take k)).length

set_option maxRecDepth 100000 in
set_option maxHeartbeats 8000000 in
theorem torn_walk (a : Option Addr) (c : Nat) (L : List (List B8)) (hs : sumLen L ≤ 9437184) (cut : Int) (w : World) (h : Lists w a L) :
    Calls Try.prog 9 #[.slice a L.length c, .int .i64 cut] w fun e w' => e = .returned (.bool true) ∧ Below w.heap.size w w' := by
  have hm := sum_many L
  have hmL : L.length ≤ 9437184 := by omega
  have HL0 := Lib.hid h
  clear h
  have HFT := Lib.hid (bodsFit_calls a c L (by omega) w HL0.out)
  go_enter Try.func9, Try.ntmps9
  cases hf : fitsB L with
  | false =>
    rw [hf] at HFT
    go_wp2_with fail
    refine HFT.out.mono ?_
    rintro e w1 ⟨rfl, hd1⟩
    have HD1 := Lib.hid hd1
    clear hd1
    go_wp2
    go_ret
    exact ⟨rfl, (HD1.out.st No).below⟩
  | true =>
    rw [hf] at HFT
    go_wp2_with fail
    refine HFT.out.mono ?_
    rintro e w1 ⟨rfl, hd1⟩
    have HL1 := Lib.hid (HL0.out.st (hd1.st No))
    have HD1 := Lib.hid hd1
    clear hd1
    have HFM := Lib.hid (framed_calls a c L hs hf w1 HL1.out)
    have hal := flatB_sum L
    rw [← hal] at hs
    have HTORN : Hid (∀ cn k, cn ≤ (flatB L).length → k ≤ L.length → endN L k ≤ cn → (k = L.length ∨ cn < endN L (k + 1)) → framesB cn ((flatB L).take cn) = (L.take k, endN L k, if endN L k = cn then 0 else 21)) := Lib.hid (by
      intro cn k h1 h2 h3 h4
      have := torn L cn k ((fitsB_iff L).1 hf) h1 h2 h3 h4
      have e : ((flatB L).take cn).length = cn := by rw [List.length_take]; omega
      rw [e] at this
      exact this)
    clear hal hf hm
    go_wp2_with fail
    refine HFM.out.mono ?_
    rintro e w2 ⟨Va, Ve, rfl, hoa, hoe, hs2, a1, c1, a2, c2, rfl, rfl, hn1⟩
    have HBE : Hid (Rd w2 a2 (endsV L L.length)) := Lib.hid hoe.rd
    have HS2 : Hid (St No w No w2) := Lib.hid ((HD1.out.st No).trans hs2)
    have HL : Hid (Lists w2 a L) := Lib.hid (HL1.out.st hs2)
    have hcap : (flatB L).length ≤ c1 := by
      obtain ⟨_, _, e, h1, _⟩ := hoa.form
      cases e
      exact h1
    have hcm : c1 ≤ maxLen := by
      obtain ⟨_, _, e, _, h1, _⟩ := hoa.form
      cases e
      exact h1
    unfold maxLen at hcm
    have HBA : Hid (Bs w2 a1 (flatB L)) := Lib.hid hoa.bs
    clear hoa hoe hs2 hn1 HFM HFT HD1 HL1 HL0
    generalize flatB L = all at *
    obtain ⟨cn, hcn, hcase⟩ : ∃ cn : Nat, cn ≤ all.length ∧ (((cut < 0 ∨ (¬ cut < 0 ∧ (all.length : Int) < cut)) ∧ cn = all.length) ∨ (¬ cut < 0 ∧ ¬ (all.length : Int) < cut ∧ cut = (cn : Int))) := by
      by_cases h1 : cut < 0
      · exact ⟨all.length, Nat.le_refl _, .inl ⟨.inl h1, rfl⟩⟩
      · by_cases h2 : (all.length : Int) < cut
        · exact ⟨all.length, Nat.le_refl _, .inl ⟨.inr ⟨h1, h2⟩, rfl⟩⟩
        · exact ⟨cut.toNat, by omega, .inr ⟨h1, h2, by omega⟩⟩
    rcases hcase with ⟨h1 | ⟨h1, h2⟩, h3⟩ | ⟨h1, h2, rfl⟩
    · have HCN : Hid ((all.length : Int) = (cn : Int)) := Lib.hid (by rw [h3])
      clear h3
      go_wp2
      rw [HCN.out]
      go_loopw [8, 9] (fun K E wr => ∃ k : Nat, k ≤ L.length ∧ K = .int .i64 (k : Int) ∧ E = .int .i64 (endN L k : Int) ∧ Hid (endN L k ≤ cn) ∧ Hid (Dr w2 wr)) (fun K _ _ => L.length - (intOf K).toNat)
      case atStart => exact ⟨0, by omega, rfl, rfl, Lib.hid (Nat.zero_le _), Lib.hid (Dr.refl _)⟩
      case round =>
        obtain ⟨k, hkL, rfl, rfl, HEK, HDR⟩ := hrel
        by_cases hlt : k < L.length
        · obtain ⟨x7, hx7, hc7⟩ := (HBE.out.move (fun _ _ => by rw [HDR.out.heap])) k _ (endsV_at L L.length k hlt)
          have HX7 := Lib.hid hx7
          subst hx7
          change wr.cell? (x7.add k) = some (.int .i64 (endN L (k + 1) : Int)) at hc7
          have hlt2 : (k : Int) < (L.length : Int) := by omega
          by_cases hle : endN L (k + 1) ≤ cn
          · have HLE := Lib.hid hle
            have hle2 : (endN L (k + 1) : Int) ≤ (cn : Int) := by omega
            go_wp2
            exact ⟨⟨k + 1, by omega, by go_num, rfl, HLE, Lib.hid HDR.out⟩, by simp [intOf]; omega⟩
          · have HEX : Hid (k = L.length ∨ cn < endN L (k + 1)) := Lib.hid (.inr (by omega))
            have hle2 : ¬ (endN L (k + 1) : Int) ≤ (cn : Int) := by omega
            have hT := HTORN.out cn k hcn hkL HEK.out HEX.out
            have hfr := frames_calls a1 c1 (all.take cn) (by rw [List.length_take]; omega) wr ((HBA.out.move (fun _ _ => by rw [HDR.out.heap])).take cn)
            have hlen : (all.take cn).length = cn := by rw [List.length_take]; omega
            unfold FramesPost at hfr
            rw [hlen, hT] at hfr
            simp only at hfr
            have HLK : Hid ((L.take k).length = k) := Lib.hid (by rw [List.length_take]; omega)
            have HFR := Lib.hid hfr
            have HL2 := Lib.hid (HL.out.st (HDR.out.st No))
            clear hT hfr hlen
            have hek := HEK.out
            generalize endN L k = ek at *
            go_wp2_with fail
            refine HFR.out.mono ?_
            rintro e w3 ⟨V3, D3, rfl, ho3, hs3⟩
            obtain ⟨a3, c3, rfl⟩ := ho3.form
            have HB3 := Lib.hid ho3
            have HL3 := Lib.hid (HL2.out.st hs3)
            have HST : Hid (St No w No w3) := Lib.hid ((HS2.out.trans (HDR.out.st No)).trans hs3)
            clear ho3 hs3 HFR
            rw [HLK.out]
            by_cases heq : ek = cn
            · simp only [if_pos heq]
              subst heq
              go_wp2_with (go_at_call 32; refine (num_calls 0 _).mono ?_; rintro e w4 ⟨rfl, rfl⟩)
              have HP3 := HB3
              clear HB3
              go_loopw [13] (fun i wr => ∃ j : Nat, j ≤ k ∧ i = .int .i64 j ∧ Hid (Dr w3 wr)) (fun i _ => k - (intOf i).toNat)
              case atStart => exact ⟨0, by omega, rfl, Lib.hid (Dr.refl _)⟩
              case round =>
                obtain ⟨j, hj, rfl, HDQ⟩ := hrel
                by_cases hjk : j < k
                · obtain ⟨x5, b5, d5, body, hbody, rfl, hc5, hb5, _, hl5⟩ := (HL3.out.st (HDQ.out.st No)).at (k := j) (by omega)
                  obtain ⟨x6, b6, d6, rfl, hc6, hb6⟩ := (HP3.out.st (HDQ.out.st No) (Dj.no _) (Dj.no _)).at (i := j) (body := body) (by rw [List.getElem?_take, if_pos hjk]; exact hbody)
                  have HSM : Hid (∀ n, Calls Try.prog 17 #[.slice b6 body.length d6, .slice b5 body.length d5] (wr.drewN n) fun e w'' => e = .returned (.bool true) ∧ ∃ m, w'' = wr.drewN m) :=
                    Lib.hid (fun n => (same_one b6 d6 body b5 d5 (by unfold maxLen; omega) (wr.drewN n) (hb6.move (fun _ _ => rfl)) (hb5.move (fun _ _ => rfl))).mono fun e w' ⟨he, hd⟩ => ⟨he, ((Dr.one n).trans hd).out⟩)
                  have hlt2 : (j : Int) < (k : Int) := by omega
                  have hlt3 : (j : Int) < (L.length : Int) := by omega
                  clear hbody hb5 hb6
                  go_wp2
                  go_quiet ((go_at_call 17; exact HSM.out _))
                  go_wp2
                  exact ⟨⟨j + 1, by omega, by go_num, Lib.hid (HDQ.out.drewN nq)⟩, by simp [intOf]; omega⟩
                · obtain rfl : j = k := by omega
                  go_wp2
                  go_ret
                  exact ⟨rfl, (HST.out.trans (HDQ.out.st No)).below⟩
            · simp only [if_neg heq]
              have hlt9 : (ek : Int) < (cn : Int) := by omega
              go_wp2_with (go_at_call 32; refine (num_calls 21 _).mono ?_; rintro e w4 ⟨rfl, rfl⟩)
              have HP3 := HB3
              clear HB3
              go_loopw [13] (fun i wr => ∃ j : Nat, j ≤ k ∧ i = .int .i64 j ∧ Hid (Dr w3 wr)) (fun i _ => k - (intOf i).toNat)
              case atStart => exact ⟨0, by omega, rfl, Lib.hid (Dr.refl _)⟩
              case round =>
                obtain ⟨j, hj, rfl, HDQ⟩ := hrel
                by_cases hjk : j < k
                · obtain ⟨x5, b5, d5, body, hbody, rfl, hc5, hb5, _, hl5⟩ := (HL3.out.st (HDQ.out.st No)).at (k := j) (by omega)
                  obtain ⟨x6, b6, d6, rfl, hc6, hb6⟩ := (HP3.out.st (HDQ.out.st No) (Dj.no _) (Dj.no _)).at (i := j) (body := body) (by rw [List.getElem?_take, if_pos hjk]; exact hbody)
                  have HSM : Hid (∀ n, Calls Try.prog 17 #[.slice b6 body.length d6, .slice b5 body.length d5] (wr.drewN n) fun e w'' => e = .returned (.bool true) ∧ ∃ m, w'' = wr.drewN m) :=
                    Lib.hid (fun n => (same_one b6 d6 body b5 d5 (by unfold maxLen; omega) (wr.drewN n) (hb6.move (fun _ _ => rfl)) (hb5.move (fun _ _ => rfl))).mono fun e w' ⟨he, hd⟩ => ⟨he, ((Dr.one n).trans hd).out⟩)
                  have hlt2 : (j : Int) < (k : Int) := by omega
                  have hlt3 : (j : Int) < (L.length : Int) := by omega
                  clear hbody hb5 hb6
                  go_wp2
                  go_quiet ((go_at_call 17; exact HSM.out _))
                  go_wp2
                  exact ⟨⟨j + 1, by omega, by go_num, Lib.hid (HDQ.out.drewN nq)⟩, by simp [intOf]; omega⟩
                · obtain rfl : j = k := by omega
                  go_wp2
                  go_ret
                  exact ⟨rfl, (HST.out.trans (HDQ.out.st No)).below⟩
        · have HEX : Hid (k = L.length ∨ cn < endN L (k + 1)) := Lib.hid (.inl (by omega))
          have hle2 : ¬ (k : Int) < (L.length : Int) := by omega
          have hT := HTORN.out cn k hcn hkL HEK.out HEX.out
          have hfr := frames_calls a1 c1 (all.take cn) (by rw [List.length_take]; omega) wr ((HBA.out.move (fun _ _ => by rw [HDR.out.heap])).take cn)
          have hlen : (all.take cn).length = cn := by rw [List.length_take]; omega
          unfold FramesPost at hfr
          rw [hlen, hT] at hfr
          simp only at hfr
          have HLK : Hid ((L.take k).length = k) := Lib.hid (by rw [List.length_take]; omega)
          have HFR := Lib.hid hfr
          have HL2 := Lib.hid (HL.out.st (HDR.out.st No))
          clear hT hfr hlen
          have hek := HEK.out
          generalize endN L k = ek at *
          go_wp2_with fail
          refine HFR.out.mono ?_
          rintro e w3 ⟨V3, D3, rfl, ho3, hs3⟩
          obtain ⟨a3, c3, rfl⟩ := ho3.form
          have HB3 := Lib.hid ho3
          have HL3 := Lib.hid (HL2.out.st hs3)
          have HST : Hid (St No w No w3) := Lib.hid ((HS2.out.trans (HDR.out.st No)).trans hs3)
          clear ho3 hs3 HFR
          rw [HLK.out]
          by_cases heq : ek = cn
          · simp only [if_pos heq]
            subst heq
            go_wp2_with (go_at_call 32; refine (num_calls 0 _).mono ?_; rintro e w4 ⟨rfl, rfl⟩)
            have HP3 := HB3
            clear HB3
            go_loopw [13] (fun i wr => ∃ j : Nat, j ≤ k ∧ i = .int .i64 j ∧ Hid (Dr w3 wr)) (fun i _ => k - (intOf i).toNat)
            case atStart => exact ⟨0, by omega, rfl, Lib.hid (Dr.refl _)⟩
            case round =>
              obtain ⟨j, hj, rfl, HDQ⟩ := hrel
              by_cases hjk : j < k
              · obtain ⟨x5, b5, d5, body, hbody, rfl, hc5, hb5, _, hl5⟩ := (HL3.out.st (HDQ.out.st No)).at (k := j) (by omega)
                obtain ⟨x6, b6, d6, rfl, hc6, hb6⟩ := (HP3.out.st (HDQ.out.st No) (Dj.no _) (Dj.no _)).at (i := j) (body := body) (by rw [List.getElem?_take, if_pos hjk]; exact hbody)
                have HSM : Hid (∀ n, Calls Try.prog 17 #[.slice b6 body.length d6, .slice b5 body.length d5] (wr.drewN n) fun e w'' => e = .returned (.bool true) ∧ ∃ m, w'' = wr.drewN m) :=
                  Lib.hid (fun n => (same_one b6 d6 body b5 d5 (by unfold maxLen; omega) (wr.drewN n) (hb6.move (fun _ _ => rfl)) (hb5.move (fun _ _ => rfl))).mono fun e w' ⟨he, hd⟩ => ⟨he, ((Dr.one n).trans hd).out⟩)
                have hlt2 : (j : Int) < (k : Int) := by omega
                have hlt3 : (j : Int) < (L.length : Int) := by omega
                clear hbody hb5 hb6
                go_wp2
                go_quiet ((go_at_call 17; exact HSM.out _))
                go_wp2
                exact ⟨⟨j + 1, by omega, by go_num, Lib.hid (HDQ.out.drewN nq)⟩, by simp [intOf]; omega⟩
              · obtain rfl : j = k := by omega
                go_wp2
                go_ret
                exact ⟨rfl, (HST.out.trans (HDQ.out.st No)).below⟩
          · simp only [if_neg heq]
            have hlt9 : (ek : Int) < (cn : Int) := by omega
            go_wp2_with (go_at_call 32; refine (num_calls 21 _).mono ?_; rintro e w4 ⟨rfl, rfl⟩)
            have HP3 := HB3
            clear HB3
            go_loopw [13] (fun i wr => ∃ j : Nat, j ≤ k ∧ i = .int .i64 j ∧ Hid (Dr w3 wr)) (fun i _ => k - (intOf i).toNat)
            case atStart => exact ⟨0, by omega, rfl, Lib.hid (Dr.refl _)⟩
            case round =>
              obtain ⟨j, hj, rfl, HDQ⟩ := hrel
              by_cases hjk : j < k
              · obtain ⟨x5, b5, d5, body, hbody, rfl, hc5, hb5, _, hl5⟩ := (HL3.out.st (HDQ.out.st No)).at (k := j) (by omega)
                obtain ⟨x6, b6, d6, rfl, hc6, hb6⟩ := (HP3.out.st (HDQ.out.st No) (Dj.no _) (Dj.no _)).at (i := j) (body := body) (by rw [List.getElem?_take, if_pos hjk]; exact hbody)
                have HSM : Hid (∀ n, Calls Try.prog 17 #[.slice b6 body.length d6, .slice b5 body.length d5] (wr.drewN n) fun e w'' => e = .returned (.bool true) ∧ ∃ m, w'' = wr.drewN m) :=
                  Lib.hid (fun n => (same_one b6 d6 body b5 d5 (by unfold maxLen; omega) (wr.drewN n) (hb6.move (fun _ _ => rfl)) (hb5.move (fun _ _ => rfl))).mono fun e w' ⟨he, hd⟩ => ⟨he, ((Dr.one n).trans hd).out⟩)
                have hlt2 : (j : Int) < (k : Int) := by omega
                have hlt3 : (j : Int) < (L.length : Int) := by omega
                clear hbody hb5 hb6
                go_wp2
                go_quiet ((go_at_call 17; exact HSM.out _))
                go_wp2
                exact ⟨⟨j + 1, by omega, by go_num, Lib.hid (HDQ.out.drewN nq)⟩, by simp [intOf]; omega⟩
              · obtain rfl : j = k := by omega
                go_wp2
                go_ret
                exact ⟨rfl, (HST.out.trans (HDQ.out.st No)).below⟩
    · have HCN : Hid ((all.length : Int) = (cn : Int)) := Lib.hid (by rw [h3])
      clear h3
      go_wp2
      rw [HCN.out]
      go_loopw [8, 9] (fun K E wr => ∃ k : Nat, k ≤ L.length ∧ K = .int .i64 (k : Int) ∧ E = .int .i64 (endN L k : Int) ∧ Hid (endN L k ≤ cn) ∧ Hid (Dr w2 wr)) (fun K _ _ => L.length - (intOf K).toNat)
      case atStart => exact ⟨0, by omega, rfl, rfl, Lib.hid (Nat.zero_le _), Lib.hid (Dr.refl _)⟩
      case round =>
        obtain ⟨k, hkL, rfl, rfl, HEK, HDR⟩ := hrel
        by_cases hlt : k < L.length
        · obtain ⟨x7, hx7, hc7⟩ := (HBE.out.move (fun _ _ => by rw [HDR.out.heap])) k _ (endsV_at L L.length k hlt)
          have HX7 := Lib.hid hx7
          subst hx7
          change wr.cell? (x7.add k) = some (.int .i64 (endN L (k + 1) : Int)) at hc7
          have hlt2 : (k : Int) < (L.length : Int) := by omega
          by_cases hle : endN L (k + 1) ≤ cn
          · have HLE := Lib.hid hle
            have hle2 : (endN L (k + 1) : Int) ≤ (cn : Int) := by omega
            go_wp2
            exact ⟨⟨k + 1, by omega, by go_num, rfl, HLE, Lib.hid HDR.out⟩, by simp [intOf]; omega⟩
          · have HEX : Hid (k = L.length ∨ cn < endN L (k + 1)) := Lib.hid (.inr (by omega))
            have hle2 : ¬ (endN L (k + 1) : Int) ≤ (cn : Int) := by omega
            have hT := HTORN.out cn k hcn hkL HEK.out HEX.out
            have hfr := frames_calls a1 c1 (all.take cn) (by rw [List.length_take]; omega) wr ((HBA.out.move (fun _ _ => by rw [HDR.out.heap])).take cn)
            have hlen : (all.take cn).length = cn := by rw [List.length_take]; omega
            unfold FramesPost at hfr
            rw [hlen, hT] at hfr
            simp only at hfr
            have HLK : Hid ((L.take k).length = k) := Lib.hid (by rw [List.length_take]; omega)
            have HFR := Lib.hid hfr
            have HL2 := Lib.hid (HL.out.st (HDR.out.st No))
            clear hT hfr hlen
            have hek := HEK.out
            generalize endN L k = ek at *
            go_wp2_with fail
            refine HFR.out.mono ?_
            rintro e w3 ⟨V3, D3, rfl, ho3, hs3⟩
            obtain ⟨a3, c3, rfl⟩ := ho3.form
            have HB3 := Lib.hid ho3
            have HL3 := Lib.hid (HL2.out.st hs3)
            have HST : Hid (St No w No w3) := Lib.hid ((HS2.out.trans (HDR.out.st No)).trans hs3)
            clear ho3 hs3 HFR
            rw [HLK.out]
            by_cases heq : ek = cn
            · simp only [if_pos heq]
              subst heq
              go_wp2_with (go_at_call 32; refine (num_calls 0 _).mono ?_; rintro e w4 ⟨rfl, rfl⟩)
              have HP3 := HB3
              clear HB3
              go_loopw [13] (fun i wr => ∃ j : Nat, j ≤ k ∧ i = .int .i64 j ∧ Hid (Dr w3 wr)) (fun i _ => k - (intOf i).toNat)
              case atStart => exact ⟨0, by omega, rfl, Lib.hid (Dr.refl _)⟩
              case round =>
                obtain ⟨j, hj, rfl, HDQ⟩ := hrel
                by_cases hjk : j < k
                · obtain ⟨x5, b5, d5, body, hbody, rfl, hc5, hb5, _, hl5⟩ := (HL3.out.st (HDQ.out.st No)).at (k := j) (by omega)
                  obtain ⟨x6, b6, d6, rfl, hc6, hb6⟩ := (HP3.out.st (HDQ.out.st No) (Dj.no _) (Dj.no _)).at (i := j) (body := body) (by rw [List.getElem?_take, if_pos hjk]; exact hbody)
                  have HSM : Hid (∀ n, Calls Try.prog 17 #[.slice b6 body.length d6, .slice b5 body.length d5] (wr.drewN n) fun e w'' => e = .returned (.bool true) ∧ ∃ m, w'' = wr.drewN m) :=
                    Lib.hid (fun n => (same_one b6 d6 body b5 d5 (by unfold maxLen; omega) (wr.drewN n) (hb6.move (fun _ _ => rfl)) (hb5.move (fun _ _ => rfl))).mono fun e w' ⟨he, hd⟩ => ⟨he, ((Dr.one n).trans hd).out⟩)
                  have hlt2 : (j : Int) < (k : Int) := by omega
                  have hlt3 : (j : Int) < (L.length : Int) := by omega
                  clear hbody hb5 hb6
                  go_wp2
                  go_quiet ((go_at_call 17; exact HSM.out _))
                  go_wp2
                  exact ⟨⟨j + 1, by omega, by go_num, Lib.hid (HDQ.out.drewN nq)⟩, by simp [intOf]; omega⟩
                · obtain rfl : j = k := by omega
                  go_wp2
                  go_ret
                  exact ⟨rfl, (HST.out.trans (HDQ.out.st No)).below⟩
            · simp only [if_neg heq]
              have hlt9 : (ek : Int) < (cn : Int) := by omega
              go_wp2_with (go_at_call 32; refine (num_calls 21 _).mono ?_; rintro e w4 ⟨rfl, rfl⟩)
              have HP3 := HB3
              clear HB3
              go_loopw [13] (fun i wr => ∃ j : Nat, j ≤ k ∧ i = .int .i64 j ∧ Hid (Dr w3 wr)) (fun i _ => k - (intOf i).toNat)
              case atStart => exact ⟨0, by omega, rfl, Lib.hid (Dr.refl _)⟩
              case round =>
                obtain ⟨j, hj, rfl, HDQ⟩ := hrel
                by_cases hjk : j < k
                · obtain ⟨x5, b5, d5, body, hbody, rfl, hc5, hb5, _, hl5⟩ := (HL3.out.st (HDQ.out.st No)).at (k := j) (by omega)
                  obtain ⟨x6, b6, d6, rfl, hc6, hb6⟩ := (HP3.out.st (HDQ.out.st No) (Dj.no _) (Dj.no _)).at (i := j) (body := body) (by rw [List.getElem?_take, if_pos hjk]; exact hbody)
                  have HSM : Hid (∀ n, Calls Try.prog 17 #[.slice b6 body.length d6, .slice b5 body.length d5] (wr.drewN n) fun e w'' => e = .returned (.bool true) ∧ ∃ m, w'' = wr.drewN m) :=
                    Lib.hid (fun n => (same_one b6 d6 body b5 d5 (by unfold maxLen; omega) (wr.drewN n) (hb6.move (fun _ _ => rfl)) (hb5.move (fun _ _ => rfl))).mono fun e w' ⟨he, hd⟩ => ⟨he, ((Dr.one n).trans hd).out⟩)
                  have hlt2 : (j : Int) < (k : Int) := by omega
                  have hlt3 : (j : Int) < (L.length : Int) := by omega
                  clear hbody hb5 hb6
                  go_wp2
                  go_quiet ((go_at_call 17; exact HSM.out _))
                  go_wp2
                  exact ⟨⟨j + 1, by omega, by go_num, Lib.hid (HDQ.out.drewN nq)⟩, by simp [intOf]; omega⟩
                · obtain rfl : j = k := by omega
                  go_wp2
                  go_ret
                  exact ⟨rfl, (HST.out.trans (HDQ.out.st No)).below⟩
        · have HEX : Hid (k = L.length ∨ cn < endN L (k + 1)) := Lib.hid (.inl (by omega))
          have hle2 : ¬ (k : Int) < (L.length : Int) := by omega
          have hT := HTORN.out cn k hcn hkL HEK.out HEX.out
          have hfr := frames_calls a1 c1 (all.take cn) (by rw [List.length_take]; omega) wr ((HBA.out.move (fun _ _ => by rw [HDR.out.heap])).take cn)
          have hlen : (all.take cn).length = cn := by rw [List.length_take]; omega
          unfold FramesPost at hfr
          rw [hlen, hT] at hfr
          simp only at hfr
          have HLK : Hid ((L.take k).length = k) := Lib.hid (by rw [List.length_take]; omega)
          have HFR := Lib.hid hfr
          have HL2 := Lib.hid (HL.out.st (HDR.out.st No))
          clear hT hfr hlen
          have hek := HEK.out
          generalize endN L k = ek at *
          go_wp2_with fail
          refine HFR.out.mono ?_
          rintro e w3 ⟨V3, D3, rfl, ho3, hs3⟩
          obtain ⟨a3, c3, rfl⟩ := ho3.form
          have HB3 := Lib.hid ho3
          have HL3 := Lib.hid (HL2.out.st hs3)
          have HST : Hid (St No w No w3) := Lib.hid ((HS2.out.trans (HDR.out.st No)).trans hs3)
          clear ho3 hs3 HFR
          rw [HLK.out]
          by_cases heq : ek = cn
          · simp only [if_pos heq]
            subst heq
            go_wp2_with (go_at_call 32; refine (num_calls 0 _).mono ?_; rintro e w4 ⟨rfl, rfl⟩)
            have HP3 := HB3
            clear HB3
            go_loopw [13] (fun i wr => ∃ j : Nat, j ≤ k ∧ i = .int .i64 j ∧ Hid (Dr w3 wr)) (fun i _ => k - (intOf i).toNat)
            case atStart => exact ⟨0, by omega, rfl, Lib.hid (Dr.refl _)⟩
            case round =>
              obtain ⟨j, hj, rfl, HDQ⟩ := hrel
              by_cases hjk : j < k
              · obtain ⟨x5, b5, d5, body, hbody, rfl, hc5, hb5, _, hl5⟩ := (HL3.out.st (HDQ.out.st No)).at (k := j) (by omega)
                obtain ⟨x6, b6, d6, rfl, hc6, hb6⟩ := (HP3.out.st (HDQ.out.st No) (Dj.no _) (Dj.no _)).at (i := j) (body := body) (by rw [List.getElem?_take, if_pos hjk]; exact hbody)
                have HSM : Hid (∀ n, Calls Try.prog 17 #[.slice b6 body.length d6, .slice b5 body.length d5] (wr.drewN n) fun e w'' => e = .returned (.bool true) ∧ ∃ m, w'' = wr.drewN m) :=
                  Lib.hid (fun n => (same_one b6 d6 body b5 d5 (by unfold maxLen; omega) (wr.drewN n) (hb6.move (fun _ _ => rfl)) (hb5.move (fun _ _ => rfl))).mono fun e w' ⟨he, hd⟩ => ⟨he, ((Dr.one n).trans hd).out⟩)
                have hlt2 : (j : Int) < (k : Int) := by omega
                have hlt3 : (j : Int) < (L.length : Int) := by omega
                clear hbody hb5 hb6
                go_wp2
                go_quiet ((go_at_call 17; exact HSM.out _))
                go_wp2
                exact ⟨⟨j + 1, by omega, by go_num, Lib.hid (HDQ.out.drewN nq)⟩, by simp [intOf]; omega⟩
              · obtain rfl : j = k := by omega
                go_wp2
                go_ret
                exact ⟨rfl, (HST.out.trans (HDQ.out.st No)).below⟩
          · simp only [if_neg heq]
            have hlt9 : (ek : Int) < (cn : Int) := by omega
            go_wp2_with (go_at_call 32; refine (num_calls 21 _).mono ?_; rintro e w4 ⟨rfl, rfl⟩)
            have HP3 := HB3
            clear HB3
            go_loopw [13] (fun i wr => ∃ j : Nat, j ≤ k ∧ i = .int .i64 j ∧ Hid (Dr w3 wr)) (fun i _ => k - (intOf i).toNat)
            case atStart => exact ⟨0, by omega, rfl, Lib.hid (Dr.refl _)⟩
            case round =>
              obtain ⟨j, hj, rfl, HDQ⟩ := hrel
              by_cases hjk : j < k
              · obtain ⟨x5, b5, d5, body, hbody, rfl, hc5, hb5, _, hl5⟩ := (HL3.out.st (HDQ.out.st No)).at (k := j) (by omega)
                obtain ⟨x6, b6, d6, rfl, hc6, hb6⟩ := (HP3.out.st (HDQ.out.st No) (Dj.no _) (Dj.no _)).at (i := j) (body := body) (by rw [List.getElem?_take, if_pos hjk]; exact hbody)
                have HSM : Hid (∀ n, Calls Try.prog 17 #[.slice b6 body.length d6, .slice b5 body.length d5] (wr.drewN n) fun e w'' => e = .returned (.bool true) ∧ ∃ m, w'' = wr.drewN m) :=
                  Lib.hid (fun n => (same_one b6 d6 body b5 d5 (by unfold maxLen; omega) (wr.drewN n) (hb6.move (fun _ _ => rfl)) (hb5.move (fun _ _ => rfl))).mono fun e w' ⟨he, hd⟩ => ⟨he, ((Dr.one n).trans hd).out⟩)
                have hlt2 : (j : Int) < (k : Int) := by omega
                have hlt3 : (j : Int) < (L.length : Int) := by omega
                clear hbody hb5 hb6
                go_wp2
                go_quiet ((go_at_call 17; exact HSM.out _))
                go_wp2
                exact ⟨⟨j + 1, by omega, by go_num, Lib.hid (HDQ.out.drewN nq)⟩, by simp [intOf]; omega⟩
              · obtain rfl : j = k := by omega
                go_wp2
                go_ret
                exact ⟨rfl, (HST.out.trans (HDQ.out.st No)).below⟩
    · skip
      go_wp2
      go_loopw [8, 9] (fun K E wr => ∃ k : Nat, k ≤ L.length ∧ K = .int .i64 (k : Int) ∧ E = .int .i64 (endN L k : Int) ∧ Hid (endN L k ≤ cn) ∧ Hid (Dr w2 wr)) (fun K _ _ => L.length - (intOf K).toNat)
      case atStart => exact ⟨0, by omega, rfl, rfl, Lib.hid (Nat.zero_le _), Lib.hid (Dr.refl _)⟩
      case round =>
        obtain ⟨k, hkL, rfl, rfl, HEK, HDR⟩ := hrel
        by_cases hlt : k < L.length
        · obtain ⟨x7, hx7, hc7⟩ := (HBE.out.move (fun _ _ => by rw [HDR.out.heap])) k _ (endsV_at L L.length k hlt)
          have HX7 := Lib.hid hx7
          subst hx7
          change wr.cell? (x7.add k) = some (.int .i64 (endN L (k + 1) : Int)) at hc7
          have hlt2 : (k : Int) < (L.length : Int) := by omega
          by_cases hle : endN L (k + 1) ≤ cn
          · have HLE := Lib.hid hle
            have hle2 : (endN L (k + 1) : Int) ≤ (cn : Int) := by omega
            go_wp2
            exact ⟨⟨k + 1, by omega, by go_num, rfl, HLE, Lib.hid HDR.out⟩, by simp [intOf]; omega⟩
          · have HEX : Hid (k = L.length ∨ cn < endN L (k + 1)) := Lib.hid (.inr (by omega))
            have hle2 : ¬ (endN L (k + 1) : Int) ≤ (cn : Int) := by omega
            have hT := HTORN.out cn k hcn hkL HEK.out HEX.out
            have hfr := frames_calls a1 c1 (all.take cn) (by rw [List.length_take]; omega) wr ((HBA.out.move (fun _ _ => by rw [HDR.out.heap])).take cn)
            have hlen : (all.take cn).length = cn := by rw [List.length_take]; omega
            unfold FramesPost at hfr
            rw [hlen, hT] at hfr
            simp only at hfr
            have HLK : Hid ((L.take k).length = k) := Lib.hid (by rw [List.length_take]; omega)
            have HFR := Lib.hid hfr
            have HL2 := Lib.hid (HL.out.st (HDR.out.st No))
            clear hT hfr hlen
            have hek := HEK.out
            generalize endN L k = ek at *
            go_wp2_with fail
            refine HFR.out.mono ?_
            rintro e w3 ⟨V3, D3, rfl, ho3, hs3⟩
            obtain ⟨a3, c3, rfl⟩ := ho3.form
            have HB3 := Lib.hid ho3
            have HL3 := Lib.hid (HL2.out.st hs3)
            have HST : Hid (St No w No w3) := Lib.hid ((HS2.out.trans (HDR.out.st No)).trans hs3)
            clear ho3 hs3 HFR
            rw [HLK.out]
            by_cases heq : ek = cn
            · simp only [if_pos heq]
              subst heq
              go_wp2_with (go_at_call 32; refine (num_calls 0 _).mono ?_; rintro e w4 ⟨rfl, rfl⟩)
              have HP3 := HB3
              clear HB3
              go_loopw [13] (fun i wr => ∃ j : Nat, j ≤ k ∧ i = .int .i64 j ∧ Hid (Dr w3 wr)) (fun i _ => k - (intOf i).toNat)
              case atStart => exact ⟨0, by omega, rfl, Lib.hid (Dr.refl _)⟩
              case round =>
                obtain ⟨j, hj, rfl, HDQ⟩ := hrel
                by_cases hjk : j < k
                · obtain ⟨x5, b5, d5, body, hbody, rfl, hc5, hb5, _, hl5⟩ := (HL3.out.st (HDQ.out.st No)).at (k := j) (by omega)
                  obtain ⟨x6, b6, d6, rfl, hc6, hb6⟩ := (HP3.out.st (HDQ.out.st No) (Dj.no _) (Dj.no _)).at (i := j) (body := body) (by rw [List.getElem?_take, if_pos hjk]; exact hbody)
                  have HSM : Hid (∀ n, Calls Try.prog 17 #[.slice b6 body.length d6, .slice b5 body.length d5] (wr.drewN n) fun e w'' => e = .returned (.bool true) ∧ ∃ m, w'' = wr.drewN m) :=
                    Lib.hid (fun n => (same_one b6 d6 body b5 d5 (by unfold maxLen; omega) (wr.drewN n) (hb6.move (fun _ _ => rfl)) (hb5.move (fun _ _ => rfl))).mono fun e w' ⟨he, hd⟩ => ⟨he, ((Dr.one n).trans hd).out⟩)
                  have hlt2 : (j : Int) < (k : Int) := by omega
                  have hlt3 : (j : Int) < (L.length : Int) := by omega
                  clear hbody hb5 hb6
                  go_wp2
                  go_quiet ((go_at_call 17; exact HSM.out _))
                  go_wp2
                  exact ⟨⟨j + 1, by omega, by go_num, Lib.hid (HDQ.out.drewN nq)⟩, by simp [intOf]; omega⟩
                · obtain rfl : j = k := by omega
                  go_wp2
                  go_ret
                  exact ⟨rfl, (HST.out.trans (HDQ.out.st No)).below⟩
            · simp only [if_neg heq]
              have hlt9 : (ek : Int) < (cn : Int) := by omega
              go_wp2_with (go_at_call 32; refine (num_calls 21 _).mono ?_; rintro e w4 ⟨rfl, rfl⟩)
              have HP3 := HB3
              clear HB3
              go_loopw [13] (fun i wr => ∃ j : Nat, j ≤ k ∧ i = .int .i64 j ∧ Hid (Dr w3 wr)) (fun i _ => k - (intOf i).toNat)
              case atStart => exact ⟨0, by omega, rfl, Lib.hid (Dr.refl _)⟩
              case round =>
                obtain ⟨j, hj, rfl, HDQ⟩ := hrel
                by_cases hjk : j < k
                · obtain ⟨x5, b5, d5, body, hbody, rfl, hc5, hb5, _, hl5⟩ := (HL3.out.st (HDQ.out.st No)).at (k := j) (by omega)
                  obtain ⟨x6, b6, d6, rfl, hc6, hb6⟩ := (HP3.out.st (HDQ.out.st No) (Dj.no _) (Dj.no _)).at (i := j) (body := body) (by rw [List.getElem?_take, if_pos hjk]; exact hbody)
                  have HSM : Hid (∀ n, Calls Try.prog 17 #[.slice b6 body.length d6, .slice b5 body.length d5] (wr.drewN n) fun e w'' => e = .returned (.bool true) ∧ ∃ m, w'' = wr.drewN m) :=
                    Lib.hid (fun n => (same_one b6 d6 body b5 d5 (by unfold maxLen; omega) (wr.drewN n) (hb6.move (fun _ _ => rfl)) (hb5.move (fun _ _ => rfl))).mono fun e w' ⟨he, hd⟩ => ⟨he, ((Dr.one n).trans hd).out⟩)
                  have hlt2 : (j : Int) < (k : Int) := by omega
                  have hlt3 : (j : Int) < (L.length : Int) := by omega
                  clear hbody hb5 hb6
                  go_wp2
                  go_quiet ((go_at_call 17; exact HSM.out _))
                  go_wp2
                  exact ⟨⟨j + 1, by omega, by go_num, Lib.hid (HDQ.out.drewN nq)⟩, by simp [intOf]; omega⟩
                · obtain rfl : j = k := by omega
                  go_wp2
                  go_ret
                  exact ⟨rfl, (HST.out.trans (HDQ.out.st No)).below⟩
        · have HEX : Hid (k = L.length ∨ cn < endN L (k + 1)) := Lib.hid (.inl (by omega))
          have hle2 : ¬ (k : Int) < (L.length : Int) := by omega
          have hT := HTORN.out cn k hcn hkL HEK.out HEX.out
          have hfr := frames_calls a1 c1 (all.take cn) (by rw [List.length_take]; omega) wr ((HBA.out.move (fun _ _ => by rw [HDR.out.heap])).take cn)
          have hlen : (all.take cn).length = cn := by rw [List.length_take]; omega
          unfold FramesPost at hfr
          rw [hlen, hT] at hfr
          simp only at hfr
          have HLK : Hid ((L.take k).length = k) := Lib.hid (by rw [List.length_take]; omega)
          have HFR := Lib.hid hfr
          have HL2 := Lib.hid (HL.out.st (HDR.out.st No))
          clear hT hfr hlen
          have hek := HEK.out
          generalize endN L k = ek at *
          go_wp2_with fail
          refine HFR.out.mono ?_
          rintro e w3 ⟨V3, D3, rfl, ho3, hs3⟩
          obtain ⟨a3, c3, rfl⟩ := ho3.form
          have HB3 := Lib.hid ho3
          have HL3 := Lib.hid (HL2.out.st hs3)
          have HST : Hid (St No w No w3) := Lib.hid ((HS2.out.trans (HDR.out.st No)).trans hs3)
          clear ho3 hs3 HFR
          rw [HLK.out]
          by_cases heq : ek = cn
          · simp only [if_pos heq]
            subst heq
            go_wp2_with (go_at_call 32; refine (num_calls 0 _).mono ?_; rintro e w4 ⟨rfl, rfl⟩)
            have HP3 := HB3
            clear HB3
            go_loopw [13] (fun i wr => ∃ j : Nat, j ≤ k ∧ i = .int .i64 j ∧ Hid (Dr w3 wr)) (fun i _ => k - (intOf i).toNat)
            case atStart => exact ⟨0, by omega, rfl, Lib.hid (Dr.refl _)⟩
            case round =>
              obtain ⟨j, hj, rfl, HDQ⟩ := hrel
              by_cases hjk : j < k
              · obtain ⟨x5, b5, d5, body, hbody, rfl, hc5, hb5, _, hl5⟩ := (HL3.out.st (HDQ.out.st No)).at (k := j) (by omega)
                obtain ⟨x6, b6, d6, rfl, hc6, hb6⟩ := (HP3.out.st (HDQ.out.st No) (Dj.no _) (Dj.no _)).at (i := j) (body := body) (by rw [List.getElem?_take, if_pos hjk]; exact hbody)
                have HSM : Hid (∀ n, Calls Try.prog 17 #[.slice b6 body.length d6, .slice b5 body.length d5] (wr.drewN n) fun e w'' => e = .returned (.bool true) ∧ ∃ m, w'' = wr.drewN m) :=
                  Lib.hid (fun n => (same_one b6 d6 body b5 d5 (by unfold maxLen; omega) (wr.drewN n) (hb6.move (fun _ _ => rfl)) (hb5.move (fun _ _ => rfl))).mono fun e w' ⟨he, hd⟩ => ⟨he, ((Dr.one n).trans hd).out⟩)
                have hlt2 : (j : Int) < (k : Int) := by omega
                have hlt3 : (j : Int) < (L.length : Int) := by omega
                clear hbody hb5 hb6
                go_wp2
                go_quiet ((go_at_call 17; exact HSM.out _))
                go_wp2
                exact ⟨⟨j + 1, by omega, by go_num, Lib.hid (HDQ.out.drewN nq)⟩, by simp [intOf]; omega⟩
              · obtain rfl : j = k := by omega
                go_wp2
                go_ret
                exact ⟨rfl, (HST.out.trans (HDQ.out.st No)).below⟩
          · simp only [if_neg heq]
            have hlt9 : (ek : Int) < (cn : Int) := by omega
            go_wp2_with (go_at_call 32; refine (num_calls 21 _).mono ?_; rintro e w4 ⟨rfl, rfl⟩)
            have HP3 := HB3
            clear HB3
            go_loopw [13] (fun i wr => ∃ j : Nat, j ≤ k ∧ i = .int .i64 j ∧ Hid (Dr w3 wr)) (fun i _ => k - (intOf i).toNat)
            case atStart => exact ⟨0, by omega, rfl, Lib.hid (Dr.refl _)⟩
            case round =>
              obtain ⟨j, hj, rfl, HDQ⟩ := hrel
              by_cases hjk : j < k
              · obtain ⟨x5, b5, d5, body, hbody, rfl, hc5, hb5, _, hl5⟩ := (HL3.out.st (HDQ.out.st No)).at (k := j) (by omega)
                obtain ⟨x6, b6, d6, rfl, hc6, hb6⟩ := (HP3.out.st (HDQ.out.st No) (Dj.no _) (Dj.no _)).at (i := j) (body := body) (by rw [List.getElem?_take, if_pos hjk]; exact hbody)
                have HSM : Hid (∀ n, Calls Try.prog 17 #[.slice b6 body.length d6, .slice b5 body.length d5] (wr.drewN n) fun e w'' => e = .returned (.bool true) ∧ ∃ m, w'' = wr.drewN m) :=
                  Lib.hid (fun n => (same_one b6 d6 body b5 d5 (by unfold maxLen; omega) (wr.drewN n) (hb6.move (fun _ _ => rfl)) (hb5.move (fun _ _ => rfl))).mono fun e w' ⟨he, hd⟩ => ⟨he, ((Dr.one n).trans hd).out⟩)
                have hlt2 : (j : Int) < (k : Int) := by omega
                have hlt3 : (j : Int) < (L.length : Int) := by omega
                clear hbody hb5 hb6
                go_wp2
                go_quiet ((go_at_call 17; exact HSM.out _))
                go_wp2
                exact ⟨⟨j + 1, by omega, by go_num, Lib.hid (HDQ.out.drewN nq)⟩, by simp [intOf]; omega⟩
              · obtain rfl : j = k := by omega
                go_wp2
                go_ret
                exact ⟨rfl, (HST.out.trans (HDQ.out.st No)).below⟩
end Go.Proofs.Ytfhoekcmkbeabaa
