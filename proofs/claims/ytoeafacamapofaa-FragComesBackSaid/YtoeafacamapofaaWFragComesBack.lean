
/-
  FragComesBack, walked: it returns true.
-/
import Derived.Test.YtoeafacamapofaaJnTake
import Derived.Test.YtoeafacamapofaaJnNew
import Derived.Test.YtoeafacamapofaaJnOne
import Derived.Test.YtoeafacamapofaaJnPos
import Derived.Test.YtoeafacamapofaaWFragSizes
import Derived.Test.YtoeafacamapofaaLyDrop
namespace Go.Proofs.Ytoeafacamapofaa
open Go.RowKit
set_option linter.unusedVariables false
set_option linter.unusedSimpArgs false

/-- flags as the program's values -/
def blv (xs : List Bool) : List Value := xs.map .bool
theorem boolInfo : (Try.prog.info? 4).map (fun i => (i.zero, i.size, i.bytes)) = some (some (.bool false), 1, 1) := by kernel_rfl
set_option maxRecDepth 100000 in
set_option maxHeartbeats 4000000 in
theorem fragComesBack_walk (a : Option Addr) (c : Nat) (xs : List B8) (hl : xs.length ≤ 140737488351232) (id : BitVec 64) (mtu : Int) (frm : Int) (hfr : 0 ≤ frm ∧ frm ≤ 255) (oa : Option Addr) (oc : Nat) (os : List Int) (hos : os.length ≤ 35184372088832) (hwf : ∀ i ∈ os, -9223372036854775808 ≤ i ∧ i ≤ 9223372036854775807) (w : World) (ha : Bs w a xs) (hi : Is w oa os) :
    Calls Try.prog 11 #[.slice a xs.length c, .int .u64 (id.toNat : Int), .int .i64 mtu, .int .u8 frm, .slice oa os.length oc] w fun e w' => e = .returned (.bool true) ∧ Below w.heap.size w w' := by
  have HA := Lib.hid ha
  have HI := Lib.hid hi
  have HWF := Lib.hid hwf
  have HFI := Lib.hid (fits4_calls a xs.length c hl mtu w)
  clear ha hi hwf
  cases hfit : fitsN xs.length mtu with
  | false =>
    rw [hfit] at HFI
    go_enter Try.func11, Try.ntmps11
    go_wp2_with (go_at_call 45; refine HFI.out.mono ?_; rintro e w1 ⟨rfl, rfl⟩)
    go_ret
    exact ⟨rfl, (St.refl No _).below⟩
  | true =>
    rw [hfit] at HFI
    by_cases h255 : frm = 255
    · subst h255
      go_enter Try.func11, Try.ntmps11
      go_wp2_with (go_at_call 45; refine HFI.out.mono ?_; rintro e w1 ⟨rfl, rfl⟩)
      go_ret
      exact ⟨rfl, (St.refl No _).below⟩
    · obtain ⟨m, rfl, m1, m2, m3, m4, m5, m6⟩ := fits_yes (id := id) hfit
      obtain ⟨f1, f2, f3, f4, f5, f6⟩ := split_facts m1 m2 m3 m4
      have HFS := Lib.hid (fun i (hi : i < countN xs.length m) => fragB_shaped (packet := xs) (id := id) m1 m2 m3 m4 hi)
      have HM5 := Lib.hid m5
      have HM6 := Lib.hid m6
      have hfb : (frm == 255) = false := by simpa using h255
      clear m5 m6 hfit
      go_enter Try.func11, Try.ntmps11
      go_wp2_with (go_at_call 45; refine HFI.out.mono ?_; rintro e w1 ⟨rfl, rfl⟩)
      refine (clone4_calls a c xs hl w HA.out).mono ?_
      rintro e w1 ⟨v1, rfl, ho1, hs1⟩
      obtain ⟨a1, c1, rfl, q1, q2, _, q4⟩ := ho1.form
      have HO1 := Lib.hid ho1
      have HS1 : Hid (St No w No w1) := Lib.hid (hs1.drop (fun _ h => h.elim))
      have HQ4 : Hid (a1 = none → c1 = 0) := Lib.hid (fun h => (q4 h).2)
      have HQ2 := Lib.hid q2
      clear ho1 hs1 q4 q2
      go_wp2_with fail
      refine (split_calls a1 c1 xs hl q1 HQ2.out HQ4.out id m w1 HO1.out.bs).mono ?_
      rintro e w2 ⟨V2, vs2, rfl, hg2, hs2⟩
      obtain ⟨a2, c2, rfl⟩ := hg2.form
      have hln : (splitB xs id (m : Int)).length = countN xs.length m := by rw [HM6.out, splitL_len]
      rw [hln] at hg2 ⊢
      rw [HM6.out] at hg2
      have HG2 := Lib.hid hg2
      have HS2 : Hid (St No w No w2) := Lib.hid (HS1.out.trans (hs2.drop (fun _ h => h.elim)))
      clear hg2 hs2 q1 hln
      rw [HM5.out]
      have HCN : Hid (∀ i, i < countN xs.length m → shapedN xs.length (countN xs.length m) i (partB xs (countN xs.length m) i).length ∧ 1 ≤ (partB xs (countN xs.length m) i).length ∧ (partB xs (countN xs.length m) i).length ≤ m - 18) := Lib.hid (fun i hi => HFS.out i hi)
      clear HFS HM6
      generalize hCe : countN xs.length m = C at *
      have HCE := Lib.hid hCe
      clear hCe
      have C0 : ¬ C = 0 := by omega
      have C0' : ¬ (C : Int) = 0 := by omega
      have C0b : ((C : Int) == 0) = false := by simpa using C0
      go_wp2_with fail
      refine (new_calls 1 1 w2).mono ?_
      rintro e w3 (⟨_, pj, F, rfl, hj3, hs3⟩ | ⟨h, _⟩)
      rotate_left
      · cases h
      have HJ3 := Lib.hid hj3
      have HS3 := Lib.hid hs3
      clear hj3 hs3
      go_wp2_with fail
      obtain ⟨i, hii, hz, hsz, hby⟩ := info_parts boolInfo
      have HI2 := Lib.hid hii
      have HZ := Lib.hid hz
      have HSZ := Lib.hid hsz
      have HBY := Lib.hid hby
      clear hii hz hsz hby
      go_loopw [16, 17] (fun x t wr => ∃ (k : Nat) (V' : Value), k ≤ C ∧ t = .int .i64 k ∧ x = V' ∧ Hid (Own wr 4 1 V' k (blv (List.replicate k false))) ∧ Hid (∀ j, fpV V' j → w3.heap.size ≤ j) ∧ Hid (St No w3 (Nw w3) wr)) (fun _ t _ => C - (intOf t).toNat)
      case atStart =>
        exact ⟨0, _, by omega, rfl, rfl, Lib.hid (Own.nil _ _ _), Lib.hid (fun j hj => by simp [fpV, Value.ownBlock] at hj), Lib.hid (St.refl No w3).toNew⟩
      case round =>
        obtain ⟨k, V', hk, rfl, hxv, HO, HV, HS⟩ := hrel
        have hxv' := hxv.symm
        subst hxv'
        clear hxv
        by_cases hlt : k < C
        · go_wp2_with (at_builtin; refine wpList_app rfl (.tmp 66) (.tmp 67) 92 rfl 4 i _ 1 1 Try.underlying92 HI2.out HZ.out HSZ.out HBY.out rfl (by decide) _ k (blv (List.replicate k false)) rfl (HO.out.st (St.alloc' No wr _) (Dj.no _)) (some ⟨wr.heap.size, 0, none⟩) 1 1 [.bool false] rfl ⟨rfl, rd_row (heap_alloc_new wr _), by simp; rfl⟩ (fun h => by cases h) (by unfold maxLen; omega) (by omega) ?_; intro v4 w4 ho4 hs4 hn4; have HO4 := Lib.hid ho4; have HS4 := Lib.hid hs4; clear ho4 hs4 hn4)
          refine ⟨⟨k + 1, v4, by omega, by simp, rfl, Lib.hid ?_, Lib.hid ?_, Lib.hid ?_⟩, by simp [intOf]; omega⟩
          · have e : blv (List.replicate (k + 1) false) = blv (List.replicate k false) ++ [.bool false] := by simp [blv, List.replicate_succ']
            rw [e]
            exact HO4.out
          · intro j hj
            rcases HS4.out.new j hj with h | h
            · exact HV.out j h
            · have := HS.out.size; simp at h; omega
          · exact (HS.out.thenN (St.alloc' No wr _) (fun j hj => hj.elim)).thenN HS4.out (fun j hj => HV.out j hj)
        · obtain rfl : k = C := by omega
          have hown := HO.out
          obtain ⟨g, cc, rfl⟩ : ∃ g cc, V' = .slice (some ⟨g, 0, none⟩) k cc := by
            rcases hown.2 with ⟨_, h⟩ | ⟨g, cap, cur, h, _⟩
            · omega
            · exact ⟨g, cap, h⟩
          have hgn : w3.heap.size ≤ g := HV.out g (by simp [fpV, Value.ownBlock])
          clear hown
          go_wp2_with fail
          go_loopw [18, 19] (fun x t wq => ∃ (j : Nat) (come : List Bool) (F : Nat → Prop), j ≤ os.length + k ∧ t = .int .i64 j ∧ x = .int .i64 ((k : Int) - (come.count true : Int)) ∧ Hid (come.length = k) ∧ Hid (come.count true < k) ∧ Hid (Own wq 4 1 (.slice (some ⟨g, 0, none⟩) k cc) k (blv come)) ∧ Hid (Jn wq F pj 1 1 (cameS (frm, (id.toNat : Int)) xs k come)) ∧ Hid (¬ F g) ∧ Hid (Lo w2.heap.size F) ∧ Hid (St No w2 (Nw w2) wq) ∧ Hid (∀ q, q + os.length < j → come[q]? = some true)) (fun _ t _ => os.length + k - (intOf t).toNat)
          case atStart =>
            refine ⟨0, List.replicate k false, F, by omega, rfl, by simp [List.count_replicate], Lib.hid (by simp), Lib.hid (by simp [List.count_replicate]; omega), HO, Lib.hid ?_, Lib.hid (fun hf => by have := HJ3.out.in g hf; omega), Lib.hid (fun q hq => (HS3.out.new q hq).elim (fun h => h.elim) (fun h => h)), Lib.hid (HS3.out.then HS.out), Lib.hid (fun q hq => by omega)⟩
            have h1 : cameS (frm, (id.toNat : Int)) xs k (List.replicate k false) = [] := by unfold cameS; rw [if_pos (by simp [List.count_replicate])]
            rw [h1]
            exact HJ3.out.st HS.out (Dj.no _)
          case round =>
            obtain ⟨j, come, F2, hj, rfl, rfl, HCL, HCC, HOW, HJN, HFG, HLO, HSS, HPR⟩ := hrel
            have HWQ : Hid (∀ {y : Addr} (v : Value), w.cell? y = some v → wr.cell? y = some v) := Lib.hid (fun v h => (HS2.out.trans (HSS.out.drop (G' := No) (fun _ h => h.elim))).cellNo h)
            by_cases hjt : j < os.length + k
            · have hix : ∃ ix : Nat, ix < k ∧ ((∃ h : j < os.length, posI os[j] k = (ix : Int)) ∨ (os.length ≤ j ∧ ix = j - os.length)) := by
                by_cases h : j < os.length
                · have hp := posI_range (x := os[j]) (n := (k : Int)) (by omega)
                  exact ⟨(posI os[j] k).toNat, by omega, .inl ⟨h, by omega⟩⟩
                · exact ⟨j - os.length, by omega, .inr ⟨by omega, rfl⟩⟩
              obtain ⟨ix, hixk, hixc⟩ := hix
              have hds : (splitL xs id k)[ix]? = some (dgram (fragB xs id k ix)) := splitL_get xs id k ix hixk
              have hdl2 : ix < (splitL xs id k).length := by rw [splitL_len]; exact hixk
              obtain ⟨d2x, b2, bc, hda, hdc, hbs2⟩ := RdL.at (Grams.rdl (c := c2) (by rw [splitL_len]; exact HG2.out)) ix hdl2
              have hdsx : (splitL xs id k)[ix] = dgram (fragB xs id k ix) := by rw [List.getElem?_eq_getElem hdl2] at hds; exact Option.some.inj hds
              rw [hdsx] at hdc hbs2
              have hsh := HCN.out ix hixk
              have hdl : (dgram (fragB xs id k ix)).length ≤ 1024 := by
                rw [dgram_len]
                show 18 + (partB xs k ix).length ≤ 1024
                omega
              have hlook := dgram_look (fragB xs id k ix) hsh.1 hsh.2.1 (by show (partB xs k ix).length ≤ 1006; omega)
              have HTA := Lib.hid (take_any (packet := xs) (id := id) h255 come HCL.out hixk HCC.out hlook.1 hlook.2 (fun e => by have := hsh.2.1; rw [e] at this; simp at this) f6)
              have HCS : Hid ((cameS (frm, (id.toNat : Int)) xs k come).length ≤ 4096) := Lib.hid (by unfold cameS; split <;> simp)
              have hdcr := HSS.out.toNew
              subst hda
              have hcr : wr.cell? (d2x.add ix) = some (.slice b2 (dgram (fragB xs id k ix)).length bc) := (World.cell?_of_block (HSS.out.block _ (World.block_lt_of_cell? w2 _ hdc) (fun e => e))).trans hdc
              have HB5 := Lib.hid hbs2
              have hixi : (ix : Int) < (k : Int) := by omega
              generalize hdse : dgram (fragB xs id k ix) = ds at *
              have HDSE := Lib.hid hdse
              clear hds hdl2 hdc hdsx hbs2 hsh hlook hdse hdcr
              rcases hixc with ⟨hjo, hpo⟩ | ⟨hjo, hpo⟩
              · have HPX : Hid (os.length ≤ j → ix = j - os.length) := Lib.hid (fun h => by omega)
                obtain ⟨ya, rfl, hoc⟩ := HI.out.at j hjo
                have hiw := HWF.out _ (List.getElem_mem hjo)
                generalize os[j] = oj at *
                have HPOS := Lib.hid (fun W => pos_calls oj k (by omega) (by omega) hiw W)
                rw [hpo] at HPOS
                have hws : wr.cell? (ya.add j) = some (.int .i64 oj) := (HWQ.out _ hoc)
                have hjo2 : (j : Int) < (os.length : Int) := by omega
                clear hoc hpo hiw
                go_wp2_with (go_at_call 54; refine (HPOS.out _).mono ?_; rintro e w9 ⟨rfl, rfl⟩)
                refine (clone4_calls b2 bc ds (by omega) _ (HB5.out.st HSS.out (Dj.no _))).mono ?_
                rintro e w5 ⟨v5, rfl, ho5, hs5⟩
                obtain ⟨a5, c5, rfl, y1, y2, _, _⟩ := ho5.form
                have HO5 := Lib.hid ho5
                have HS5 := Lib.hid hs5
                have HTK := Lib.hid (jtake_calls a5 c5 ds (by omega) y1 y2 w5 ho5.bs frm hfr F2 pj 1 1 _ HCS.out (HJN.out.st hs5 (Dj.no _)))
                clear ho5 hs5
                go_wp2_with fail
                rw [HTA.out] at HTK
                have hog := (HOW.out.st HS5.out (Dj.no _))
                have hcn := HCC.out
                have hclx : ix < come.length := by rw [HCL.out]; exact hixk
                have hgl : g < w5.heap.size := hog.in g (by simp [fpV, Value.ownBlock])
                by_cases hcm : come.getD ix false = true
                · rw [if_pos hcm] at HTK
                  refine HTK.out.mono ?_
                  rintro e w6 ⟨V6, F6, rfl, ho6, hj6, hs6, hd6⟩
                  obtain ⟨a6, c6, rfl, _, _, _, _⟩ := ho6.form
                  have hog6 := hog.st hs6 (fun q hq hv => HFG.out (by have e : g = q := (by simpa [fpV, Value.ownBlock] using hv); rw [e]; exact hq))
                  have hcv : (blv come)[ix]? = some (.bool true) := by
                    rw [List.getD_eq_getElem?_getD] at hcm
                    unfold blv
                    rw [List.getElem?_map]
                    cases hq : come[ix]? with
                    | none => rw [hq] at hcm; simp at hcm
                    | some b => rw [hq] at hcm; simp at hcm; simp [hcm]
                  have g0 := hog6.cellAt ix _ hcv
                  have HCMX : Hid (come[ix]? = some true) := Lib.hid (by
                    rw [List.getD_eq_getElem?_getD] at hcm
                    cases hq : come[ix]? with
                    | none => rw [hq] at hcm; simp at hcm
                    | some b => rw [hq] at hcm; simp at hcm; rw [hcm])
                  have HOG6 := Lib.hid hog6
                  have HJ6 := Lib.hid hj6
                  have HS6 := Lib.hid hs6
                  have HF6 : Hid (¬ F6 g) := Lib.hid (fun hf => (hs6.new g (.inl hf)).elim HFG.out (fun hl => by omega))
                  clear hog hog6 hj6 hs6 hd6 ho6 hcv hcm
                  have hcc1 : ((k : Int) - (come.count true : Int) == 0) = false := by simp; omega
                  generalize hct : come.count true = ct at *
                  have HCT := Lib.hid hct
                  clear hct
                  go_wp2
                  have z1 := HSS.out.size
                  have z2 := HS5.out.size
                  refine ⟨⟨j + 1, come, F6, by omega, by simp, by rw [HCT.out], HCL, Lib.hid (by rw [HCT.out]; exact hcn), HOG6, HJ6, HF6, Lib.hid (fun q hq => (HS6.out.new q (.inl hq)).elim (HLO.out q) (fun hl => by omega)), Lib.hid ((HSS.out.thenN HS5.out (fun q hq => hq.elim)).thenN HS6.out (fun q hq => HLO.out q hq)), Lib.hid (fun q hq => by
                    by_cases hqj : q + os.length < j
                    · exact HPR.out q hqj
                    · have hq2 : q = ix := by have := HPX.out (by omega); omega
                      rw [hq2]
                      exact HCMX.out)⟩, by simp [intOf]; omega⟩
                · rw [if_neg hcm] at HTK
                  have hcs := count_set (come := come) (i := ix) hclx (by simpa using hcm)
                  have hcv : (blv come)[ix]? = some (.bool false) := by
                    rw [List.getD_eq_getElem?_getD, List.getElem?_eq_getElem hclx, Option.getD_some] at hcm
                    unfold blv
                    rw [List.getElem?_map, List.getElem?_eq_getElem hclx]
                    simp at hcm
                    simp [hcm]
                  have hbset : (blv come).set ix (.bool true) = blv (come.set ix true) := by unfold blv; rw [List.map_set]
                  have HBSET := Lib.hid hbset
                  have HCS2 := Lib.hid hcs
                  clear hbset
                  by_cases hfull : (come.set ix true).count true = k
                  · rw [if_pos hfull] at HTK
                    refine HTK.out.mono ?_
                    rintro e w6 ⟨V6, F6, rfl, ho6, hj6, hs6, hd6⟩
                    obtain ⟨a6, c6, rfl, _, _, hv6, _⟩ := ho6.form
                    have hog6 := hog.st hs6 (fun q hq hv => HFG.out (by have e : g = q := (by simpa [fpV, Value.ownBlock] using hv); rw [e]; exact hq))
                    have g0 := hog6.cellAt ix _ hcv
                    have g1 := hog6.freeAt ix
                    have hn6 : ∀ q, fpV (.slice a6 xs.length c6) q → q ≠ g := fun q hq e => by
                      subst e
                      exact (hs6.new _ (.inr hq)).elim HFG.out (fun hl => by omega)
                    have HS6 := Lib.hid hs6
                    have hstc := St.setCell (F := fpB g) w6 ⟨g, ix, none⟩ (.bool true) rfl
                    have hb6 : Bs (w6.setCell ⟨g, ix, none⟩ (.bool true)) a6 xs := (OwB.bs ho6).st hstc (fun q hq ha => hn6 q ((hv6 q).2 ha) hq)
                    have hxx : St No w2 (Nw w2) (w6.setCell ⟨g, ix, none⟩ (.bool true)) := ((HSS.out.thenN HS5.out (fun q hq => hq.elim)).thenN hs6 (fun q hq => HLO.out q hq)).thenN hstc (fun q hq => by have e : q = g := hq; have := HS3.out.size; omega)
                    have hv1 := conv_bs (c := c6) hb6
                    have hv2 := conv_bs (c := c) (HA.out.st (HS2.out.trans (hxx.drop (G' := No) (fun _ h => h.elim))) (Dj.no _))
                    have hbq := strB_beq xs xs
                    rw [decide_eq_true rfl] at hbq
                    have HXX := Lib.hid hxx
                    have hcc1 : ((k : Int) - (come.count true : Int) - 1 == 0) = true := by simp; omega
                    have hcc2 : (k : Int) - (come.count true : Int) - 1 = 0 := by omega
                    clear hog hog6 hj6 hs6 hd6 ho6 hcv hcm hn6 hstc hb6 hxx hv6
                    generalize hct : come.count true = ct at *
                    clear hct
                    go_wp2
                    go_ret
                    exact ⟨rfl, (HS2.out.trans (HXX.out.drop (G' := No) (fun _ h => h.elim))).below⟩
                  · rw [if_neg hfull] at HTK
                    refine HTK.out.mono ?_
                    rintro e w6 ⟨V6, F6, rfl, ho6, hj6, hs6, hd6⟩
                    obtain ⟨a6, c6, rfl, _, _, _, _⟩ := ho6.form
                    have hog6 := hog.st hs6 (fun q hq hv => HFG.out (by have e : g = q := (by simpa [fpV, Value.ownBlock] using hv); rw [e]; exact hq))
                    have g0 := hog6.cellAt ix _ hcv
                    have g1 := hog6.freeAt ix
                    have hf6 : ¬ F6 g := fun hf => (hs6.new g (.inl hf)).elim HFG.out (fun hl => by omega)
                    have hstc := St.setCell (F := fpB g) w6 ⟨g, ix, none⟩ (.bool true) rfl
                    have HOG6 : Hid (Own (w6.setCell ⟨g, ix, none⟩ (.bool true)) 4 1 (.slice (some ⟨g, 0, none⟩) k cc) k (blv (come.set ix true))) := Lib.hid (by have := hog6.set ix (.bool true); rw [HBSET.out] at this; exact this)
                    have HJ6 := Lib.hid (hj6.st hstc (fun q hq hf => by have e : q = g := hq; rw [e] at hf; exact hf6 hf))
                    have HXX : Hid (St No w2 (Nw w2) (w6.setCell ⟨g, ix, none⟩ (.bool true))) := Lib.hid (((HSS.out.thenN HS5.out (fun q hq => hq.elim)).thenN hs6 (fun q hq => HLO.out q hq)).thenN hstc (fun q hq => by have e : q = g := hq; have := HS3.out.size; omega))
                    have HS6 := Lib.hid hs6
                    have HF6 := Lib.hid hf6
                    have hlt2 : (come.set ix true).count true < k := by
                      have := List.count_le_length (a := true) (l := come.set ix true)
                      rw [List.length_set, HCL.out] at this
                      omega
                    have hcc1 : ((k : Int) - (come.count true : Int) - 1 == 0) = false := by simp; omega
                    clear hog hog6 hj6 hs6 hd6 ho6 hcv hcm hstc hf6
                    generalize hct : come.count true = ct at *
                    have HCT := Lib.hid hct
                    clear hct
                    go_wp2
                    have z1 := HSS.out.size
                    have z2 := HS5.out.size
                    refine ⟨⟨j + 1, come.set ix true, F6, by omega, by simp, by rw [HCS2.out]; congr 1; omega, Lib.hid (by rw [List.length_set]; exact HCL.out), Lib.hid hlt2, HOG6, HJ6, HF6, Lib.hid (fun q hq => (HS6.out.new q (.inl hq)).elim (HLO.out q) (fun hl => by omega)), HXX, Lib.hid (fun q hq => by
                      by_cases hqi : ix = q
                      · subst hqi
                        rw [List.getElem?_set_self hclx]
                      · rw [List.getElem?_set_ne hqi]
                        by_cases hqj : q + os.length < j
                        · exact HPR.out q hqj
                        · exact absurd (by have := HPX.out (by omega); omega) hqi)⟩, by simp [intOf]; omega⟩
              · have hjx : (j : Int) - (os.length : Int) = (ix : Int) := by omega
                have hjo2 : ¬ (j : Int) < (os.length : Int) := by omega
                have HPX : Hid (os.length ≤ j → ix = j - os.length) := Lib.hid (fun _ => hpo)
                clear hpo
                go_wp2_with fail
                refine (clone4_calls b2 bc ds (by omega) _ (HB5.out.st HSS.out (Dj.no _))).mono ?_
                rintro e w5 ⟨v5, rfl, ho5, hs5⟩
                obtain ⟨a5, c5, rfl, y1, y2, _, _⟩ := ho5.form
                have HO5 := Lib.hid ho5
                have HS5 := Lib.hid hs5
                have HTK := Lib.hid (jtake_calls a5 c5 ds (by omega) y1 y2 w5 ho5.bs frm hfr F2 pj 1 1 _ HCS.out (HJN.out.st hs5 (Dj.no _)))
                clear ho5 hs5
                go_wp2_with fail
                rw [HTA.out] at HTK
                have hog := (HOW.out.st HS5.out (Dj.no _))
                have hcn := HCC.out
                have hclx : ix < come.length := by rw [HCL.out]; exact hixk
                have hgl : g < w5.heap.size := hog.in g (by simp [fpV, Value.ownBlock])
                by_cases hcm : come.getD ix false = true
                · rw [if_pos hcm] at HTK
                  refine HTK.out.mono ?_
                  rintro e w6 ⟨V6, F6, rfl, ho6, hj6, hs6, hd6⟩
                  obtain ⟨a6, c6, rfl, _, _, _, _⟩ := ho6.form
                  have hog6 := hog.st hs6 (fun q hq hv => HFG.out (by have e : g = q := (by simpa [fpV, Value.ownBlock] using hv); rw [e]; exact hq))
                  have hcv : (blv come)[ix]? = some (.bool true) := by
                    rw [List.getD_eq_getElem?_getD] at hcm
                    unfold blv
                    rw [List.getElem?_map]
                    cases hq : come[ix]? with
                    | none => rw [hq] at hcm; simp at hcm
                    | some b => rw [hq] at hcm; simp at hcm; simp [hcm]
                  have g0 := hog6.cellAt ix _ hcv
                  have HCMX : Hid (come[ix]? = some true) := Lib.hid (by
                    rw [List.getD_eq_getElem?_getD] at hcm
                    cases hq : come[ix]? with
                    | none => rw [hq] at hcm; simp at hcm
                    | some b => rw [hq] at hcm; simp at hcm; rw [hcm])
                  have HOG6 := Lib.hid hog6
                  have HJ6 := Lib.hid hj6
                  have HS6 := Lib.hid hs6
                  have HF6 : Hid (¬ F6 g) := Lib.hid (fun hf => (hs6.new g (.inl hf)).elim HFG.out (fun hl => by omega))
                  clear hog hog6 hj6 hs6 hd6 ho6 hcv hcm
                  have hcc1 : ((k : Int) - (come.count true : Int) == 0) = false := by simp; omega
                  generalize hct : come.count true = ct at *
                  have HCT := Lib.hid hct
                  clear hct
                  go_wp2
                  have z1 := HSS.out.size
                  have z2 := HS5.out.size
                  refine ⟨⟨j + 1, come, F6, by omega, by simp, by rw [HCT.out], HCL, Lib.hid (by rw [HCT.out]; exact hcn), HOG6, HJ6, HF6, Lib.hid (fun q hq => (HS6.out.new q (.inl hq)).elim (HLO.out q) (fun hl => by omega)), Lib.hid ((HSS.out.thenN HS5.out (fun q hq => hq.elim)).thenN HS6.out (fun q hq => HLO.out q hq)), Lib.hid (fun q hq => by
                    by_cases hqj : q + os.length < j
                    · exact HPR.out q hqj
                    · have hq2 : q = ix := by have := HPX.out (by omega); omega
                      rw [hq2]
                      exact HCMX.out)⟩, by simp [intOf]; omega⟩
                · rw [if_neg hcm] at HTK
                  have hcs := count_set (come := come) (i := ix) hclx (by simpa using hcm)
                  have hcv : (blv come)[ix]? = some (.bool false) := by
                    rw [List.getD_eq_getElem?_getD, List.getElem?_eq_getElem hclx, Option.getD_some] at hcm
                    unfold blv
                    rw [List.getElem?_map, List.getElem?_eq_getElem hclx]
                    simp at hcm
                    simp [hcm]
                  have hbset : (blv come).set ix (.bool true) = blv (come.set ix true) := by unfold blv; rw [List.map_set]
                  have HBSET := Lib.hid hbset
                  have HCS2 := Lib.hid hcs
                  clear hbset
                  by_cases hfull : (come.set ix true).count true = k
                  · rw [if_pos hfull] at HTK
                    refine HTK.out.mono ?_
                    rintro e w6 ⟨V6, F6, rfl, ho6, hj6, hs6, hd6⟩
                    obtain ⟨a6, c6, rfl, _, _, hv6, _⟩ := ho6.form
                    have hog6 := hog.st hs6 (fun q hq hv => HFG.out (by have e : g = q := (by simpa [fpV, Value.ownBlock] using hv); rw [e]; exact hq))
                    have g0 := hog6.cellAt ix _ hcv
                    have g1 := hog6.freeAt ix
                    have hn6 : ∀ q, fpV (.slice a6 xs.length c6) q → q ≠ g := fun q hq e => by
                      subst e
                      exact (hs6.new _ (.inr hq)).elim HFG.out (fun hl => by omega)
                    have HS6 := Lib.hid hs6
                    have hstc := St.setCell (F := fpB g) w6 ⟨g, ix, none⟩ (.bool true) rfl
                    have hb6 : Bs (w6.setCell ⟨g, ix, none⟩ (.bool true)) a6 xs := (OwB.bs ho6).st hstc (fun q hq ha => hn6 q ((hv6 q).2 ha) hq)
                    have hxx : St No w2 (Nw w2) (w6.setCell ⟨g, ix, none⟩ (.bool true)) := ((HSS.out.thenN HS5.out (fun q hq => hq.elim)).thenN hs6 (fun q hq => HLO.out q hq)).thenN hstc (fun q hq => by have e : q = g := hq; have := HS3.out.size; omega)
                    have hv1 := conv_bs (c := c6) hb6
                    have hv2 := conv_bs (c := c) (HA.out.st (HS2.out.trans (hxx.drop (G' := No) (fun _ h => h.elim))) (Dj.no _))
                    have hbq := strB_beq xs xs
                    rw [decide_eq_true rfl] at hbq
                    have HXX := Lib.hid hxx
                    have hcc1 : ((k : Int) - (come.count true : Int) - 1 == 0) = true := by simp; omega
                    have hcc2 : (k : Int) - (come.count true : Int) - 1 = 0 := by omega
                    clear hog hog6 hj6 hs6 hd6 ho6 hcv hcm hn6 hstc hb6 hxx hv6
                    generalize hct : come.count true = ct at *
                    clear hct
                    go_wp2
                    go_ret
                    exact ⟨rfl, (HS2.out.trans (HXX.out.drop (G' := No) (fun _ h => h.elim))).below⟩
                  · rw [if_neg hfull] at HTK
                    refine HTK.out.mono ?_
                    rintro e w6 ⟨V6, F6, rfl, ho6, hj6, hs6, hd6⟩
                    obtain ⟨a6, c6, rfl, _, _, _, _⟩ := ho6.form
                    have hog6 := hog.st hs6 (fun q hq hv => HFG.out (by have e : g = q := (by simpa [fpV, Value.ownBlock] using hv); rw [e]; exact hq))
                    have g0 := hog6.cellAt ix _ hcv
                    have g1 := hog6.freeAt ix
                    have hf6 : ¬ F6 g := fun hf => (hs6.new g (.inl hf)).elim HFG.out (fun hl => by omega)
                    have hstc := St.setCell (F := fpB g) w6 ⟨g, ix, none⟩ (.bool true) rfl
                    have HOG6 : Hid (Own (w6.setCell ⟨g, ix, none⟩ (.bool true)) 4 1 (.slice (some ⟨g, 0, none⟩) k cc) k (blv (come.set ix true))) := Lib.hid (by have := hog6.set ix (.bool true); rw [HBSET.out] at this; exact this)
                    have HJ6 := Lib.hid (hj6.st hstc (fun q hq hf => by have e : q = g := hq; rw [e] at hf; exact hf6 hf))
                    have HXX : Hid (St No w2 (Nw w2) (w6.setCell ⟨g, ix, none⟩ (.bool true))) := Lib.hid (((HSS.out.thenN HS5.out (fun q hq => hq.elim)).thenN hs6 (fun q hq => HLO.out q hq)).thenN hstc (fun q hq => by have e : q = g := hq; have := HS3.out.size; omega))
                    have HS6 := Lib.hid hs6
                    have HF6 := Lib.hid hf6
                    have hlt2 : (come.set ix true).count true < k := by
                      have := List.count_le_length (a := true) (l := come.set ix true)
                      rw [List.length_set, HCL.out] at this
                      omega
                    have hcc1 : ((k : Int) - (come.count true : Int) - 1 == 0) = false := by simp; omega
                    clear hog hog6 hj6 hs6 hd6 ho6 hcv hcm hstc hf6
                    generalize hct : come.count true = ct at *
                    have HCT := Lib.hid hct
                    clear hct
                    go_wp2
                    have z1 := HSS.out.size
                    have z2 := HS5.out.size
                    refine ⟨⟨j + 1, come.set ix true, F6, by omega, by simp, by rw [HCS2.out]; congr 1; omega, Lib.hid (by rw [List.length_set]; exact HCL.out), Lib.hid hlt2, HOG6, HJ6, HF6, Lib.hid (fun q hq => (HS6.out.new q (.inl hq)).elim (HLO.out q) (fun hl => by omega)), HXX, Lib.hid (fun q hq => by
                      by_cases hqi : ix = q
                      · subst hqi
                        rw [List.getElem?_set_self hclx]
                      · rw [List.getElem?_set_ne hqi]
                        by_cases hqj : q + os.length < j
                        · exact HPR.out q hqj
                        · exact absurd (by have := HPX.out (by omega); omega) hqi)⟩, by simp [intOf]; omega⟩
            · exfalso
              have h1 : come.count true = come.length := by
                rw [List.count_eq_length]
                intro b hb
                obtain ⟨q, hq, rfl⟩ := List.mem_iff_getElem.1 hb
                have h2 := HPR.out q (by have := HCL.out; omega)
                rw [List.getElem?_eq_getElem hq] at h2
                exact (Option.some.inj h2).symm
              have h2 := HCL.out
              have h3 := HCC.out
              omega
end Go.Proofs.Ytoeafacamapofaa
