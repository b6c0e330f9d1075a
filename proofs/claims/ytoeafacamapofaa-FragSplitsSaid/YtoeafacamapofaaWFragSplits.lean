
/-
  FragSplits, walked: it returns true.
-/
import Derived.Test.YtoeafacamapofaaFgProg2
import Derived.Test.YtoeafacamapofaaFgStr
namespace Go.Proofs.Ytoeafacamapofaa
open Go.RowKit
set_option linter.unusedVariables false
set_option linter.unusedSimpArgs false

theorem splitB_few (xs : List B8) (id : BitVec 64) (mtu : Int) : (splitB xs id mtu).length ≤ 90 := by
  unfold splitB
  split
  · rename_i h
    rw [splitL_len]
    unfold splitE at h
    split at h
    · cases h
    · split at h
      · cases h
      · exact (split_facts (by omega) (by omega) (by omega) (by omega)).2.1
  · simp
theorem splitB_small (xs : List B8) (id : BitVec 64) (mtu : Int) (i : Nat) (d : List B8) (h : (splitB xs id mtu)[i]? = some d) : d.length ≤ 1024 := by
  unfold splitB at h
  split at h
  · rename_i he
    have hf : 64 ≤ mtu ∧ mtu ≤ 1024 ∧ 1 ≤ xs.length ∧ xs.length ≤ 4096 := by
      unfold splitE at he
      split at he
      · cases he
      · split at he
        · cases he
        · omega
    have hs := split_facts (len := xs.length) (mtu := mtu.toNat) (by omega) (by omega) hf.2.2.1 hf.2.2.2
    unfold splitL at h
    rw [List.getElem?_map] at h
    cases hr : (List.range (countN xs.length mtu.toNat))[i]? with
    | none => rw [hr] at h; cases h
    | some j =>
      rw [hr] at h
      cases h
      rw [dgram_len]
      have hp : (fragB xs id (countN xs.length mtu.toNat) j).part.length ≤ sizeN xs.length (countN xs.length mtu.toNat) := by
        show (partB _ _ _).length ≤ _
        rw [partB_len]
        exact Nat.min_le_left _ _
      omega
  · simp at h
theorem Dr.no {w w' : World} (h : Dr w w') : St No w No w' := h.st No
theorem Own.atG {w : World} {a : Option Addr} {c n : Nat} {vs : List Value} (h : Own w 25 1 (.slice a n c) n vs) (i : Nat) (hi : i < vs.length) : ∃ x, a = some x ∧ w.cell? (x.add i) = some vs[i] := h.rd i _ (List.getElem?_eq_getElem hi)

set_option maxRecDepth 100000 in
set_option maxHeartbeats 4000000 in
theorem fragSplits_walk (a : Option Addr) (c : Nat) (xs : List B8) (hl : xs.length ≤ 140737488351232) (id : BitVec 64) (mtu : Int) (w : World) (ha : Bs w a xs) :
    Calls Try.prog 5 #[.slice a xs.length c, .int .u64 (id.toNat : Int), .int .i64 mtu] w fun e w' => e = .returned (.bool true) ∧ Below w.heap.size w w' := by
  have HA := Lib.hid ha
  have hfew := splitB_few xs id mtu
  have HRS := Lib.hid (refSplit_calls (a := none) (c := 0) xs hl id mtu)
  clear ha HRS
  go_enter Try.func5, Try.ntmps5
  go_wp2_with fail
  refine (roomy_calls a c xs hl w HA.out).mono ?_
  rintro e w1 ⟨g, c1, rfl, hc1, hc2, hr1, hg1, hs1⟩
  have HR1 := Lib.hid hr1
  have HG1 := Lib.hid hg1
  have HS1 := Lib.hid hs1
  have HC2 := Lib.hid hc2
  have hin1 : In (fpV (.slice (some ⟨g, 0, none⟩) xs.length c1)) w1 := hr1.own.in
  have HIN1 := Lib.hid hin1
  unfold maxLen at hc2
  clear hr1 hg1 hs1 hin1
  go_wp2_with fail
  refine (clone4_calls a c xs hl w1 (HA.out.st HS1.out (Dj.no _))).mono ?_
  rintro e w2 ⟨v2, rfl, ho2, hs2⟩
  obtain ⟨a2, c2, rfl, hb2, hn2⟩ := ho2.any
  have HB2 := Lib.hid hb2
  have HS2 : Hid (St No w1 No w2) := Lib.hid (hs2.drop (fun _ h => h.elim))
  clear ho2 hb2 hs2 hn2
  go_wp2_with fail
  refine (refSplit_calls a2 c2 xs hl id mtu w2 HB2.out).mono ?_
  rintro e w3 ⟨V3, vs3, rfl, hg3, hs3⟩
  obtain ⟨a3, c3, e3⟩ := hg3.form
  generalize hds : splitB xs id mtu = ds at *
  have HDS := Lib.hid hds
  subst e3
  have HGW := Lib.hid hg3
  have HS3 := Lib.hid hs3
  have HR3 : Hid (Roomy w3 g c1 xs) := Lib.hid (((HR1.out.st HS2.out (fun h => h)).st hs3 (fun h => h)))
  have HIN3 : Hid (In (fpV (.slice (some ⟨g, 0, none⟩) xs.length c1)) w2) := Lib.hid (HIN1.out.st HS2.out)
  clear hg3 hs3 hds
  go_wp2_with fail
  refine (split_calls (some ⟨g, 0, none⟩) c1 xs hl (by omega) HC2.out (fun h => by cases h) id mtu w3 HR3.out.own.bs).mono ?_
  rintro e w4 ⟨V4, vs4, rfl, hg4, hs4⟩
  rw [HDS.out] at hg4
  obtain ⟨a4, c4, e4⟩ := hg4.form
  subst e4
  have HGA := Lib.hid hg4
  have HS4 := Lib.hid hs4
  have HGW4 : Hid (Grams w4 (.slice a3 ds.length c3) vs3 ds) := Lib.hid (HGW.out.st hs4 (Dj.no _))
  have HD43 : Hid (Dj (fpG (.slice a4 ds.length c4) vs4) (fpG (.slice a3 ds.length c3) vs3)) := Lib.hid (HGW.out.in.dj_new hs4)
  have HR4 : Hid (Roomy w4 g c1 xs) := Lib.hid (HR3.out.st hs4 (fun h => h))
  have HDP3 : Hid (Dj (fpV (.slice (some ⟨g, 0, none⟩) xs.length c1)) (fpG (.slice a3 ds.length c3) vs3)) := Lib.hid (HIN3.out.dj_new HS3.out).symm
  have HDP4 : Hid (Dj (fpV (.slice (some ⟨g, 0, none⟩) xs.length c1)) (fpG (.slice a4 ds.length c4) vs4)) := Lib.hid (HR3.out.own.in.dj_new hs4).symm
  have HW4 : Hid (St No w No w4) := Lib.hid (((HS1.out.trans HS2.out).trans (HS3.out.drop (G' := No) (fun _ h => h.elim))).trans (hs4.drop (fun _ h => h.elim)))
  clear hg4 hs4
  have HSA4 := Lib.hid (sameAll_calls a4 c4 ds a3 c3 ds (by omega) (by omega) w4 HGA.out.rdl HGW4.out.rdl)
  rw [decide_eq_true (rfl : ds = ds)] at HSA4
  go_wp2_with fail
  refine HSA4.out.mono ?_
  rintro e w5 ⟨rfl, hd5⟩
  have hs5 := hd5.no
  have HGA5 := Lib.hid (HGA.out.st hs5 (Dj.no _))
  have HGW5 := Lib.hid (HGW4.out.st hs5 (Dj.no _))
  have HR5 := Lib.hid (HR4.out.st hs5 (fun h => h))
  have HW5 := Lib.hid (HW4.out.trans hs5)
  clear hd5 hs5 HGA HGW HGW4 HR4 HW4 HSA4 HR3 HR1
  have hv1 := conv_bs (w := w5) (c := c1) HR5.out.own.bs
  have hv2 := conv_bs (w := w5) (c := c) (HA.out.st HW5.out (Dj.no _))
  have HRK := Lib.hid (roomKept_calls g c1 xs hl hc1 HC2.out w5 HR5.out)
  have hne : (splitE xs.length mtu != splitE xs.length mtu) = false := by simp
  generalize splitE xs.length mtu = er at *
  go_wp2_with (first
    | (go_at_call 35; refine HRK.out.mono ?_; rintro e w6 ⟨rfl, rfl⟩)
    | (go_at_call 36; refine (num4_calls er _).mono ?_; rintro e w6 ⟨rfl, rfl⟩))
  refine (spoil_calls (.slice (some ⟨g, 0, none⟩) xs.length c1) xs hl 17#8 w5 HR5.out.own).mono ?_
  rintro e w6 ⟨rfl, F6, hs6⟩
  have HGA6 : Hid (Grams w6 (.slice a4 ds.length c4) vs4 ds) := Lib.hid (HGA5.out.st hs6 HDP4.out)
  have HGW6 : Hid (Grams w6 (.slice a3 ds.length c3) vs3 ds) := Lib.hid (HGW5.out.st hs6 HDP3.out)
  have HW6 : Hid (St No w No w6) := Lib.hid ((HW5.out.toNew.trans (hs6.wide (F' := Nw w) (fun k hk => by simp [fpV, Value.ownBlock] at hk; subst hk; exact HG1.out) (fun k hk => .inr hk))).drop (fun _ h => h.elim))
  clear hs6 HGA5 HGW5 HW5 HR5 HDP3 HDP4 hv1 hv2 HRK hne HIN1 HIN3
  have HSA6 := Lib.hid (sameAll_calls a4 c4 ds a3 c3 ds (by omega) (by omega) w6 HGA6.out.rdl HGW6.out.rdl)
  rw [decide_eq_true (rfl : ds = ds)] at HSA6
  go_wp2_with fail
  refine HSA6.out.mono ?_
  rintro e w7 ⟨rfl, hd7⟩
  have hs7 := hd7.no
  have HGA7 := Lib.hid (HGA6.out.st hs7 (Dj.no _))
  have HGW7 := Lib.hid (HGW6.out.st hs7 (Dj.no _))
  have HW7 := Lib.hid (HW6.out.trans hs7)
  clear hd7 hs7 HGA6 HGW6 HW6 HSA6
  have HVL : Hid (vs4.length = ds.length) := Lib.hid HGA7.out.len
  have HOFF : Hid (∀ (i : Nat) (v : Value), vs4[i]? = some v → Dj (fpV v) (fpV (.slice a4 ds.length c4))) := Lib.hid HGA7.out.off
  have HAP : Hid (∀ (i j : Nat) (u v : Value), i ≠ j → vs4[i]? = some u → vs4[j]? = some v → Dj (fpV u) (fpV v)) := Lib.hid HGA7.out.apart
  have HNEW : Hid (∀ k, fpG (.slice a4 ds.length c4) vs4 k → w.heap.size ≤ k) := Lib.hid (fun k hk => Nat.le_trans (Nat.le_trans HS1.out.size (Nat.le_trans HS2.out.size HS3.out.size)) (HS4.out.newOf k hk))
  go_wp2
  go_loopw [14] (fun i wr => ∃ k : Nat, k ≤ ds.length ∧ i = .int .i64 k ∧ Hid (Own wr 25 1 (.slice a4 ds.length c4) ds.length vs4) ∧ Hid (∀ (i : Nat) (v : Value) (d : List B8), k ≤ i → vs4[i]? = some v → ds[i]? = some d → OwB wr v d) ∧ Hid (Grams wr (.slice a3 ds.length c3) vs3 ds) ∧ Hid (St No w No wr)) (fun i _ => ds.length - (intOf i).toNat)
  case atStart => exact ⟨0, by omega, rfl, Lib.hid HGA7.out.own, Lib.hid (fun i v d _ hv hd => HGA7.out.each i v d hv hd), HGW7, HW7⟩
  case round =>
    clear HGA7 HGW7 HW7
    obtain ⟨k, hk, rfl, HOW, HEA, HGW, HWR⟩ := hrel
    by_cases hlt : k < ds.length
    · have hvl : k < vs4.length := by have := HVL.out; omega
      obtain ⟨y4, rfl, hc4⟩ := HOW.out.atG k hvl
      have hgv : vs4[k]? = some vs4[k] := List.getElem?_eq_getElem hvl
      have hgd : ds[k]? = some ds[k] := List.getElem?_eq_getElem hlt
      have hov := HEA.out k _ _ (Nat.le_refl _) hgv hgd
      obtain ⟨y3, b3, d3, rfl, hc3, hb3⟩ := HGW.out.rdl.at k hlt
      have HGV := Lib.hid hgv
      have hin := HOW.out.in
      obtain ⟨b4, d4, e4, hb4, _⟩ := hov.any
      have HDJ : Hid (Dj (fpV vs4[k]) (fpG (.slice (some y3) ds.length c3) vs3)) := Lib.hid (fun j hj1 hj2 => HD43.out j (fpG.sub hgv j hj1) hj2)
      have hkm : (k : Int) = ((BitVec.ofNat 8 k).toNat : Int) := by rw [BitVec.toNat_ofNat, Nat.mod_eq_of_lt (by omega)]
      have HSP : Hid (∀ n, Calls Try.prog 37 #[vs4[k], .int .u8 (k : Int)] (wr.drewN n) (SpOut (wr.drewN n) vs4[k])) := Lib.hid (fun n => by rw [hkm]; exact spoil_calls vs4[k] ds[k] (by have := splitB_small xs id mtu k ds[k] (by rw [HDS.out]; exact hgd); omega) _ _ (hov.st (St.drewN No wr n) (Dj.no _)))
      clear hkm
      rw [e4] at hc4 HGV HDJ HSP
      have hv1 := fun n => conv_bs (w := wr.drewN n) (c := d4) hb4
      have hv2 := fun n => conv_bs (w := wr.drewN n) (c := d3) hb3
      generalize ds[k] = dk at *
      clear hgv hgd hov hb3 hb4 e4
      go_wp2
      go_quiet (fail)
      go_wp2_with fail
      refine (HSP.out nq).mono ?_
      rintro e w8 ⟨rfl, F8, hs8⟩
      have hd8 := (St.drewN No wr nq)
      have HO8 : Hid (Own w8 25 1 (.slice (some y4) ds.length c4) ds.length vs4) := Lib.hid ((HOW.out.st hd8 (Dj.no _)).st hs8 (HOFF.out k _ HGV.out))
      have HE8 : Hid (∀ (i : Nat) (v : Value) (d : List B8), k + 1 ≤ i → vs4[i]? = some v → ds[i]? = some d → OwB w8 v d) := Lib.hid (fun i v d hi hv hd => ((HEA.out i v d (by omega) hv hd).st hd8 (Dj.no _)).st hs8 (HAP.out k i _ v (by omega) HGV.out hv))
      have HG8 : Hid (Grams w8 (.slice (some y3) ds.length c3) vs3 ds) := Lib.hid ((HGW.out.st hd8 (Dj.no _)).st hs8 HDJ.out)
      have HW8 : Hid (St No w No w8) := Lib.hid (((HWR.out.trans hd8).toNew.trans (hs8.wide (F' := Nw w) (fun j hj => HNEW.out j (fpG.sub HGV.out j hj)) (fun k hk => .inr hk))).drop (fun _ h => h.elim))
      clear hs8 hd8
      go_wp2
      go_roundw
      case rel => exact ⟨k + 1, by omega, by go_num, HO8, HE8, HG8, HW8⟩
      case measure => simp [intOf]; omega
    · obtain rfl : k = ds.length := by omega
      have HA8 := Lib.hid (HA.out.st HWR.out (Dj.no _))
      clear HOW HEA
      go_wp2_with fail
      refine (clone4_calls a c xs hl _ HA8.out).mono ?_
      rintro e w8 ⟨v8, rfl, ho8, hs8⟩
      obtain ⟨a8, c8, e8, q1, q2, q3, q4⟩ := ho8.form
      subst e8
      have HO8 := Lib.hid ho8
      have HQ4 : Hid (a8 = none → c8 = 0) := Lib.hid (fun h => (q4 h).2)
      have HG8 := Lib.hid (HGW.out.st hs8 (Dj.no _))
      have HW8 : Hid (St No w No w8) := Lib.hid (HWR.out.trans (hs8.drop (fun _ h => h.elim)))
      clear ho8 hs8 q3 q4
      go_wp2_with fail
      refine (split_calls a8 c8 xs hl q1 q2 HQ4.out id mtu w8 HO8.out.bs).mono ?_
      rintro e w9 ⟨V9, vs9, rfl, hg9, hs9⟩
      rw [HDS.out] at hg9
      obtain ⟨a9, c9, e9⟩ := hg9.form
      subst e9
      have HG9 := Lib.hid hg9
      have HGW9 := Lib.hid (HG8.out.st hs9 (Dj.no _))
      have HW9 : Hid (St No w No w9) := Lib.hid (HW8.out.trans (hs9.drop (fun _ h => h.elim)))
      clear hg9 hs9 q1 q2
      have HSA9 := Lib.hid (sameAll_calls a9 c9 ds a3 c3 ds (by omega) (by omega) w9 HG9.out.rdl HGW9.out.rdl)
      rw [decide_eq_true (rfl : ds = ds)] at HSA9
      go_wp2_with fail
      refine HSA9.out.mono ?_
      rintro e w10 ⟨rfl, hd10⟩
      have HW10 := Lib.hid (HW9.out.trans hd10.no)
      clear hd10
      go_wp2
      go_ret
      exact ⟨rfl, HW10.out.below⟩
end Go.Proofs.Ytoeafacamapofaa
