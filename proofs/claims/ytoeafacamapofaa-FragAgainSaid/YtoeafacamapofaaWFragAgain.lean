
/-
  FragAgain, walked: it returns true.
-/
import Derived.Test.YtoeafacamapofaaWFragSizes
import Derived.Test.YtoeafacamapofaaFgLookR4
namespace Go.Proofs.Ytoeafacamapofaa
open Go.RowKit
set_option linter.unusedVariables false
set_option linter.unusedSimpArgs false

theorem splitB_lens {xs ys : List B8} (h : xs.length = ys.length) (id : BitVec 64) (mtu : Int) : (splitB xs id mtu).length = (splitB ys id mtu).length ∧ ∀ (i : Nat) (d e : List B8), (splitB xs id mtu)[i]? = some d → (splitB ys id mtu)[i]? = some e → d.length = e.length := by
  unfold splitB
  rw [h]
  split
  · refine ⟨by rw [splitL_len, splitL_len], ?_⟩
    intro i d e hd he
    have hi : i < countN ys.length mtu.toNat := by
      have := (List.getElem?_eq_some_iff.1 hd).1
      rw [splitL_len] at this
      exact this
    rw [splitL_get _ _ _ _ hi] at hd he
    cases hd; cases he
    rw [dgram_len, dgram_len]
    show 18 + (partB xs _ _).length = 18 + (partB ys _ _).length
    rw [partB_len, partB_len, h]
  · exact ⟨rfl, fun i d e hd => by simp at hd⟩
theorem fill_over (e d : List B8) (k : Nat) (hl : e.length = d.length) (hk : k < e.length) : (e.take k ++ d.drop k).set k e[k] = e.take (k + 1) ++ d.drop (k + 1) := by
  have ht : (e.take k).length = k := by rw [List.length_take]; omega
  rw [List.set_append_right _ _ (by omega), ht, Nat.sub_self, List.drop_eq_getElem_cons (by omega : k < d.length), List.set_cons_zero, List.take_succ_eq_append_getElem hk, List.append_assoc]
  rfl
theorem xor1_u8 (y : B8) : bits .xor .u8 (y.toNat : Int) 1 = ((y ^^^ 1#8).toNat : Int) := bits_xor_u8 y 1#8
theorem OwB.head {w : World} {a : Option Addr} {c n : Nat} {xs : List B8} (h : OwB w (.slice a n c) xs) (hn : 0 < n) : ∃ g, a = some ⟨g, 0, none⟩ := by
  rcases h.2 with ⟨he, h0⟩ | ⟨g, cap, cur, he, _⟩
  · injection he with e1 e2 e3
    omega
  · injection he with e1
    exact ⟨g, e1⟩

set_option maxRecDepth 100000 in
set_option maxHeartbeats 4000000 in
theorem fragAgain_walk (a : Option Addr) (c : Nat) (xs : List B8) (hl : xs.length ≤ 140737488351232) (id : BitVec 64) (mtu : Int) (w : World) (ha : Bs w a xs) :
    Calls Try.prog 8 #[.slice a xs.length c, .int .u64 (id.toNat : Int), .int .i64 mtu] w fun e w' => e = .returned (.bool true) ∧ Below w.heap.size w w' := by
  have HA := Lib.hid ha
  have hfew := splitB_few xs id mtu
  have HSM := Lib.hid (splitB_small xs id mtu)
  clear ha
  go_enter Try.func8, Try.ntmps8
  go_wp2_with fail
  refine (clone4_calls a c xs hl w HA.out).mono ?_
  rintro e w1 ⟨v1, rfl, ho1, hs1⟩
  obtain ⟨a1, c1, rfl, q1, q2, _, q4⟩ := ho1.form
  have HP1 := Lib.hid ho1
  have HPN : Hid (∀ k, fpV (.slice a1 xs.length c1) k → w.heap.size ≤ k) := Lib.hid hs1.newOf
  have HW1 : Hid (St No w No w1) := Lib.hid (hs1.drop (fun _ h => h.elim))
  have HQ4 : Hid (a1 = none → c1 = 0) := Lib.hid (fun h => (q4 h).2)
  have HQ2 := Lib.hid q2
  have hPin := Lib.hid ho1.in
  clear ho1 hs1 q4 q2
  go_wp2_with fail
  refine (clone4_calls a c xs hl w1 (HA.out.st HW1.out (Dj.no _))).mono ?_
  rintro e w2 ⟨v2, rfl, ho2, hs2⟩
  obtain ⟨a2, c2, rfl, hb2, _⟩ := ho2.any
  have HB2 := Lib.hid hb2
  have HS2 : Hid (St No w1 No w2) := Lib.hid (hs2.drop (fun _ h => h.elim))
  clear ho2 hb2 hs2
  go_wp2_with fail
  refine (refSplit_calls a2 c2 xs hl id mtu w2 HB2.out).mono ?_
  rintro e w3 ⟨V3, vs3, rfl, hg3, hs3⟩
  obtain ⟨a3, c3, rfl⟩ := hg3.form
  have HG3 := Lib.hid hg3
  have HS3 := Lib.hid hs3
  have HP3 := Lib.hid ((HP1.out.st HS2.out (Dj.no _)).st hs3 (Dj.no _))
  have HDP3 : Hid (Dj (fpV (.slice a1 xs.length c1)) (fpG (.slice a3 (splitB xs id mtu).length c3) vs3)) := Lib.hid ((hPin.out.st HS2.out).dj_new hs3).symm
  clear hg3 hs3
  go_wp2_with fail
  refine (split_calls a1 c1 xs hl q1 HQ2.out HQ4.out id mtu w3 HP3.out.bs).mono ?_
  rintro e w4 ⟨V4, vs4, rfl, hg4, hs4⟩
  obtain ⟨a4, c4, rfl⟩ := hg4.form
  have HG4 := Lib.hid hg4
  have HG34 := Lib.hid (HG3.out.st hs4 (Dj.no _))
  have HP4 := Lib.hid (HP3.out.st hs4 (Dj.no _))
  have HDP4 : Hid (Dj (fpV (.slice a1 xs.length c1)) (fpG (.slice a4 (splitB xs id mtu).length c4) vs4)) := Lib.hid (HP3.out.in.dj_new hs4).symm
  have HW4 : Hid (St No w No w4) := Lib.hid (((HW1.out.trans HS2.out).trans (HS3.out.drop (G' := No) (fun _ h => h.elim))).trans (hs4.drop (fun _ h => h.elim)))
  clear hg4 hs4
  have HSL : Hid (∀ ys, xs.length = List.length ys → (splitB xs id mtu).length = (splitB ys id mtu).length ∧ ∀ (i : Nat) (d e : List B8), (splitB xs id mtu)[i]? = some d → (splitB ys id mtu)[i]? = some e → d.length = e.length) := Lib.hid (fun ys h => splitB_lens h id mtu)
  generalize splitB xs id mtu = ds at *
  have HSA4 := Lib.hid (sameAll_calls a4 c4 ds a3 c3 ds (by omega) (by omega) w4 HG4.out.rdl HG34.out.rdl)
  rw [decide_eq_true (rfl : ds = ds)] at HSA4
  go_wp2_with fail
  refine HSA4.out.mono ?_
  rintro e w5 ⟨rfl, hd5⟩
  have hs5 := hd5.no
  have HG35 := Lib.hid (HG34.out.st hs5 (Dj.no _))
  have HG45 := Lib.hid (HG4.out.st hs5 (Dj.no _))
  have HP5 := Lib.hid (HP4.out.st hs5 (Dj.no _))
  have HW5 := Lib.hid (HW4.out.trans hs5)
  clear hd5 hs5 HG3 HG34 HG4 HP3 HP4 HW4 HSA4 HP1 hPin HS3
  have hne : (splitE xs.length mtu != splitE xs.length mtu) = false := by simp
  generalize splitE xs.length mtu = er at *
  go_wp2_with (go_at_call 36; refine (num4_calls er _).mono ?_; rintro e w6 ⟨rfl, rfl⟩)
  go_loopw [13] (fun i wr => ∃ (k : Nat) (zs : List B8), k ≤ xs.length ∧ i = .int .i64 k ∧ Hid (xs.length = zs.length) ∧ Hid (OwB wr (.slice a1 xs.length c1) zs) ∧ Hid (Grams wr (.slice a3 ds.length c3) vs3 ds) ∧ Hid (Grams wr (.slice a4 ds.length c4) vs4 ds) ∧ Hid (St No w No wr)) (fun i _ => xs.length - (intOf i).toNat)
  case atStart => exact ⟨0, xs, by omega, rfl, Lib.hid rfl, HP5, HG35, HG45, HW5⟩
  case round =>
    clear HG35 HG45 HP5 HW5
    obtain ⟨k, zs, hk, rfl, HZL, HP, HG3, HG4, HW⟩ := hrel
    by_cases hlt : k < xs.length
    · obtain ⟨g, rfl⟩ := HP.out.head (by omega)
      have hcell := HP.out.cell k (by rw [← HZL.out]; exact hlt)
      have hfree := HP.out.free k
      generalize zs[k]'(by rw [← HZL.out]; exact hlt) = y0 at hcell
      have HX := Lib.hid (xor1_u8 y0)
      have HST := Lib.hid (HP.out.set HZL.out k (y0 ^^^ 1#8))
      have hstp : St (fpV (.slice (some ⟨g, 0, none⟩) xs.length c1)) wr (fpV (.slice (some ⟨g, 0, none⟩) xs.length c1)) (wr.setCell ⟨g, k, none⟩ (.int .u8 ((y0 ^^^ 1#8).toNat : Int))) := St.setCell _ _ _ (by simp [fpV, Value.ownBlock])
      have HG3' := Lib.hid (HG3.out.st hstp HDP3.out)
      have HG4' := Lib.hid (HG4.out.st hstp HDP4.out)
      have HW' := Lib.hid (HW.out.newB hstp HPN.out)
      rw [← HX.out] at HST HG3' HG4' HW'
      clear hstp HX
      go_wp2
      go_roundw
      case rel => exact ⟨k + 1, zs.set k (y0 ^^^ 1#8), by omega, by go_num, Lib.hid (by rw [List.length_set]; exact HZL.out), HST, HG3', HG4', HW'⟩
      case measure => simp [intOf]; omega
    · obtain rfl : k = xs.length := by omega
      obtain ⟨wo, rfl⟩ : ∃ wo : World, wo = wr := ⟨_, rfl⟩
      have hzl : zs.length ≤ 140737488351232 := by have := HZL.out; omega
      have HSL2 := Lib.hid (HSL.out zs HZL.out)
      have hfew2 := splitB_few zs id mtu
      have HSM2 := Lib.hid (splitB_small zs id mtu)
      rw [HZL.out] at HP HDP3 HDP4 HPN q1
      rw [HZL.out]
      clear hk hlt HSL
      go_wp2_with fail
      refine (clone4_calls a1 c1 zs hzl _ HP.out.bs).mono ?_
      rintro e w7 ⟨v7, rfl, ho7, hs7⟩
      obtain ⟨a7, c7, rfl, hb7, _⟩ := ho7.any
      have HB7 := Lib.hid hb7
      have HS7 : Hid (St No _ No w7) := Lib.hid (hs7.drop (fun _ h => h.elim))
      clear ho7 hb7 hs7
      go_wp2_with fail
      refine (refSplit_calls a7 c7 zs hzl id mtu w7 HB7.out).mono ?_
      rintro e w8 ⟨V8, vs8, rfl, hg8, hs8⟩
      obtain ⟨a8, c8, rfl⟩ := hg8.form
      have HG8 := Lib.hid hg8
      have HS8 := Lib.hid (HS7.out.trans (hs8.drop (G' := No) (fun _ h => h.elim)))
      have HP8 := Lib.hid (HP.out.st HS8.out (Dj.no _))
      have HG38 := Lib.hid (HG3.out.st HS8.out (Dj.no _))
      have HG48 := Lib.hid (HG4.out.st HS8.out (Dj.no _))
      have HW8 := Lib.hid (HW.out.trans HS8.out)
      clear hg8 hs8
      go_wp2_with fail
      refine (split_calls a1 c1 zs hzl q1 HQ2.out HQ4.out id mtu w8 HP8.out.bs).mono ?_
      rintro e w9 ⟨V9, vs9, rfl, hg9, hs9⟩
      obtain ⟨a9, c9, rfl⟩ := hg9.form
      have HS9 := Lib.hid (hs9.drop (G' := No) (fun _ h => h.elim))
      have HG9 := Lib.hid hg9
      have HG89 := Lib.hid (HG8.out.st HS9.out (Dj.no _))
      have HG39 := Lib.hid (HG38.out.st HS9.out (Dj.no _))
      have HG49 := Lib.hid (HG48.out.st HS9.out (Dj.no _))
      have HW9 := Lib.hid (HW8.out.trans HS9.out)
      clear hg9 hs9 HG3 HG4 HP HG8 HG38 HG48 HW8 HP8 HW HS7 HB7 HDP3 HDP4 HPN
      generalize splitB zs id mtu = es at *
      have HSA9 := Lib.hid (sameAll_calls a9 c9 es a8 c8 es (by omega) (by omega) w9 HG9.out.rdl HG89.out.rdl)
      rw [decide_eq_true (rfl : es = es)] at HSA9
      go_wp2_with fail
      refine HSA9.out.mono ?_
      rintro e w10 ⟨rfl, hd10⟩
      have HS10 := Lib.hid hd10.no
      have HG8a := Lib.hid (HG89.out.st HS10.out (Dj.no _))
      have HG3a := Lib.hid (HG39.out.st HS10.out (Dj.no _))
      have HG4a := Lib.hid (HG49.out.st HS10.out (Dj.no _))
      have HWa := Lib.hid (HW9.out.trans HS10.out)
      clear hd10 HSA9 HG9 HG89 HG39 HG49 HW9
      have HSAa := Lib.hid (sameAll_calls a4 c4 ds a3 c3 ds (by omega) (by omega) w10 HG4a.out.rdl HG3a.out.rdl)
      rw [decide_eq_true (rfl : ds = ds)] at HSAa
      go_wp2_with fail
      refine HSAa.out.mono ?_
      rintro e w11 ⟨rfl, hd11⟩
      have HS11 := Lib.hid hd11.no
      have HG8b := Lib.hid (HG8a.out.st HS11.out (Dj.no _))
      have HG3b := Lib.hid (HG3a.out.st HS11.out (Dj.no _))
      have HWb := Lib.hid (HWa.out.trans HS11.out)
      clear hd11 HSAa HG8a HG3a HG4a HWa
      by_cases hz : ds.length = 0
      · have hz1 : ((ds.length : Int) == 0) = true := by rw [hz]; rfl
        have hz2 : (ds.length == 0) = true := by rw [hz]; rfl
        clear hz
        go_wp2
        go_ret
        exact ⟨rfl, HWb.out.below⟩
      · have hz1 : ((ds.length : Int) == 0) = false := beq_eq_false_iff_ne.2 (by omega)
        have hz2 : (ds.length == 0) = false := beq_eq_false_iff_ne.2 hz
        have hz3 : (0 : Int) < (ds.length : Int) := by omega
        have hel : 0 < es.length := by have := HSL2.out.1; omega
        have hel2 : (0 : Int) < (es.length : Int) := by omega
        obtain ⟨y3, b3, d3, rfl, hc3, hb3⟩ := HG3b.out.rdl.at 0 (by omega)
        obtain ⟨y8, b8, d8, rfl, hc8, hb8⟩ := HG8b.out.rdl.at 0 hel
        rw [Addr.add_zero'] at hc3 hc8
        have hlen := HSL2.out.2 0 ds[0] es[0] (List.getElem?_eq_getElem (by omega)) (List.getElem?_eq_getElem hel)
        have hsm := HSM.out 0 ds[0] (List.getElem?_eq_getElem (by omega))
        generalize ds[0]'(by omega) = p0 at *
        generalize es[0]'hel = e0 at *
        have HB3 := Lib.hid hb3
        have HB8 := Lib.hid hb8
        have HLE := Lib.hid hlen
        have HC8 := Lib.hid hc8
        clear hz hb3 hb8 hlen hc8
        go_wp2_with fail
        refine (clone4_calls b3 d3 p0 (by omega) w11 HB3.out).mono ?_
        rintro e w12 ⟨v12, rfl, ho12, hs12⟩
        obtain ⟨aD, cD, rfl, r1, r2, _, _⟩ := ho12.form
        have HD12 := Lib.hid ho12
        have HR2 := Lib.hid r2
        have HR1 := Lib.hid r1
        have HDN : Hid (∀ k, fpV (.slice aD p0.length cD) k → w11.heap.size ≤ k) := Lib.hid hs12.newOf
        have HS12 : Hid (St No w11 No w12) := Lib.hid (hs12.drop (fun _ h => h.elim))
        clear ho12 hs12 r2 hc3
        go_wp2_with fail
        refine (look_calls aD cD p0 (by omega) r1 HR2.out w12 HD12.out.bs).mono ?_
        rintro e w13 ⟨V13, rfl, ho13, hs13⟩
        generalize hf1 : lookF p0 = f1 at *
        generalize lookE p0 = e1 at *
        obtain ⟨id1, i1, k1, t1, part1⟩ := f1
        dsimp only at ho13 ⊢
        obtain ⟨a13, c13, rfl, _, _, _, _⟩ := ho13.form
        have HX13 := Lib.hid ho13
        have HS13 := Lib.hid hs13
        clear ho13 hs13 hf1
        have HX14 := Lib.hid (HX13.out.newB (.cells #[.int .u64 (id1.toNat : Int), .int .i64 (i1 : Int), .int .i64 (k1 : Int), .int .i64 (t1 : Int), .slice a13 part1.length c13] 70))
        have HO14 := Lib.hid (Ob.alloc w13 #[.int .u64 (id1.toNat : Int), .int .i64 (i1 : Int), .int .i64 (k1 : Int), .int .i64 (t1 : Int), .slice a13 part1.length c13] 70)
        have HS14 := Lib.hid (HS13.out.trans (St.alloc' (fpV (.slice a13 part1.length c13)) w13 (.cells #[.int .u64 (id1.toNat : Int), .int .i64 (i1 : Int), .int .i64 (k1 : Int), .int .i64 (t1 : Int), .slice a13 part1.length c13] 70)))
        have HP14 : Hid (w12.heap.size ≤ w13.heap.size) := Lib.hid HS13.out.size
        have kx4 : (w13.alloc (.cells #[.int .u64 (id1.toNat : Int), .int .i64 (i1 : Int), .int .i64 (k1 : Int), .int .i64 (t1 : Int), .slice a13 part1.length c13] 70)).cell? ⟨w13.heap.size, 4, none⟩ = some (.slice a13 part1.length c13) := by rw [HO14.out.cell 4]; rfl
        have hvx := conv_bs (w := (w13.alloc (.cells #[.int .u64 (id1.toNat : Int), .int .i64 (i1 : Int), .int .i64 (k1 : Int), .int .i64 (t1 : Int), .slice a13 part1.length c13] 70))) (c := c13) HX14.out.bs
        go_wp2_with fail
        generalize (w13.alloc (.cells #[.int .u64 (id1.toNat : Int), .int .i64 (i1 : Int), .int .i64 (k1 : Int), .int .i64 (t1 : Int), .slice a13 part1.length c13] 70)) = w14 at *
        generalize w13.heap.size = px at *
        have HS14n : Hid (St No w11 No w14) := Lib.hid (HS12.out.trans (HS14.out.drop (fun _ h => h.elim)))
        have HD14 := Lib.hid (HD12.out.st HS14.out (Dj.no _))
        have HDV : Hid (Dj (fpV (.slice aD p0.length cD)) (fpV (.slice a13 part1.length c13))) := Lib.hid (HD12.out.in.dj_new HS13.out).symm
        have HDX : Hid (¬ fpV (.slice aD p0.length cD) px) := Lib.hid (fun h => by have := HD12.out.in _ h; have := HP14.out; omega)
        have hy8 : y8.block < w11.heap.size := World.block_lt_of_cell? w11 _ HC8.out
        have HY8 := Lib.hid hy8
        have HKEEP : Hid (∀ wr, St (fpV (.slice aD p0.length cD)) w14 (fpV (.slice aD p0.length cD)) wr → Bs wr b8 e0 ∧ wr.cell? y8 = some (.slice b8 e0.length d8) ∧ Ob wr px 70 #[.int .u64 (id1.toNat : Int), .int .i64 (i1 : Int), .int .i64 (k1 : Int), .int .i64 (t1 : Int), .slice a13 part1.length c13] ∧ OwB wr (.slice a13 part1.length c13) part1 ∧ St No w No wr) := Lib.hid (fun wr s => by
          refine ⟨(HB8.out.st HS14n.out (Dj.no _)).stA s (HB8.out.apart HDN.out), ?_, HO14.out.move (s.block _ HO14.out.lt HDX.out), HX14.out.st s HDV.out, ?_⟩
          · rw [World.cell?_of_block (w := w14) (s.block _ (Nat.lt_of_lt_of_le HY8.out HS14n.out.size) (fun h => by have := HDN.out _ h; have := HY8.out; omega))]
            exact St.cellNo HS14n.out HC8.out
          · exact (HWb.out.trans HS14n.out).newB s (fun k hk => Nat.le_trans HWb.out.size (HDN.out k hk)))
        clear hy8 kx4 hvx
        go_wp2
        go_loopw [23] (fun i wr => ∃ k : Nat, k ≤ p0.length ∧ i = .int .i64 k ∧ Hid (OwB wr (.slice aD p0.length cD) (e0.take k ++ p0.drop k)) ∧ Hid (St (fpV (.slice aD p0.length cD)) w14 (fpV (.slice aD p0.length cD)) wr)) (fun i _ => p0.length - (intOf i).toNat)
        case atStart => exact ⟨0, by omega, rfl, Lib.hid (by rw [List.take_zero, List.drop_zero]; exact HD14.out), Lib.hid (St.refl _ _)⟩
        case round =>
          obtain ⟨k, hk, rfl, HD, HS⟩ := hrel
          obtain ⟨hb, hc, hob, hox, hsw⟩ := HKEEP.out wr HS.out
          have hzl2 : (e0.take k ++ p0.drop k).length = p0.length := by rw [List.length_append, List.length_take, List.length_drop]; have := HLE.out; omega
          by_cases hlt : k < p0.length
          · have hke : k < e0.length := by have := HLE.out; omega
            obtain ⟨g, rfl⟩ := HD.out.head (by omega)
            have hcell := HD.out.cell k (by omega)
            have hfree := HD.out.free k
            obtain ⟨z, rfl, hcz⟩ := hb.at k hke
            have hfo := fill_over e0 p0 k HLE.out.symm hke
            have hst := HD.out.set hzl2.symm k e0[k]
            rw [hfo] at hst
            have HST := Lib.hid hst
            have HSS := Lib.hid (HS.out.trans (St.setCell (F := fpV (.slice (some ⟨g, 0, none⟩) p0.length cD)) wr ⟨g, k, none⟩ (.int .u8 (e0[k].toNat : Int)) (by simp [fpV, Value.ownBlock])))
            generalize (e0.take k ++ p0.drop k)[k]'(by omega) = o0 at hcell
            generalize e0[k] = n0 at *
            have HKE := Lib.hid hke
            have hke2 : (k : Int) < (e0.length : Int) := by omega
            clear hst hfo hzl2 hb hob hox hsw
            go_wp2
            go_roundw
            case rel => exact ⟨k + 1, by omega, by go_num, HST, HSS⟩
            case measure => simp [intOf]; omega
          · obtain rfl : k = p0.length := by omega
            have hd := HD.out
            rw [HLE.out, List.take_length, ← HLE.out, List.drop_length, List.append_nil] at hd
            have hse : e0.length ≤ 1024 := by have := HLE.out; omega
            have hr1e : e0.length ≤ cD := by have := HLE.out; have := HR1.out; omega
            rw [HLE.out] at hd ⊢
            have HDE := Lib.hid hd
            have HBE := Lib.hid hb
            have HCE := Lib.hid hc
            have HOE := Lib.hid hob
            have HXE := Lib.hid hox
            have HWE := Lib.hid hsw
            have hyb := World.block_lt_of_cell? wr _ hc
            clear hd hb hc hob hox hsw hzl2 hk hlt r1 HD HS
            go_wp2_with fail
            refine (look_calls aD cD e0 (by omega) hr1e HR2.out wr HDE.out.bs).mono ?_
            rintro e w15 ⟨V15, rfl, ho15, hs15⟩
            have HRL : Hid (∀ a5 c5 W, e0.length ≤ c5 → c5 ≤ maxLen → Bs W a5 e0 → Calls Try.prog 47 #[.slice a5 e0.length c5] W (FOut W (lookF e0) (lookE e0))) := Lib.hid (fun a5 c5 W h1 h2 h3 => refLook_calls a5 c5 e0 (by omega) h1 h2 W h3)
            generalize lookF e0 = f2 at *
            generalize lookE e0 = e2 at *
            obtain ⟨id2, i2, k2, t2, part2⟩ := f2
            dsimp only at ho15 HRL ⊢
            obtain ⟨a15, c15, rfl, _, _, _, _⟩ := ho15.form
            have HY15 := Lib.hid (ho15.newB (.cells #[.int .u64 (id2.toNat : Int), .int .i64 (i2 : Int), .int .i64 (k2 : Int), .int .i64 (t2 : Int), .slice a15 part2.length c15] 70))
            have HO15 := Lib.hid (Ob.alloc w15 #[.int .u64 (id2.toNat : Int), .int .i64 (i2 : Int), .int .i64 (k2 : Int), .int .i64 (t2 : Int), .slice a15 part2.length c15] 70)
            have HS15 : Hid (St No wr No (w15.alloc (.cells #[.int .u64 (id2.toNat : Int), .int .i64 (i2 : Int), .int .i64 (k2 : Int), .int .i64 (t2 : Int), .slice a15 part2.length c15] 70))) := Lib.hid ((hs15.drop (G' := No) (fun _ h => h.elim)).trans (St.alloc' No _ _))
            have hc15 := St.cellNo HS15.out HCE.out
            have hB15 := Lib.hid (HBE.out.st HS15.out (Dj.no _))
            clear ho15 hs15 hyb
            go_wp2_with fail
            generalize (w15.alloc (.cells #[.int .u64 (id2.toNat : Int), .int .i64 (i2 : Int), .int .i64 (k2 : Int), .int .i64 (t2 : Int), .slice a15 part2.length c15] 70)) = w16 at *
            generalize w15.heap.size = py at *
            refine (clone4_calls b8 d8 e0 (by omega) w16 hB15.out).mono ?_
            rintro e w17 ⟨v17, rfl, ho17, hs17⟩
            obtain ⟨a17, c17, rfl, s1, s2, _, _⟩ := ho17.form
            have HO17 := Lib.hid ho17
            have HS17 : Hid (St No wr No w17) := Lib.hid (HS15.out.trans (hs17.drop (fun _ h => h.elim)))
            have HS17b : Hid (St No w16 No w17) := Lib.hid (hs17.drop (fun _ h => h.elim))
            have HS2' := Lib.hid s2
            clear ho17 hs17 s2 hc15
            go_wp2_with fail
            refine (HRL.out a17 c17 w17 s1 HS2'.out HO17.out.bs).mono ?_
            rintro e w18 ⟨V18, rfl, ho18, hs18⟩
            dsimp only at ho18 ⊢
            obtain ⟨a18, c18, rfl, _, _, _, _⟩ := ho18.form
            have HZ18 := Lib.hid (ho18.newB (.cells #[.int .u64 (id2.toNat : Int), .int .i64 (i2 : Int), .int .i64 (k2 : Int), .int .i64 (t2 : Int), .slice a18 part2.length c18] 73))
            have HO18 := Lib.hid (Ob.alloc w18 #[.int .u64 (id2.toNat : Int), .int .i64 (i2 : Int), .int .i64 (k2 : Int), .int .i64 (t2 : Int), .slice a18 part2.length c18] 73)
            have HS18 : Hid (St No w17 No (w18.alloc (.cells #[.int .u64 (id2.toNat : Int), .int .i64 (i2 : Int), .int .i64 (k2 : Int), .int .i64 (t2 : Int), .slice a18 part2.length c18] 73))) := Lib.hid ((hs18.drop (G' := No) (fun _ h => h.elim)).trans (St.alloc' No _ _))
            have HSF : Hid (St No wr No (w18.alloc (.cells #[.int .u64 (id2.toNat : Int), .int .i64 (i2 : Int), .int .i64 (k2 : Int), .int .i64 (t2 : Int), .slice a18 part2.length c18] 73))) := Lib.hid (HS17.out.trans HS18.out)
            have HSG : Hid (St No w16 No (w18.alloc (.cells #[.int .u64 (id2.toNat : Int), .int .i64 (i2 : Int), .int .i64 (k2 : Int), .int .i64 (t2 : Int), .slice a18 part2.length c18] 73))) := Lib.hid (HS17b.out.trans HS18.out)
            have kx := HOE.out.move (HSF.out.block _ HOE.out.lt (fun h => h))
            have ky := HO15.out.move (HSG.out.block _ HO15.out.lt (fun h => h))
            have kx4 : (w18.alloc (.cells #[.int .u64 (id2.toNat : Int), .int .i64 (i2 : Int), .int .i64 (k2 : Int), .int .i64 (t2 : Int), .slice a18 part2.length c18] 73)).cell? ⟨px, 4, none⟩ = some (.slice a13 part1.length c13) := by rw [kx.cell 4]; rfl
            have ky4 : (w18.alloc (.cells #[.int .u64 (id2.toNat : Int), .int .i64 (i2 : Int), .int .i64 (k2 : Int), .int .i64 (t2 : Int), .slice a18 part2.length c18] 73)).cell? ⟨py, 4, none⟩ = some (.slice a15 part2.length c15) := by rw [ky.cell 4]; rfl
            have ky0 : (w18.alloc (.cells #[.int .u64 (id2.toNat : Int), .int .i64 (i2 : Int), .int .i64 (k2 : Int), .int .i64 (t2 : Int), .slice a18 part2.length c18] 73)).cell? ⟨py, 0, none⟩ = some (.int .u64 (id2.toNat : Int)) := by rw [ky.cell 0]; rfl
            have kz4 : (w18.alloc (.cells #[.int .u64 (id2.toNat : Int), .int .i64 (i2 : Int), .int .i64 (k2 : Int), .int .i64 (t2 : Int), .slice a18 part2.length c18] 73)).cell? ⟨w18.heap.size, 4, none⟩ = some (.slice a18 part2.length c18) := by rw [HO18.out.cell 4]; rfl
            have kz0 : (w18.alloc (.cells #[.int .u64 (id2.toNat : Int), .int .i64 (i2 : Int), .int .i64 (k2 : Int), .int .i64 (t2 : Int), .slice a18 part2.length c18] 73)).cell? ⟨w18.heap.size, 0, none⟩ = some (.int .u64 (id2.toNat : Int)) := by rw [HO18.out.cell 0]; rfl
            have hvx := conv_bs (c := c13) (HXE.out.bs.st HSF.out (Dj.no _))
            have hvy := conv_bs (c := c15) (HY15.out.bs.st HSG.out (Dj.no _))
            have hvz := conv_bs (c := c18) HZ18.out.bs
            have HEND : Hid (Below w.heap.size w (w18.alloc (.cells #[.int .u64 (id2.toNat : Int), .int .i64 (i2 : Int), .int .i64 (k2 : Int), .int .i64 (t2 : Int), .slice a18 part2.length c18] 73))) := Lib.hid (HWE.out.trans HSF.out).below
            have hq1 : ((strB part1).toList == (strB part1).toList) = true := by simp
            have hq2 : ((strB part2).toList == (strB part2).toList) = true := by simp
            have hq3 : (e2 == e2) = true := by simp
            have hq4 : ((id2.toNat : Int) == (id2.toNat : Int)) = true := by simp
            clear ho18 hs18 kx ky s1
            go_wp2_with (go_at_call 36; refine (num4_calls e2 _).mono ?_; rintro e w19 ⟨rfl, rfl⟩)
            go_ret
            exact ⟨rfl, HEND.out⟩
end Go.Proofs.Ytoeafacamapofaa
