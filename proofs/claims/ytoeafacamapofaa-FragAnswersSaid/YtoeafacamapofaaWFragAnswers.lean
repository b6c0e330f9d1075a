
/-
  FragAnswers, walked: it returns true.
-/
import Derived.Test.YtoeafacamapofaaJnSpoil
import Derived.Test.YtoeafacamapofaaJnFew
import Derived.Test.YtoeafacamapofaaJnNew
import Derived.Test.YtoeafacamapofaaFgProg2
import Derived.Test.YtoeafacamapofaaWFragSizes
namespace Go.Proofs.Ytoeafacamapofaa
open Go.RowKit
set_option linter.unusedVariables false
set_option linter.unusedSimpArgs false

/-- the places from lo to hi -/
def Iv (lo hi : Nat) : Nat → Prop := fun k => lo ≤ k ∧ k < hi
theorem St.ivs {w w' : World} {G : Nat → Prop} (h : St No w G w') (hG : In G w') : ∀ k, G k → Iv w.heap.size w'.heap.size k := fun k hk => ⟨(h.new k hk).elim (fun h => h.elim) (fun h => h), hG k hk⟩
theorem Own.block9 {w : World} {e size : Nat} {a : Option Addr} {n c : Nat} {xs : List Value} (h : Own w e size (.slice a n c) n xs) (hn : 0 < n) : ∃ g, a = some ⟨g, 0, none⟩ := by
  rcases h.2 with ⟨h, _⟩ | ⟨g, cap, cur, h, _⟩
  · simp at h; omega
  · simp at h; exact ⟨g, h.1⟩
/-- only places in M, and new ones, have turned -/
def Tn (M : Nat → Prop) (wS w : World) : Prop := St M wS (fun k => M k ∨ wS.heap.size ≤ k) w
theorem Tn.refl (M : Nat → Prop) (w : World) : Tn M w w := ⟨rfl, rfl, rfl, Nat.le_refl _, fun _ _ _ => rfl, fun _ h => h⟩
theorem Tn.step {M : Nat → Prop} {wS wr w' : World} {G G' : Nat → Prop} (h : Tn M wS wr) (k : St G wr G' w') (hG : ∀ q, G q → M q ∨ wS.heap.size ≤ q) : Tn M wS w' :=
  ⟨k.os.trans h.os, k.tape.trans h.tape, k.output.trans h.output, Nat.le_trans h.size k.size,
   fun q hq hn => (k.block q (Nat.lt_of_lt_of_le hq h.size) (fun hg => (hG q hg).elim hn (fun hl => absurd hq (Nat.not_lt.2 hl)))).trans (h.block q hq hn), fun q hq => hq⟩
theorem Tn.wide {M M' : Nat → Prop} {wS w : World} (h : Tn M wS w) (hM : ∀ q, M q → M' q) : Tn M' wS w :=
  ⟨h.os, h.tape, h.output, h.size, fun q hq hn => h.block q hq (fun hm => hn (hM q hm)), fun q hq => hq⟩
theorem Tn.dj {M F : Nat → Prop} {lo hi : Nat} (hF : ∀ k, F k → Iv lo hi k) (hM : ∀ k, M k → ¬ Iv lo hi k) : Dj M F := fun k hm hf => hM k hm (hF k hf)
theorem Ob.tn {M : Nat → Prop} {w0 wS wr : World} {p : Nat} {T : TypeId} {cs : Array Value} (h : Ob w0 p T cs) (s : St No w0 No wS) (t : Tn M wS wr) (hM : ¬ M p) : Ob wr p T cs :=
  (h.move (s.block p h.lt (fun e => e))).move (t.block p (Nat.lt_of_lt_of_le h.lt s.size) hM)
theorem Own.tn {M : Nat → Prop} {w0 wS wr : World} {e size n : Nat} {v : Value} {xs : List Value} (h : Own w0 e size v n xs) (s : St No w0 No wS) (t : Tn M wS wr) (hd : Dj M (fpV v)) : Own wr e size v n xs := (h.st s (Dj.no _)).st t hd
theorem OwB.tn {M : Nat → Prop} {w0 wS wr : World} {v : Value} {xs : List B8} (h : OwB w0 v xs) (s : St No w0 No wS) (t : Tn M wS wr) (hd : Dj M (fpV v)) : OwB wr v xs := OwB.st (OwB.st h s (Dj.no _)) t hd
theorem Grams.tn {M : Nat → Prop} {w0 wS wr : World} {V : Value} {vs : List Value} {ds : List (List B8)} (h : Grams w0 V vs ds) (s : St No w0 No wS) (t : Tn M wS wr) (hd : Dj M (fpG V vs)) : Grams wr V vs ds := (h.st s (Dj.no _)).st t hd
theorem St.dr {w w' : World} (h : Dr w w') : St No w No w' := h.no
theorem look_part (d : List B8) : (lookF d).part.length ≤ d.length := by
  unfold lookF
  split
  · unfold readF
    simp only [List.length_take, List.length_drop]
    omega
  · simp [noF]
/-- a list of lists, of which the first i are struck -/
structure Part (w : World) (V : Value) (vs : List Value) (ds : List (List B8)) (i : Nat) : Prop where
  own : ∃ us, Own w 25 1 V ds.length us ∧ ∀ j, i ≤ j → us[j]? = vs[j]?
  each : ∀ (j : Nat) (v : Value) (d : List B8), i ≤ j → vs[j]? = some v → ds[j]? = some d → OwB w v d
theorem Grams.part {w : World} {V : Value} {vs : List Value} {ds : List (List B8)} (h : Grams w V vs ds) : Part w V vs ds 0 := ⟨⟨vs, h.own, fun _ _ => rfl⟩, fun j v d _ hv hd => h.each j v d hv hd⟩
set_option maxRecDepth 100000 in
set_option maxHeartbeats 8000000 in
theorem fragAnswers_walk (a : Option Addr) (c : Nat) (xs : List B8) (hl : xs.length ≤ 140737488351232) (id : BitVec 64) (mtu : Int) (w : World) (ha : Bs w a xs) :
    Calls Try.prog 17 #[.slice a xs.length c, .int .u64 (id.toNat : Int), .int .i64 mtu] w fun e w' => e = .returned (.bool true) ∧ Below w.heap.size w w' := by
  have HA := Lib.hid ha
  have HFEW := Lib.hid (fun i => splitB_few xs i mtu)
  have HSM := Lib.hid (fun i => splitB_small xs i mtu)
  have hid1 : IntKind.u64.wrap ((id.toNat : Int) + 1) = ((id + 1#64).toNat : Int) := by rw [wrap_u64, BitVec.toNat_add]; simp
  have HID1 := Lib.hid hid1
  obtain ⟨id1, hid2⟩ : ∃ id1, id + 1#64 = id1 := ⟨_, rfl⟩
  rw [hid2] at hid1 HID1
  clear ha hid2 hid1
  obtain ⟨er, her⟩ : ∃ er, splitE xs.length mtu = er := ⟨_, rfl⟩
  have HER := Lib.hid her
  clear her
  go_enter Try.func17, Try.ntmps17
  go_wp2_with fail
  refine (clone4_calls a c xs (by omega) _ (HA.out)).mono ?_
  rintro e w1 ⟨v1, rfl, ho1, hs1⟩
  obtain ⟨a1, c1, rfl, p1, q1, _, r1⟩ := ho1.form
  have HO1 := Lib.hid ho1
  have HR1 : Hid (a1 = none → c1 = 0) := Lib.hid (fun h => (r1 h).2)
  have HS1 : Hid (St No w No w1) := Lib.hid (hs1.drop (fun _ h => h.elim))
  clear r1
  have z1 := hs1.size
  clear hs1 ho1
  go_wp2_with fail
  refine (refSplit_calls a1 c1 xs hl id mtu w1 HO1.out.bs).mono ?_
  rintro e w2 ⟨VW, vsW, rfl, hgW, hs2⟩
  obtain ⟨aW, cW, rfl⟩ := hgW.form
  have HGW := Lib.hid hgW
  have HS2 : Hid (St No w1 No w2) := Lib.hid (hs2.drop (fun _ h => h.elim))
  have HVW := Lib.hid (hs2.ivs hgW.in)
  have z2 := hs2.size
  clear hgW hs2
  rw [HER.out]
  by_cases her0 : er = 0
  · subst her0
    obtain ⟨m, hm, m1, m2, m3, m4, hSP⟩ : ∃ m : Nat, mtu = (m : Int) ∧ 64 ≤ m ∧ m ≤ 1024 ∧ 1 ≤ xs.length ∧ xs.length ≤ 4096 ∧ splitB xs id mtu = splitL xs id (countN xs.length m) := by
      have h := HER.out
      have hE : 64 ≤ mtu ∧ mtu ≤ 1024 ∧ 1 ≤ xs.length ∧ xs.length ≤ 4096 := by
        unfold splitE at h
        split at h
        · cases h
        · split at h
          · cases h
          · omega
      have hfit : fitsN xs.length mtu = true := decide_eq_true (by omega)
      obtain ⟨m, q0, q1, q2, q3, q4, q5, q6⟩ := fits_yes (id := id) hfit
      exact ⟨m, q0, q1, q2, q3, q4, q6⟩
    have hn1 : 1 ≤ (splitB xs id mtu).length := by
      rw [hSP, splitL_len]
      exact (split_facts m1 m2 m3 m4).1
    have hf1 := HFEW.out id
    have hf2 := HFEW.out id1
    have HLENS : Hid ((splitB xs id mtu).length = (splitB xs id1 mtu).length) := Lib.hid (by
      have hE := HER.out
      unfold splitB
      rw [hE, if_pos rfl, if_pos rfl, splitL_len, splitL_len])
    clear hSP hm m1 m2 m3 m4
    obtain ⟨ds, hds⟩ : ∃ ds, splitB xs id mtu = ds := ⟨_, rfl⟩
    obtain ⟨es, hes⟩ : ∃ es, splitB xs id1 mtu = es := ⟨_, rfl⟩
    have HDS := Lib.hid (HSM.out id)
    have HES := Lib.hid (HSM.out id1)
    rw [hds] at hn1 hf1 HDS HGW HVW ⊢
    rw [hes] at hf2 HES
    have HDE := Lib.hid hds
    have HEE := Lib.hid hes
    clear hds hes
    go_wp2_with fail
    refine (clone4_calls a c xs (by omega) _ (HA.out.st (HS1.out.trans HS2.out) (Dj.no _))).mono ?_
    rintro e w3 ⟨v3, rfl, ho3, hs3⟩
    obtain ⟨a3, c3, rfl, p3, q3, _, r3⟩ := ho3.form
    have HO3 := Lib.hid ho3
    have HR3 : Hid (a3 = none → c3 = 0) := Lib.hid (fun h => (r3 h).2)
    have HS3 : Hid (St No w2 No w3) := Lib.hid (hs3.drop (fun _ h => h.elim))
    clear r3
    have z3 := hs3.size
    clear hs3 ho3
    go_wp2_with fail
    have HRS := Lib.hid (refSplit_calls a3 c3 xs hl id1 mtu w3 HO3.out.bs)
    rw [← HID1.out, HER.out, HEE.out] at HRS
    refine HRS.out.mono ?_
    rintro e w4 ⟨VO, vsO, rfl, hgO, hs4⟩
    obtain ⟨aO, cO, rfl⟩ := hgO.form
    have HGO := Lib.hid hgO
    have HS4 : Hid (St No w3 No w4) := Lib.hid (hs4.drop (fun _ h => h.elim))
    have HVO := Lib.hid (hs4.ivs hgO.in)
    have z4 := hs4.size
    clear hgO hs4
    go_wp2_with fail
    refine (clone4_calls a c xs (by omega) _ (HA.out.st (((HS1.out.trans HS2.out).trans HS3.out).trans HS4.out) (Dj.no _))).mono ?_
    rintro e w5 ⟨v5, rfl, ho5, hs5⟩
    obtain ⟨a5, c5, rfl, p5, q5, _, r5⟩ := ho5.form
    have HO5 := Lib.hid ho5
    have HR5 : Hid (a5 = none → c5 = 0) := Lib.hid (fun h => (r5 h).2)
    have HS5 : Hid (St No w4 No w5) := Lib.hid (hs5.drop (fun _ h => h.elim))
    clear r5
    have z5 := hs5.size
    clear hs5 ho5
    go_wp2_with fail
    have HRA := Lib.hid (split_calls a5 c5 xs hl p5 q5 HR5.out id mtu w5 HO5.out.bs)
    rw [HER.out, HDE.out] at HRA
    refine HRA.out.mono ?_
    rintro e w6 ⟨VA, vsA, rfl, hgA, hs6⟩
    obtain ⟨aA, cA, rfl⟩ := hgA.form
    have HGA := Lib.hid hgA
    have HS6 : Hid (St No w5 No w6) := Lib.hid (hs6.drop (fun _ h => h.elim))
    have HVA := Lib.hid (hs6.ivs hgA.in)
    have z6 := hs6.size
    clear hgA hs6
    go_wp2_with fail
    refine (clone4_calls a c xs (by omega) _ (HA.out.st (((((HS1.out.trans HS2.out).trans HS3.out).trans HS4.out).trans HS5.out).trans HS6.out) (Dj.no _))).mono ?_
    rintro e w7 ⟨v7, rfl, ho7, hs7⟩
    obtain ⟨a7, c7, rfl, p7, q7, _, r7⟩ := ho7.form
    have HO7 := Lib.hid ho7
    have HR7 : Hid (a7 = none → c7 = 0) := Lib.hid (fun h => (r7 h).2)
    have HS7 : Hid (St No w6 No w7) := Lib.hid (hs7.drop (fun _ h => h.elim))
    clear r7
    have z7 := hs7.size
    clear hs7 ho7
    go_wp2_with fail
    have HRB := Lib.hid (split_calls a7 c7 xs hl p7 q7 HR7.out id1 mtu w7 HO7.out.bs)
    rw [← HID1.out, HER.out, HEE.out] at HRB
    refine HRB.out.mono ?_
    rintro e w8 ⟨VB, vsB, rfl, hgB, hs8⟩
    obtain ⟨aB, cB, rfl⟩ := hgB.form
    have HGB := Lib.hid hgB
    have HS8 : Hid (St No w7 No w8) := Lib.hid (hs8.drop (fun _ h => h.elim))
    have HVB := Lib.hid (hs8.ivs hgB.in)
    have z8 := hs8.size
    clear hgB hs8
    go_wp2_with fail
    refine (clone4_calls a c xs (by omega) _ (HA.out.st (((((((HS1.out.trans HS2.out).trans HS3.out).trans HS4.out).trans HS5.out).trans HS6.out).trans HS7.out).trans HS8.out) (Dj.no _))).mono ?_
    rintro e w9 ⟨v9, rfl, ho9, hs9⟩
    obtain ⟨a9, c9, rfl, p9, q9, _, r9⟩ := ho9.form
    have HO9 := Lib.hid ho9
    have HR9 : Hid (a9 = none → c9 = 0) := Lib.hid (fun h => (r9 h).2)
    have HS9 : Hid (St No w8 No w9) := Lib.hid (hs9.drop (fun _ h => h.elim))
    clear r9
    have z9 := hs9.size
    clear hs9 ho9
    go_wp2_with fail
    have HRC := Lib.hid (split_calls a9 c9 xs hl p9 q9 HR9.out id mtu w9 HO9.out.bs)
    rw [HER.out, HDE.out] at HRC
    refine HRC.out.mono ?_
    rintro e w10 ⟨VC, vsC, rfl, hgC, hs10⟩
    obtain ⟨aC, cC, rfl⟩ := hgC.form
    have HGC := Lib.hid hgC
    have HS10 : Hid (St No w9 No w10) := Lib.hid (hs10.drop (fun _ h => h.elim))
    have HVC := Lib.hid (hs10.ivs hgC.in)
    have z10 := hs10.size
    clear hgC hs10
    have HSA := Lib.hid (sameAll_calls aA cA ds aW cW ds (by omega) (by omega) w10 (HGA.out.st (((HS7.out.trans HS8.out).trans HS9.out).trans HS10.out) (Dj.no _)).rdl (HGW.out.st (((((((HS3.out.trans HS4.out).trans HS5.out).trans HS6.out).trans HS7.out).trans HS8.out).trans HS9.out).trans HS10.out) (Dj.no _)).rdl)
    rw [decide_eq_true (rfl : ds = ds)] at HSA
    go_wp2_with fail
    refine HSA.out.mono ?_
    rintro e w11 ⟨rfl, hd⟩
    have HS11 : Hid (St No w10 No w11) := Lib.hid hd.no
    have z11 := hd.no.size
    clear hd HSA
    have HSA := Lib.hid (sameAll_calls aB cB es aO cO es (by omega) (by omega) w11 (HGB.out.st ((HS9.out.trans HS10.out).trans HS11.out) (Dj.no _)).rdl (HGO.out.st ((((((HS5.out.trans HS6.out).trans HS7.out).trans HS8.out).trans HS9.out).trans HS10.out).trans HS11.out) (Dj.no _)).rdl)
    rw [decide_eq_true (rfl : es = es)] at HSA
    go_wp2_with fail
    refine HSA.out.mono ?_
    rintro e w12 ⟨rfl, hd⟩
    have HS12 : Hid (St No w11 No w12) := Lib.hid hd.no
    have z12 := hd.no.size
    clear hd HSA
    have HSA := Lib.hid (sameAll_calls aC cC ds aW cW ds (by omega) (by omega) w12 (HGC.out.st (HS11.out.trans HS12.out) (Dj.no _)).rdl (HGW.out.st (((((((((HS3.out.trans HS4.out).trans HS5.out).trans HS6.out).trans HS7.out).trans HS8.out).trans HS9.out).trans HS10.out).trans HS11.out).trans HS12.out) (Dj.no _)).rdl)
    rw [decide_eq_true (rfl : ds = ds)] at HSA
    go_wp2_with fail
    refine HSA.out.mono ?_
    rintro e w13 ⟨rfl, hd⟩
    have HS13 : Hid (St No w12 No w13) := Lib.hid hd.no
    have z13 := hd.no.size
    clear hd HSA
    have hes1 : 1 ≤ es.length := by rw [← HEE.out, ← HLENS.out, HDE.out]; exact hn1
    obtain ⟨gB, rfl⟩ := Own.block9 HGB.out.own (by omega)
    have hnb : ((ds.length : Int) == 0) = false := beq_eq_false_iff_ne.2 (by omega)
    have hdl0 : (0 : Int) < (ds.length : Int) := by omega
    obtain ⟨gW, rfl⟩ := Own.block9 HGW.out.own (by omega)
    obtain ⟨v0, hv0, how0⟩ := HGW.out.get 0 (by omega)
    have hd0 : ds[0]'(by omega) = ds[0]'(by omega) := rfl
    have hsm0 := HDS.out 0 _ (List.getElem?_eq_getElem (by omega : 0 < ds.length))
    generalize ds[0]'(by omega) = d0 at hd0 how0 hsm0
    clear hd0
    obtain ⟨b0, k0, rfl, _, _, _, _⟩ := how0.form
    have HC0 := Lib.hid (HGW.out.own.cellAt 0 _ hv0)
    have HB0 := Lib.hid how0.bs
    have HVW0 : Hid (∀ k, fpA b0 k → Iv w1.heap.size w2.heap.size k) := Lib.hid (fun k hk => HVW.out k (fpG.sub hv0 k (by obtain ⟨x, e, h⟩ := hk; subst e; simp [fpV, Value.ownBlock, h])))
    clear hv0 how0
    have hcw : w13.cell? ⟨gW, 0, none⟩ = some (.slice b0 d0.length k0) := ((((((((((HS3.out.trans HS4.out).trans HS5.out).trans HS6.out).trans HS7.out).trans HS8.out).trans HS9.out).trans HS10.out).trans HS11.out).trans HS12.out).trans HS13.out).cellNo' HC0.out
    go_wp2_with (go_at_call 36; refine (num4_calls 0 _).mono ?_; rintro e wn ⟨rfl, rfl⟩)
    refine (clone4_calls b0 k0 d0 (by omega) _ (HB0.out.st ((((((((((HS3.out.trans HS4.out).trans HS5.out).trans HS6.out).trans HS7.out).trans HS8.out).trans HS9.out).trans HS10.out).trans HS11.out).trans HS12.out).trans HS13.out) (Dj.no _))).mono ?_
    rintro e w14 ⟨v14, rfl, ho14, hs14⟩
    obtain ⟨a14, c14, rfl, p14, q14, _, r14⟩ := ho14.form
    have HO14 := Lib.hid ho14
    have HR14 : Hid (a14 = none → c14 = 0) := Lib.hid (fun h => (r14 h).2)
    have HS14 : Hid (St No w13 No w14) := Lib.hid (hs14.drop (fun _ h => h.elim))
    clear r14
    have HV14 := Lib.hid (hs14.ivs ho14.in)
    have z14 := hs14.size
    clear hs14 ho14 hcw
    obtain ⟨le, hle⟩ : ∃ le, lookE d0 = le := ⟨_, rfl⟩
    have HLE := Lib.hid hle
    clear hle
    obtain ⟨fg, hfg⟩ : ∃ fg, lookF d0 = fg := ⟨_, rfl⟩
    have HLF := Lib.hid hfg
    clear hfg
    obtain ⟨fid, fix, fct, ftt, fpt⟩ := fg
    have HLK := Lib.hid (look_calls a14 c14 d0 (by omega) p14 q14 w14 (HO14.out.bs))
    rw [HLF.out, HLE.out] at HLK
    go_wp2_with fail
    refine HLK.out.mono ?_
    rintro e w15 ⟨VX, rfl, hoX, hs15⟩
    obtain ⟨aX, cX, rfl, _, _, _, _⟩ := hoX.form
    dsimp only
    go_wp2_with fail
    have HS15 : Hid (St No w14 No w15) := Lib.hid (hs15.drop (fun _ h => h.elim))
    have HVX := Lib.hid (hs15.ivs hoX.in)
    have z15 := hs15.size
    have HS16 : Hid (St No w15 No (w15.alloc (.cells #[.int .u64 (fid.toNat : Int), .int .i64 (fix : Int), .int .i64 (fct : Int), .int .i64 (ftt : Int), .slice aX fpt.length cX] 70))) := Lib.hid (St.alloc' No w15 _)
    have HBX : Hid (Ob (w15.alloc (.cells #[.int .u64 (fid.toNat : Int), .int .i64 (fix : Int), .int .i64 (fct : Int), .int .i64 (ftt : Int), .slice aX fpt.length cX] 70)) w15.heap.size 70 #[.int .u64 (fid.toNat : Int), .int .i64 (fix : Int), .int .i64 (fct : Int), .int .i64 (ftt : Int), .slice aX fpt.length cX]) := Lib.hid (Ob.alloc w15 _ _)
    have HOX : Hid (OwB (w15.alloc (.cells #[.int .u64 (fid.toNat : Int), .int .i64 (fix : Int), .int .i64 (fct : Int), .int .i64 (ftt : Int), .slice aX fpt.length cX] 70)) (.slice aX fpt.length cX) fpt) := Lib.hid (hoX.newB _)
    have z16 : (w15.alloc (.cells #[.int .u64 (fid.toNat : Int), .int .i64 (fix : Int), .int .i64 (fct : Int), .int .i64 (ftt : Int), .slice aX fpt.length cX] 70)).heap.size = w15.heap.size + 1 := (by simp)
    clear hoX hs15 HLK
    generalize (w15.alloc (.cells #[.int .u64 (fid.toNat : Int), .int .i64 (fix : Int), .int .i64 (fct : Int), .int .i64 (ftt : Int), .slice aX fpt.length cX] 70)) = w16 at *
    have HLK := Lib.hid (look_calls a14 c14 d0 (by omega) p14 q14 w16 ((OwB.bs (HO14.out.st (HS15.out.trans HS16.out) (Dj.no _)))))
    rw [HLF.out, HLE.out] at HLK
    go_wp2_with fail
    refine HLK.out.mono ?_
    rintro e w17 ⟨VY, rfl, hoY, hs17⟩
    obtain ⟨aY, cY, rfl, _, _, _, _⟩ := hoY.form
    dsimp only
    go_upto_region 16 with fail
    have HS17 : Hid (St No w16 No w17) := Lib.hid (hs17.drop (fun _ h => h.elim))
    have HVY := Lib.hid (hs17.ivs hoY.in)
    have z17 := hs17.size
    have HS18 : Hid (St No w17 No (w17.alloc (.cells #[.int .u64 (fid.toNat : Int), .int .i64 (fix : Int), .int .i64 (fct : Int), .int .i64 (ftt : Int), .slice aY fpt.length cY] 70))) := Lib.hid (St.alloc' No w17 _)
    have HBY : Hid (Ob (w17.alloc (.cells #[.int .u64 (fid.toNat : Int), .int .i64 (fix : Int), .int .i64 (fct : Int), .int .i64 (ftt : Int), .slice aY fpt.length cY] 70)) w17.heap.size 70 #[.int .u64 (fid.toNat : Int), .int .i64 (fix : Int), .int .i64 (fct : Int), .int .i64 (ftt : Int), .slice aY fpt.length cY]) := Lib.hid (Ob.alloc w17 _ _)
    have HOY : Hid (OwB (w17.alloc (.cells #[.int .u64 (fid.toNat : Int), .int .i64 (fix : Int), .int .i64 (fct : Int), .int .i64 (ftt : Int), .slice aY fpt.length cY] 70)) (.slice aY fpt.length cY) fpt) := Lib.hid (hoY.newB _)
    have z18 : (w17.alloc (.cells #[.int .u64 (fid.toNat : Int), .int .i64 (fix : Int), .int .i64 (fct : Int), .int .i64 (ftt : Int), .slice aY fpt.length cY] 70)).heap.size = w17.heap.size + 1 := (by simp)
    clear hoY hs17 HLK
    generalize (w17.alloc (.cells #[.int .u64 (fid.toNat : Int), .int .i64 (fix : Int), .int .i64 (fct : Int), .int .i64 (ftt : Int), .slice aY fpt.length cY] 70)) = w18 at *
    have cx4 : w18.cell? ⟨w15.heap.size, 4, none⟩ = some (.slice aX fpt.length cX) := (HS17.out.trans HS18.out).cellNo' (by rw [HBX.out.cell 4]; rfl)
    have hvx := conv_bs (c := cX) (OwB.bs (HOX.out.st (HS17.out.trans HS18.out) (Dj.no _)))
    go_wp2_with fail
    refine (new_calls 4 4 w18).mono ?_
    rintro e w19 (⟨_, pj, F, rfl, hj19, hs19⟩ | ⟨h, _⟩)
    rotate_left
    · cases h
    have HJ19 := Lib.hid hj19
    have HS19 : Hid (St No w18 F w19) := Lib.hid hs19
    have z19 := hs19.size
    clear hj19 hs19 cx4 hvx
    have hcw : w19.cell? ⟨gW, 0, none⟩ = some (.slice b0 d0.length k0) := ((((((((((((((((HS3.out.trans HS4.out).trans HS5.out).trans HS6.out).trans HS7.out).trans HS8.out).trans HS9.out).trans HS10.out).trans HS11.out).trans HS12.out).trans HS13.out).trans HS14.out).trans HS15.out).trans HS16.out).trans HS17.out).trans HS18.out).trans HS19.out).cellNo' HC0.out
    go_wp2_with (go_at_call 36; refine (num4_calls 0 _).mono ?_; rintro e wn ⟨rfl, rfl⟩)
    refine (clone4_calls b0 k0 d0 (by omega) _ (HB0.out.st ((((((((((((((((HS3.out.trans HS4.out).trans HS5.out).trans HS6.out).trans HS7.out).trans HS8.out).trans HS9.out).trans HS10.out).trans HS11.out).trans HS12.out).trans HS13.out).trans HS14.out).trans HS15.out).trans HS16.out).trans HS17.out).trans HS18.out).trans HS19.out) (Dj.no _))).mono ?_
    rintro e w20 ⟨v20, rfl, ho20, hs20⟩
    obtain ⟨a20, c20, rfl, p20, q20, _, r20⟩ := ho20.form
    have HO20 := Lib.hid ho20
    have HR20 : Hid (a20 = none → c20 = 0) := Lib.hid (fun h => (r20 h).2)
    have HS20 : Hid (St No w19 No w20) := Lib.hid (hs20.drop (fun _ h => h.elim))
    clear r20
    have hz20 := hs20.size
    have hin19 := HJ19.out.in
    have HTK := Lib.hid (jtake_calls a20 c20 d0 (by omega) p20 q20 w20 HO20.out.bs 3 (by omega) F pj 4 4 [] (by simp) (HJ19.out.st HS20.out (Dj.no _)))
    have HSA := Lib.hid (Sane.take (sl := 4) (ag := 4) (by omega) (by omega) (Sane.nil 4 4) (frm := 3) (by omega) d0)
    generalize takeP 4 [] 3 d0 = tp at *
    clear hs20 ho20 hcw hin19
    go_wp2_with fail
    refine HTK.out.mono ?_
    rintro e w21 ⟨V21, F21, rfl, ho21, hj21, hs21, hd21⟩
    have HS21 : Hid (St No w18 No w21) := Lib.hid (((HS19.out.then HS20.out).thenN hs21 (fun q hq => (HS19.out.new q hq).elim (fun h => h.elim) (fun h => h))).drop (fun _ h => h.elim))
    have z21 := hs21.size
    have HJ21 := Lib.hid hj21
    clear ho21 hj21 hs21 hd21 HTK
    have HLEN : Hid (tp.ss.length ≤ 4096) := Lib.hid (HSA.out.few4 (by omega))
    obtain ⟨R, hR⟩ : ∃ R, tellP tp.ss = R := ⟨_, rfl⟩
    have hRl : R.length ≤ 2097152 := by
      rw [← hR]
      have h1 := tellTo_len 255 tp.ss
      have h2 := HLEN.out
      unfold tellP
      omega
    have HSL : Hid (∀ W, Jn W F21 pj 4 4 tp.ss → Calls Try.prog 51 #[.pointer (some ⟨pj, 0, none⟩)] W fun e w' => ∃ V, e = .returned V ∧ Own w' 109 5 V R.length (R.flatMap FS.cells) ∧ St No W (fpV V) w') := Lib.hid (fun W h => by have := slots_calls W F21 pj 4 4 tp.ss HLEN.out h; unfold SlotsJ at this; rw [hR] at this; exact this)
    clear hR
    go_wp2_with fail
    refine (HSL.out _ HJ21.out).mono ?_
    rintro e w22 ⟨VS, rfl, hoS, hs22⟩
    obtain ⟨aS, cS, rfl, _, _, _, _⟩ := hoS.form
    have HOS := Lib.hid hoS
    have HVS := Lib.hid (hs22.ivs hoS.in)
    have HS22 : Hid (St No w21 No w22) := Lib.hid (hs22.drop (fun _ h => h.elim))
    have z22 := hs22.size
    clear hoS hs22
    go_wp2_with fail
    refine (HSL.out _ (HJ21.out.st HS22.out (Dj.no _))).mono ?_
    rintro e w23 ⟨VT, rfl, hoT, hs23⟩
    obtain ⟨aT, cT, rfl, _, _, _, _⟩ := hoT.form
    have HOT := Lib.hid hoT
    have HVT := Lib.hid (hs23.ivs hoT.in)
    have HS23 : Hid (St No w22 No w23) := Lib.hid (hs23.drop (fun _ h => h.elim))
    have z23 := hs23.size
    clear hoT hs23
    go_wp2_with fail
    refine (HSL.out _ (HJ21.out.st (HS22.out.trans HS23.out) (Dj.no _))).mono ?_
    rintro e w24 ⟨VK, rfl, hoK, hs24⟩
    obtain ⟨aK, cK, rfl, _, _, _, _⟩ := hoK.form
    have HOK := Lib.hid hoK
    have HVK := Lib.hid (hs24.ivs hoK.in)
    have HS24 : Hid (St No w23 No w24) := Lib.hid (hs24.drop (fun _ h => h.elim))
    have z24 := hs24.size
    clear hoK hs24
    obtain ⟨gA, rfl⟩ := Own.block9 HGA.out.own (by omega)
    have HBW0 : Hid (Bs w24 b0 d0) := Lib.hid (HB0.out.st (((((((((((((((((((HS3.out.trans HS4.out).trans HS5.out).trans HS6.out).trans HS7.out).trans HS8.out).trans HS9.out).trans HS10.out).trans HS11.out).trans HS12.out).trans HS13.out).trans HS14.out).trans HS15.out).trans HS16.out).trans HS17.out).trans HS18.out).trans HS21.out).trans HS22.out).trans HS23.out).trans HS24.out) (Dj.no _))
    have HPA : Hid (Part w24 (.slice (some ⟨gA, 0, none⟩) ds.length cA) vsA ds 0) := Lib.hid (HGA.out.st (((((((((((((((HS7.out.trans HS8.out).trans HS9.out).trans HS10.out).trans HS11.out).trans HS12.out).trans HS13.out).trans HS14.out).trans HS15.out).trans HS16.out).trans HS17.out).trans HS18.out).trans HS21.out).trans HS22.out).trans HS23.out).trans HS24.out) (Dj.no _)).part
    go_wp2_with fail
    go_loopw [31] (fun t wr => ∃ i : Nat, i ≤ ds.length ∧ t = .int .i64 i ∧ Hid (Part wr (.slice (some ⟨gA, 0, none⟩) ds.length cA) vsA ds i) ∧ Hid (Tn (Iv w5.heap.size w6.heap.size) w24 wr)) (fun t _ => ds.length - (intOf t).toNat)
    case atStart =>
      exact ⟨0, by omega, rfl, HPA, Lib.hid (Tn.refl _ _)⟩
    case round =>
      obtain ⟨i, hi, rfl, HP, HT⟩ := hrel
      by_cases hlt : i < ds.length
      · have hii : (i : Int) < (ds.length : Int) := by omega
        obtain ⟨v, hv⟩ : ∃ v, vsA[i]? = some v := ⟨_, List.getElem?_eq_getElem (by rw [HGA.out.len]; exact hlt)⟩
        obtain ⟨di, hdi⟩ : ∃ d, ds[i]? = some d := ⟨_, List.getElem?_eq_getElem hlt⟩
        have hsmi := HDS.out i di hdi
        obtain ⟨us, hus, husj⟩ := HP.out.own
        have hci := hus.cellAt i v (by rw [husj i (Nat.le_refl _)]; exact hv)
        have HOI := Lib.hid (HP.out.each i v di (Nat.le_refl _) hv hdi)
        have HUS := Lib.hid hus
        have HUJ := Lib.hid husj
        have HVI := Lib.hid hv
        have HSP : Hid (Calls Try.prog 37 #[v, .int .u8 ((i : Int) % 200)] wr (SpOut wr v)) := Lib.hid (by
          have h := spoil_calls v di (by omega) (BitVec.ofNat 8 (i % 200)) wr HOI.out
          rw [show ((BitVec.ofNat 8 (i % 200)).toNat : Int) = (i : Int) % 200 by rw [BitVec.toNat_ofNat]; omega] at h
          exact h)
        clear hv hdi hus husj
        go_wp2_with fail
        refine HSP.out.mono ?_
        rintro e w' ⟨rfl, F', hsp⟩
        have hus' := HUS.out.st hsp (HGA.out.off i v HVI.out)
        have hci' := hus'.cellAt i v (by rw [HUJ.out i (Nat.le_refl _)]; exact HVI.out)
        have hfi' := hus'.freeAt i
        have HUS' := Lib.hid hus'
        have HSPH := Lib.hid hsp
        clear hus' hsp hci
        go_wp2
        have hstc := St.setCell (F := fpB gA) w' ⟨gA, i, none⟩ (.slice none 0 0) rfl
        have hfg : ∀ q, fpB gA q → fpV (.slice (some ⟨gA, 0, none⟩) ds.length cA) q := fun q hq => by
          have e : q = gA := hq
          rw [e]
          simp [fpV, Value.ownBlock]
        refine ⟨⟨i + 1, by omega, by simp, Lib.hid ⟨⟨_, HUS'.out.set i _, fun j hj => ?_⟩, fun j u d hj hu hd => ?_⟩, Lib.hid ?_⟩, by simp [intOf]; omega⟩
        · rw [List.getElem?_set_ne (by omega)]
          exact HUJ.out j (by omega)
        · refine (OwB.st (OwB.st (HP.out.each j u d (by omega) hu hd) HSPH.out (HGA.out.apart i j v u (by omega) HVI.out hu)) hstc ?_)
          intro q hq hf
          exact HGA.out.off j u hu q hf (hfg q hq)
        · exact (HT.out.step HSPH.out (fun q hq => .inl (HVA.out q (fpG.sub HVI.out q hq)))).step hstc (fun q hq => .inl (HVA.out q (.inl (hfg q hq))))
      · obtain rfl : i = ds.length := by omega
        have HPART : Hid (fpt.length ≤ 1024) := Lib.hid (by have h := look_part d0; rw [HLF.out] at h; simp only at h; omega)
        have hbx := HBX.out.tn (((((HS17.out.trans HS18.out).trans HS21.out).trans HS22.out).trans HS23.out).trans HS24.out) HT.out (fun h => by simp only [Iv] at h; omega)
        have cx4 : wr.cell? ⟨w15.heap.size, 4, none⟩ = some (.slice aX fpt.length cX) := by rw [hbx.cell 4]; rfl
        have HSX := Lib.hid (spoil_calls (.slice aX fpt.length cX) fpt (by have := HPART.out; omega) 81#8 wr (HOX.out.tn (((((HS17.out.trans HS18.out).trans HS21.out).trans HS22.out).trans HS23.out).trans HS24.out) HT.out (Tn.dj HVX.out (fun k hm hx => by simp only [Iv] at hm hx; omega))))
        clear hbx HP hlt hi
        go_wp2_with fail
        refine HSX.out.mono ?_
        rintro e w25 ⟨rfl, F25, hs25⟩
        have HT2 : Hid (Tn (fun k => Iv w5.heap.size w6.heap.size k ∨ Iv w14.heap.size w15.heap.size k) w24 w25) := Lib.hid ((HT.out.wide (M' := (fun k => Iv w5.heap.size w6.heap.size k ∨ Iv w14.heap.size w15.heap.size k)) (fun q h => .inl h)).step hs25 (fun q hq => .inl (.inr (HVX.out q hq))))
        have HSS := Lib.hid (spoilSlots_calls (.slice aS R.length cS) R.length (R.flatMap FS.cells) hRl w25 (HOS.out.tn (HS23.out.trans HS24.out) HT2.out (Tn.dj HVS.out (fun k hm hx => by simp only [Iv] at hm hx; omega))))
        clear hs25 cx4 HSX
        go_wp2_with fail
        refine HSS.out.mono ?_
        rintro e w26 ⟨rfl, F26, hs26⟩
        have HT3 : Hid (Tn (fun k => (Iv w5.heap.size w6.heap.size k ∨ Iv w14.heap.size w15.heap.size k) ∨ Iv w21.heap.size w22.heap.size k) w24 w26) := Lib.hid ((HT2.out.wide (M' := (fun k => (Iv w5.heap.size w6.heap.size k ∨ Iv w14.heap.size w15.heap.size k) ∨ Iv w21.heap.size w22.heap.size k)) (fun q h => .inl h)).step hs26 (fun q hq => .inl (.inr (HVS.out q hq))))
        have HSA := Lib.hid (sameAll_calls (some ⟨gB, 0, none⟩) cB es aO cO es (by omega) (by omega) w26 (HGB.out.tn (((((((((((((HS9.out.trans HS10.out).trans HS11.out).trans HS12.out).trans HS13.out).trans HS14.out).trans HS15.out).trans HS16.out).trans HS17.out).trans HS18.out).trans HS21.out).trans HS22.out).trans HS23.out).trans HS24.out) HT3.out (Tn.dj HVB.out (fun k hm hx => by simp only [Iv] at hm hx; omega))).rdl (HGO.out.tn (((((((((((((((((HS5.out.trans HS6.out).trans HS7.out).trans HS8.out).trans HS9.out).trans HS10.out).trans HS11.out).trans HS12.out).trans HS13.out).trans HS14.out).trans HS15.out).trans HS16.out).trans HS17.out).trans HS18.out).trans HS21.out).trans HS22.out).trans HS23.out).trans HS24.out) HT3.out (Tn.dj HVO.out (fun k hm hx => by simp only [Iv] at hm hx; omega))).rdl)
        rw [decide_eq_true (rfl : es = es)] at HSA
        clear hs26 HSS
        go_wp2_with fail
        refine HSA.out.mono ?_
        rintro e w27 ⟨rfl, hd⟩
        have HT4 : Hid (Tn (fun k => (Iv w5.heap.size w6.heap.size k ∨ Iv w14.heap.size w15.heap.size k) ∨ Iv w21.heap.size w22.heap.size k) w24 w27) := Lib.hid (HT3.out.step hd.no (fun q h => h.elim))
        clear hd HSA
        have HSA := Lib.hid (sameAll_calls aC cC ds (some ⟨gW, 0, none⟩) cW ds (by omega) (by omega) w27 (HGC.out.tn (((((((((((HS11.out.trans HS12.out).trans HS13.out).trans HS14.out).trans HS15.out).trans HS16.out).trans HS17.out).trans HS18.out).trans HS21.out).trans HS22.out).trans HS23.out).trans HS24.out) HT4.out (Tn.dj HVC.out (fun k hm hx => by simp only [Iv] at hm hx; omega))).rdl (HGW.out.tn (((((((((((((((((((HS3.out.trans HS4.out).trans HS5.out).trans HS6.out).trans HS7.out).trans HS8.out).trans HS9.out).trans HS10.out).trans HS11.out).trans HS12.out).trans HS13.out).trans HS14.out).trans HS15.out).trans HS16.out).trans HS17.out).trans HS18.out).trans HS21.out).trans HS22.out).trans HS23.out).trans HS24.out) HT4.out (Tn.dj HVW.out (fun k hm hx => by simp only [Iv] at hm hx; omega))).rdl)
        rw [decide_eq_true (rfl : ds = ds)] at HSA
        go_wp2_with fail
        refine HSA.out.mono ?_
        rintro e w28 ⟨rfl, hd⟩
        have HT5 : Hid (Tn (fun k => (Iv w5.heap.size w6.heap.size k ∨ Iv w14.heap.size w15.heap.size k) ∨ Iv w21.heap.size w22.heap.size k) w24 w28) := Lib.hid (HT4.out.step hd.no (fun q h => h.elim))
        clear hd HSA
        have hby := HBY.out.tn (((HS21.out.trans HS22.out).trans HS23.out).trans HS24.out) HT5.out (fun h => by simp only [Iv] at h; omega)
        have cy4 : w28.cell? ⟨w17.heap.size, 4, none⟩ = some (.slice aY fpt.length cY) := by rw [hby.cell 4]; rfl
        have hgw := HVW.out gW (.inl (by simp [fpV, Value.ownBlock]))
        have cw0 : w28.cell? ⟨gW, 0, none⟩ = some (.slice b0 d0.length k0) := (World.cell?_of_block (HT5.out.block gW (by simp only [Iv] at hgw; omega) (fun h => by simp only [Iv] at h hgw; omega))).trans ((((((((((((((((((((HS3.out.trans HS4.out).trans HS5.out).trans HS6.out).trans HS7.out).trans HS8.out).trans HS9.out).trans HS10.out).trans HS11.out).trans HS12.out).trans HS13.out).trans HS14.out).trans HS15.out).trans HS16.out).trans HS17.out).trans HS18.out).trans HS21.out).trans HS22.out).trans HS23.out).trans HS24.out).cellNo' HC0.out)
        have HG28 := (HGW.out.tn (((((((((((((((((((HS3.out.trans HS4.out).trans HS5.out).trans HS6.out).trans HS7.out).trans HS8.out).trans HS9.out).trans HS10.out).trans HS11.out).trans HS12.out).trans HS13.out).trans HS14.out).trans HS15.out).trans HS16.out).trans HS17.out).trans HS18.out).trans HS21.out).trans HS22.out).trans HS23.out).trans HS24.out) HT5.out (Tn.dj HVW.out (fun k hm hx => by simp only [Iv] at hm hx; omega)))
        have hcy : ∀ n, (convert 25 9 (.slice aY fpt.length cY)).run Try.prog (w28.drewN n) = .ok (.string (strB fpt)) (w28.drewN n) := fun n => conv_bs (w := w28.drewN n) ((OwB.bs (HOY.out.tn (((HS21.out.trans HS22.out).trans HS23.out).trans HS24.out) HT5.out (Tn.dj HVY.out (fun k hm hx => by simp only [Iv] at hm hx; omega)))).drewN n)
        have hcd : ∀ n, (convert 25 9 (.slice a14 d0.length c14)).run Try.prog (w28.drewN n) = .ok (.string (strB d0)) (w28.drewN n) := fun n => conv_bs (w := w28.drewN n) ((OwB.bs (HO14.out.tn (((((((HS15.out.trans HS16.out).trans HS17.out).trans HS18.out).trans HS21.out).trans HS22.out).trans HS23.out).trans HS24.out) HT5.out (Tn.dj HV14.out (fun k hm hx => by simp only [Iv] at hm hx; omega)))).drewN n)
        have hcw : ∀ n, (convert 25 9 (.slice b0 d0.length k0)).run Try.prog (w28.drewN n) = .ok (.string (strB d0)) (w28.drewN n) := fun n => conv_bs (w := w28.drewN n) (Bs.drewN (HBW0.out.st (HT5.out) (Tn.dj HVW0.out (fun k hm hx => by simp only [Iv] at hm hx; omega))) n)
        have hbq1 := strB_beq fpt fpt
        rw [decide_eq_true rfl] at hbq1
        have hbq2 := strB_beq d0 d0
        rw [decide_eq_true rfl] at hbq2
        clear hby hgw HG28
        go_wp2_with fail
        go_quiet (fail)
        rename Nat => nqa
        have HT6 : Hid (Tn (fun k => (Iv w5.heap.size w6.heap.size k ∨ Iv w14.heap.size w15.heap.size k) ∨ Iv w21.heap.size w22.heap.size k) w24 (w28.drewN nqa)) := Lib.hid (HT5.out.step (St.drewN No w28 nqa) (fun q h => h.elim))
        have z29 := HT6.out.size
        clear hcy hcd hcw hbq1 hbq2 cy4 cw0
        generalize w28.drewN nqa = w29 at *
        have HPB : Hid (Part w29 (.slice (some ⟨gB, 0, none⟩) es.length cB) vsB es 0) := Lib.hid (HGB.out.tn (((((((((((((HS9.out.trans HS10.out).trans HS11.out).trans HS12.out).trans HS13.out).trans HS14.out).trans HS15.out).trans HS16.out).trans HS17.out).trans HS18.out).trans HS21.out).trans HS22.out).trans HS23.out).trans HS24.out) HT6.out (Tn.dj HVB.out (fun k hm hx => by simp only [Iv] at hm hx; omega))).part
        go_wp2_with fail
        go_loopw [32] (fun t wr => ∃ i : Nat, i ≤ es.length ∧ t = .int .i64 i ∧ Hid (Part wr (.slice (some ⟨gB, 0, none⟩) es.length cB) vsB es i) ∧ Hid (Tn (Iv w7.heap.size w8.heap.size) w29 wr)) (fun t _ => es.length - (intOf t).toNat)
        case atStart =>
          exact ⟨0, by omega, rfl, HPB, Lib.hid (Tn.refl _ _)⟩
        case round =>
          obtain ⟨i, hi, rfl, HP, HT⟩ := hrel
          by_cases hlt : i < es.length
          · have hii : (i : Int) < (es.length : Int) := by omega
            obtain ⟨v, hv⟩ : ∃ v, vsB[i]? = some v := ⟨_, List.getElem?_eq_getElem (by rw [HGB.out.len]; exact hlt)⟩
            obtain ⟨di, hdi⟩ : ∃ d, es[i]? = some d := ⟨_, List.getElem?_eq_getElem hlt⟩
            have hsmi := HES.out i di hdi
            obtain ⟨us, hus, husj⟩ := HP.out.own
            have hci := hus.cellAt i v (by rw [husj i (Nat.le_refl _)]; exact hv)
            have HOI := Lib.hid (HP.out.each i v di (Nat.le_refl _) hv hdi)
            have HUS := Lib.hid hus
            have HUJ := Lib.hid husj
            have HVI := Lib.hid hv
            have HSP : Hid (Calls Try.prog 37 #[v, .int .u8 ((i : Int) % 200)] wr (SpOut wr v)) := Lib.hid (by
              have h := spoil_calls v di (by omega) (BitVec.ofNat 8 (i % 200)) wr HOI.out
              rw [show ((BitVec.ofNat 8 (i % 200)).toNat : Int) = (i : Int) % 200 by rw [BitVec.toNat_ofNat]; omega] at h
              exact h)
            clear hv hdi hus husj
            go_wp2_with fail
            refine HSP.out.mono ?_
            rintro e w' ⟨rfl, F', hsp⟩
            have hus' := HUS.out.st hsp (HGB.out.off i v HVI.out)
            have hci' := hus'.cellAt i v (by rw [HUJ.out i (Nat.le_refl _)]; exact HVI.out)
            have hfi' := hus'.freeAt i
            have HUS' := Lib.hid hus'
            have HSPH := Lib.hid hsp
            clear hus' hsp hci
            go_wp2
            have hstc := St.setCell (F := fpB gB) w' ⟨gB, i, none⟩ (.slice none 0 0) rfl
            have hfg : ∀ q, fpB gB q → fpV (.slice (some ⟨gB, 0, none⟩) es.length cB) q := fun q hq => by
              have e : q = gB := hq
              rw [e]
              simp [fpV, Value.ownBlock]
            refine ⟨⟨i + 1, by omega, by simp, Lib.hid ⟨⟨_, HUS'.out.set i _, fun j hj => ?_⟩, fun j u d hj hu hd => ?_⟩, Lib.hid ?_⟩, by simp [intOf]; omega⟩
            · rw [List.getElem?_set_ne (by omega)]
              exact HUJ.out j (by omega)
            · refine (OwB.st (OwB.st (HP.out.each j u d (by omega) hu hd) HSPH.out (HGB.out.apart i j v u (by omega) HVI.out hu)) hstc ?_)
              intro q hq hf
              exact HGB.out.off j u hu q hf (hfg q hq)
            · exact (HT.out.step HSPH.out (fun q hq => .inl (HVB.out q (fpG.sub HVI.out q hq)))).step hstc (fun q hq => .inl (HVB.out q (.inl (hfg q hq))))
          · obtain rfl : i = es.length := by omega
            obtain ⟨w30, rfl⟩ : ∃ x, x = wr := ⟨_, rfl⟩
            have HT7 := HT
            have HOT2 := Lib.hid ((HOT.out.tn HS24.out HT6.out (Tn.dj HVT.out (fun k hm hx => by simp only [Iv] at hm hx; omega))).st HT.out (Tn.dj HVT.out (fun k hm hx => by simp only [Iv] at hm hx; omega)))
            have HOK2 := Lib.hid ((HOK.out.tn (St.refl No w24) HT6.out (Tn.dj HVK.out (fun k hm hx => by simp only [Iv] at hm hx; omega))).st HT.out (Tn.dj HVK.out (fun k hm hx => by simp only [Iv] at hm hx; omega)))
            have HGC2 := Lib.hid ((HGC.out.tn (((((((((((HS11.out.trans HS12.out).trans HS13.out).trans HS14.out).trans HS15.out).trans HS16.out).trans HS17.out).trans HS18.out).trans HS21.out).trans HS22.out).trans HS23.out).trans HS24.out) HT6.out (Tn.dj HVC.out (fun k hm hx => by simp only [Iv] at hm hx; omega))).st HT.out (Tn.dj HVC.out (fun k hm hx => by simp only [Iv] at hm hx; omega)))
            have HGW2 := Lib.hid ((HGW.out.tn (((((((((((((((((((HS3.out.trans HS4.out).trans HS5.out).trans HS6.out).trans HS7.out).trans HS8.out).trans HS9.out).trans HS10.out).trans HS11.out).trans HS12.out).trans HS13.out).trans HS14.out).trans HS15.out).trans HS16.out).trans HS17.out).trans HS18.out).trans HS21.out).trans HS22.out).trans HS23.out).trans HS24.out) HT6.out (Tn.dj HVW.out (fun k hm hx => by simp only [Iv] at hm hx; omega))).st HT.out (Tn.dj HVW.out (fun k hm hx => by simp only [Iv] at hm hx; omega)))
            have HS30 : Hid (St No w (Nw w) w30) := Lib.hid ((((((((((((((((((((HS1.out.trans HS2.out).trans HS3.out).trans HS4.out).trans HS5.out).trans HS6.out).trans HS7.out).trans HS8.out).trans HS9.out).trans HS10.out).trans HS11.out).trans HS12.out).trans HS13.out).trans HS14.out).trans HS15.out).trans HS16.out).trans HS17.out).trans HS18.out).trans (((HS21.out.trans HS22.out).trans HS23.out).trans HS24.out)).toNew.thenN HT6.out (fun q h => by simp only [Iv] at h; omega)).thenN HT7.out (fun q h => by simp only [Iv] at h; omega))
            clear HP hlt hi HT
            go_wp2_with fail
            go_loopw [33] (fun t wq => ∃ i : Nat, i ≤ R.length ∧ t = .int .i64 i ∧ Hid (Dr w30 wq)) (fun t _ => R.length - (intOf t).toNat)
            case atStart =>
              exact ⟨0, by omega, rfl, Lib.hid (Dr.refl _)⟩
            case round =>
              obtain ⟨i, hi, rfl, HD⟩ := hrel
              have HN : Hid (St No w30 No wr) := Lib.hid HD.out.no
              by_cases hlt : i < R.length
              · have hii : (i : Int) < (R.length : Int) := by omega
                have ht := HOT2.out.st HN.out (Dj.no _)
                have hk := HOK2.out.st HN.out (Dj.no _)
                obtain ⟨yt, rfl⟩ := rowL_some FS.cells_len (by decide) ht i hlt
                obtain ⟨yk, rfl⟩ := rowL_some FS.cells_len (by decide) hk i hlt
                obtain ⟨r, hr⟩ : ∃ r, R[i]? = some r := ⟨_, List.getElem?_eq_getElem hlt⟩
                have het := fun j v => rowL_elem FS.cells_len ht i r hr j v
                have hek := fun j v => rowL_elem FS.cells_len hk i r hr j v
                obtain ⟨r1, r2, r3, r4, r5⟩ := r
                have s0 : wr.cell? (yt.add (i * 5)) = some (.int .u8 r1) := het 0 _ (by decide) rfl
                have s1 : wr.cell? ⟨(yt.add (i * 5)).block, (yt.add (i * 5)).off + 1, none⟩ = some (.int .u64 r2) := het 1 _ (by decide) rfl
                have s2 : wr.cell? ⟨(yt.add (i * 5)).block, (yt.add (i * 5)).off + 2, none⟩ = some (.int .i64 (r3 : Int)) := het 2 _ (by decide) rfl
                have s3 : wr.cell? ⟨(yt.add (i * 5)).block, (yt.add (i * 5)).off + 3, none⟩ = some (.int .i64 (r4 : Int)) := het 3 _ (by decide) rfl
                have s4 : wr.cell? ⟨(yt.add (i * 5)).block, (yt.add (i * 5)).off + 4, none⟩ = some (.int .i64 (r5 : Int)) := het 4 _ (by decide) rfl
                have t0 : wr.cell? (yk.add (i * 5)) = some (.int .u8 r1) := hek 0 _ (by decide) rfl
                have t1 : wr.cell? ⟨(yk.add (i * 5)).block, (yk.add (i * 5)).off + 1, none⟩ = some (.int .u64 r2) := hek 1 _ (by decide) rfl
                have t2 : wr.cell? ⟨(yk.add (i * 5)).block, (yk.add (i * 5)).off + 2, none⟩ = some (.int .i64 (r3 : Int)) := hek 2 _ (by decide) rfl
                have t3 : wr.cell? ⟨(yk.add (i * 5)).block, (yk.add (i * 5)).off + 3, none⟩ = some (.int .i64 (r4 : Int)) := hek 3 _ (by decide) rfl
                have t4 : wr.cell? ⟨(yk.add (i * 5)).block, (yk.add (i * 5)).off + 4, none⟩ = some (.int .i64 (r5 : Int)) := hek 4 _ (by decide) rfl
                have hne : ∀ n, (binOp .neq 109 (.agg #[.int .u8 r1, .int .u64 r2, .int .i64 (r3 : Int), .int .i64 (r4 : Int), .int .i64 (r5 : Int)]) (.agg #[.int .u8 r1, .int .u64 r2, .int .i64 (r3 : Int), .int .i64 (r4 : Int), .int .i64 (r5 : Int)])).run Try.prog (wr.drewN n) = .ok (.bool false) (wr.drewN n) := fun n => run_neq_fs ⟨r1, r2, r3, r4, r5⟩ _
                clear ht hk het hek hr
                go_wp2_with fail
                go_quiet (fail)
                rename Nat => nqb
                go_wp2
                exact ⟨⟨i + 1, by omega, by simp, Lib.hid (HD.out.drewN nqb)⟩, by simp [intOf]; omega⟩
              · obtain rfl : i = R.length := by omega
                have HSA := Lib.hid (sameAll_calls aC cC ds (some ⟨gW, 0, none⟩) cW ds (by omega) (by omega) wr (HGC2.out.st HN.out (Dj.no _)).rdl (HGW2.out.st HN.out (Dj.no _)).rdl)
                rw [decide_eq_true (rfl : ds = ds)] at HSA
                go_wp2_with fail
                refine HSA.out.mono ?_
                rintro e w31 ⟨rfl, hd⟩
                have HF := Lib.hid ((HS30.out.then HN.out).then hd.no)
                clear hd HSA
                go_wp2
                go_ret
                exact ⟨rfl, (HF.out.drop (G' := No) (fun _ h => h.elim)).below⟩
  · have herb : (er != 0) = true := bne_iff_ne.2 her0
    go_wp2
    go_ret
    exact ⟨rfl, (HS1.out.trans HS2.out).below⟩
end Go.Proofs.Ytoeafacamapofaa
