
/-
  FragOneByte, walked: it returns true.
-/
import Derived.Test.YtoeafacamapofaaJnByte
import Derived.Test.YtoeafacamapofaaJnPos
import Derived.Test.YtoeafacamapofaaJnFew
import Derived.Test.YtoeafacamapofaaJnNew
import Derived.Test.YtoeafacamapofaaWFragSizes
namespace Go.Proofs.Ytoeafacamapofaa
open Go.RowKit
set_option linter.unusedVariables false
set_option linter.unusedSimpArgs false

theorem take_next {xs : List B8} {id : BitVec 64} {C i : Nat} {frm : Int} (h255 : frm ≠ 255) (hi : i < C) (hE : lookE (dgram (fragB xs id C i)) = 0) (hF : lookF (dgram (fragB xs id C i)) = fragB xs id C i)
    (hp : partB xs C i ≠ []) (hlen : xs.length ≤ C * sizeN xs.length C) :
    takeP 1 (apartS (frm, (id.toNat : Int)) xs C i) frm (dgram (fragB xs id C i)) = ⟨if i + 1 = C then xs else [], decide (i + 1 = C), 0, apartS (frm, (id.toNat : Int)) xs C (i + 1)⟩ := by
  unfold apartS
  rw [if_neg (by omega), take_any h255 (comeN C i) (comeN_len (by omega)) hi (by rw [comeN_count]; omega) hE hF hp hlen, comeN_get, if_neg (by simp), comeN_set hi, comeN_count]
  by_cases hc : i + 1 = C
  · simp [hc]
  · simp [hc]
theorem apart_len (k : Nm) (P : List B8) (C i : Nat) : (apartS k P C i).length ≤ 1 := by
  unfold apartS cameS
  split
  · simp
  · split <;> simp
theorem apart_tell0 (k : Nm) (P : List B8) {C : Nat} (hC : 0 < C) : tellP (apartS k P C 0) = [] := by
  unfold apartS cameS
  rw [if_neg (by omega), comeN_count, if_pos rfl, tell_nil]
theorem apart_tell {k : Nm} (h0 : 0 ≤ k.1 ∧ k.1 < 255) (P : List B8) {C i : Nat} (hi : 0 < i) (hC : i < C) : tellP (apartS k P C i) = [⟨k.1, k.2, i, C, 0⟩] := by
  unfold apartS cameS
  rw [if_neg (by omega), comeN_count, if_neg (by omega), tell_one _ h0.1 h0.2]
  simp [PS.tell, oneS, comeN_count, partsOf_len]
theorem Own.block {w : World} {e size : Nat} {a : Option Addr} {n c : Nat} {xs : List Value} (h : Own w e size (.slice a n c) n xs) (hn : 0 < n) : ∃ g, a = some ⟨g, 0, none⟩ := by
  rcases h.2 with ⟨h, _⟩ | ⟨g, cap, cur, h, _⟩
  · simp at h; omega
  · simp at h; exact ⟨g, h.1⟩
set_option maxRecDepth 100000 in
set_option maxHeartbeats 4000000 in
theorem fragOneByte_walk (a : Option Addr) (c : Nat) (xs : List B8) (hl : xs.length ≤ 140737488351232) (id : BitVec 64) (mtu : Int) (whc at_ : Int) (hwh : -9223372036854775808 ≤ whc ∧ whc ≤ 9223372036854775807) (hat : -9223372036854775808 ≤ at_ ∧ at_ ≤ 9223372036854775807) (x : B8) (w : World) (ha : Bs w a xs) :
    Calls Try.prog 16 #[.slice a xs.length c, .int .u64 (id.toNat : Int), .int .i64 mtu, .int .i64 whc, .int .i64 at_, .int .u8 (x.toNat : Int)] w fun e w' => e = .returned (.bool true) ∧ Below w.heap.size w w' := by
  have HA := Lib.hid ha
  have HFI := Lib.hid (fits4_calls a xs.length c hl mtu w)
  clear ha
  cases hfit : fitsN xs.length mtu with
  | false =>
    rw [hfit] at HFI
    go_enter Try.func16, Try.ntmps16
    go_wp2_with (go_at_call 45; refine HFI.out.mono ?_; rintro e w1 ⟨rfl, rfl⟩)
    go_ret
    exact ⟨rfl, (St.refl No _).below⟩
  | true =>
    rw [hfit] at HFI
    by_cases hx0 : x = 0#8
    · subst hx0
      go_enter Try.func16, Try.ntmps16
      go_wp2_with (go_at_call 45; refine HFI.out.mono ?_; rintro e w1 ⟨rfl, rfl⟩)
      go_ret
      exact ⟨rfl, (St.refl No _).below⟩
    · obtain ⟨m, rfl, m1, m2, m3, m4, m5, m6⟩ := fits_yes (id := id) hfit
      obtain ⟨f1, f2, f3, f4, f5, f6⟩ := split_facts m1 m2 m3 m4
      have HFS := Lib.hid (fun i (hi : i < countN xs.length m) => fragB_shaped (packet := xs) (id := id) m1 m2 m3 m4 hi)
      have HM5 := Lib.hid m5
      have HM6 := Lib.hid m6
      have hxn : ¬ x.toNat = 0 := fun e => hx0 (BitVec.eq_of_toNat_eq (by simpa using e))
      have hxi : ¬ (x.toNat : Int) = 0 := by omega
      have hxb : ((x.toNat : Int) == 0) = false := by simpa using hxn
      clear m5 m6 hfit
      go_enter Try.func16, Try.ntmps16
      go_wp2_with (go_at_call 45; refine HFI.out.mono ?_; rintro e w1 ⟨rfl, rfl⟩)
      refine (clone4_calls a c xs hl w HA.out).mono ?_
      rintro e w1 ⟨v1, rfl, ho1, hs1⟩
      obtain ⟨a1, c1, rfl, q1, q2, _, q4⟩ := ho1.form
      have HO1 := Lib.hid ho1
      have HS1 : Hid (St No w No w1) := Lib.hid (hs1.drop (fun _ h => h.elim))
      have HQ4 : Hid (a1 = none → c1 = 0) := Lib.hid (fun h => (q4 h).2)
      have HQ2 := Lib.hid q2
      clear ho1 hs1 q4 q2
      go_wp2_with fail
      refine (split_calls a1 c1 xs hl q1 HQ2.out HQ4.out id m w1 HO1.out.bs).mono ?_
      rintro e w2 ⟨V2, vs2, rfl, hg2, hs2⟩
      obtain ⟨a2, c2, rfl⟩ := hg2.form
      have hln : (splitB xs id (m : Int)).length = countN xs.length m := by rw [HM6.out, splitL_len]
      rw [hln] at hg2 ⊢
      rw [HM6.out] at hg2
      have HG2 := Lib.hid hg2
      have HS2 : Hid (St No w No w2) := Lib.hid (HS1.out.trans (hs2.drop (fun _ h => h.elim)))
      clear hg2 hs2 q1 hln
      rw [HM5.out]
      have HCN : Hid (∀ i, i < countN xs.length m → shapedN xs.length (countN xs.length m) i (partB xs (countN xs.length m) i).length ∧ 1 ≤ (partB xs (countN xs.length m) i).length ∧ (partB xs (countN xs.length m) i).length ≤ m - 18) := Lib.hid (fun i hi => HFS.out i hi)
      clear HFS HM6
      generalize hCe : countN xs.length m = C at *
      have HCE := Lib.hid hCe
      clear hCe
      have C0 : ¬ C = 0 := by omega
      have C0' : ¬ (C : Int) = 0 := by omega
      have C0b : ((C : Int) == 0) = false := by simpa using C0
      go_wp2_with fail
      refine (new_calls 1 1 w2).mono ?_
      rintro e w3 (⟨_, pj, F, rfl, hj3, hs3⟩ | ⟨h, _⟩)
      rotate_left
      · cases h
      have HJ3 := Lib.hid hj3
      have HS3 := Lib.hid hs3
      clear hj3 hs3
      have HSELF : Hid (([] : List PS) = apartS (5, (id.toNat : Int)) xs C 0) := Lib.hid (by unfold apartS cameS; rw [if_neg (by omega), comeN_count, if_pos rfl])
      -- the datagram that is turned
      have hpr := posI_range (x := whc) (n := (C : Int)) (by omega)
      have HPOS := Lib.hid (fun W => pos_calls whc C (by omega) (by omega) hwh W)
      obtain ⟨q, hq⟩ := Int.eq_ofNat_of_zero_le hpr.1
      rw [hq] at hpr HPOS
      have hqC : q < C := by omega
      have hqi : (q : Int) < (C : Int) := by omega
      clear hpr hq
      have HALL : Hid (∀ i, i < C → ∃ d2x b2 bc, a2 = some d2x ∧ w2.cell? (d2x.add i) = some (.slice b2 (dgram (fragB xs id C i)).length bc) ∧ Bs w2 b2 (dgram (fragB xs id C i)) ∧ (dgram (fragB xs id C i)).length ≤ 1024 ∧ 18 ≤ (dgram (fragB xs id C i)).length ∧ lookE (dgram (fragB xs id C i)) = 0 ∧ lookF (dgram (fragB xs id C i)) = fragB xs id C i ∧ partB xs C i ≠ []) := Lib.hid (fun i hlt => by
        have hds : (splitL xs id C)[i]? = some (dgram (fragB xs id C i)) := splitL_get xs id C i hlt
        have hdl2 : i < (splitL xs id C).length := by rw [splitL_len]; exact hlt
        obtain ⟨d2x, b2, bc, hda, hdc, hbs2⟩ := RdL.at (Grams.rdl (c := c2) (by rw [splitL_len]; exact HG2.out)) i hdl2
        have hdsx : (splitL xs id C)[i] = dgram (fragB xs id C i) := by rw [List.getElem?_eq_getElem hdl2] at hds; exact Option.some.inj hds
        rw [hdsx] at hdc hbs2
        have hsh := HCN.out i hlt
        have hlook := dgram_look (fragB xs id C i) hsh.1 hsh.2.1 (by show (partB xs C i).length ≤ 1006; omega)
        refine ⟨d2x, b2, bc, hda, hdc, hbs2, ?_, ?_, hlook.1, hlook.2, fun e => by have := hsh.2.1; rw [e] at this; simp at this⟩
        · rw [dgram_len]
          show 18 + (partB xs C i).length ≤ 1024
          omega
        · rw [dgram_len]
          omega)
      obtain ⟨d2x, b2, bc, rfl, hdc, hbs2, hdl, hdl18, _, _, _⟩ := HALL.out q hqC
      have HOB := Lib.hid (one_byte (fragB xs id C q))
      have hdc3 : w3.cell? (d2x.add q) = some (.slice b2 (dgram (fragB xs id C q)).length bc) := HS3.out.cellNo' hdc
      have HB2 := Lib.hid (hbs2.st HS3.out (Dj.no _))
      clear hdc hbs2
      generalize dgram (fragB xs id C q) = ds at *
      go_wp2_with (go_at_call 54; refine (HPOS.out _).mono ?_; rintro e w9 ⟨rfl, rfl⟩)
      refine (clone4_calls b2 bc ds (by omega) _ HB2.out).mono ?_
      rintro e w4 ⟨v4, rfl, ho4, hs4⟩
      obtain ⟨a4, c4, rfl, y1, y2, _, _⟩ := ho4.form
      obtain ⟨gb, rfl⟩ := Own.block ho4 (by omega)
      have hpr := posI_range (x := at_) (n := (ds.length : Int)) (by omega)
      have HPOS2 := Lib.hid (fun W => pos_calls at_ ds.length (by omega) (by omega) hat W)
      obtain ⟨n, hn⟩ := Int.eq_ofNat_of_zero_le hpr.1
      rw [hn] at hpr HPOS2
      have hnl : n < ds.length := by omega
      have hni : (n : Int) < (ds.length : Int) := by omega
      clear hpr hn
      have hcell := ho4.cellAt n _ (bv_get ds n hnl)
      have hfree := ho4.freeAt n
      have hbad : lookE (ds.set n (ds[n] ^^^ x)) ≠ 0 := HOB.out n _ hnl (set_ne hnl hx0)
      have hstc := St.setCell (F := fpB gb) w4 ⟨gb, n, none⟩ (.int .u8 ((ds[n] ^^^ x).toNat : Int)) rfl
      have hob : OwB (w4.setCell ⟨gb, n, none⟩ (.int .u8 ((ds[n] ^^^ x).toNat : Int))) (.slice (some ⟨gb, 0, none⟩) ds.length c4) (ds.set n (ds[n] ^^^ x)) := by
        have := Own.set ho4 n (.int .u8 ((ds[n] ^^^ x).toNat : Int))
        have e : (bv ds).set n (.int .u8 ((ds[n] ^^^ x).toNat : Int)) = bv (ds.set n (ds[n] ^^^ x)) := by simp [bv, List.map_set]
        rw [e] at this
        unfold OwB
        rw [List.length_set]
        exact this
      have hgb3 : w3.heap.size ≤ gb := (hs4.new gb (by simp [fpV, Value.ownBlock])).elim (fun h => h.elim) (fun h => h)
      have z3 := HS3.out.size
      have HSS5 : Hid (St No w2 (Nw w2) (w4.setCell ⟨gb, n, none⟩ (.int .u8 ((ds[n] ^^^ x).toNat : Int)))) := Lib.hid ((HS3.out.then hs4).thenN hstc (fun j hj => by have e : j = gb := hj; omega))
      have HFG5 : Hid (¬ F gb) := Lib.hid (fun hf => by have := HJ3.out.in gb hf; omega)
      have HJ5 : Hid (Jn (w4.setCell ⟨gb, n, none⟩ (.int .u8 ((ds[n] ^^^ x).toNat : Int))) F pj 1 1 []) := Lib.hid ((HJ3.out.st hs4 (Dj.no _)).st hstc (fun j hj hf => by have e : j = gb := hj; rw [e] at hf; exact HFG5.out hf))
      have HBAD := Lib.hid hbad
      have HOBB := Lib.hid hob
      have HX := Lib.hid (bits_xor_u8 ds[n] x)
      have hlb : (ds.set n (ds[n] ^^^ x)).length = ds.length := by simp
      generalize hbd : ds.set n (ds[n] ^^^ x) = bad at *
      generalize ds[n] = y at *
      rw [← HX.out] at HSS5 HJ5 HOBB
      have hbl : bad.length ≤ 1024 := by omega
      have hL18 : 18 ≤ bad.length := by omega
      generalize ds.length = L at *
      have HLB := Lib.hid hlb
      clear hlb
      have HCL : Hid (∀ W, Bs W (some ⟨gb, 0, none⟩) bad → Calls Try.prog 28 #[.slice (some ⟨gb, 0, none⟩) L c4] W (BOut W bad)) := Lib.hid (fun W hb => by rw [← HLB.out]; exact clone4_calls (some ⟨gb, 0, none⟩) c4 bad (by omega) W hb)
      have hdl2 : (0 : Int) < (L : Int) := by omega
      have hdl3 : ((L : Int) == 0) = false := beq_eq_false_iff_ne.2 (by omega)
      clear ho4 hs4 hstc hob hbad hbd HX
      go_wp2_with (go_at_call 54; refine (HPOS2.out _).mono ?_; rintro e w9 ⟨rfl, rfl⟩)
      generalize (w4.setCell ⟨gb, n, none⟩ (.int .u8 (bits .xor .u8 (y.toNat : Int) (x.toNat : Int)))) = w5 at *
      clear hcell hfree
      go_loopw [20] (fun t wr => ∃ (i : Nat) (F : Nat → Prop), i ≤ C ∧ t = .int .i64 i ∧ Hid (Jn wr F pj 1 1 (apartS (5, (id.toNat : Int)) xs C i)) ∧ Hid (OwB wr (.slice (some ⟨gb, 0, none⟩) L c4) bad) ∧ Hid (¬ F gb) ∧ Hid (Lo w2.heap.size F) ∧ Hid (St No w2 (Nw w2) wr)) (fun t _ => C - (intOf t).toNat)
      case atStart =>
        exact ⟨0, F, by omega, rfl, by rw [← HSELF.out]; exact HJ5, HOBB, HFG5, Lib.hid (fun q hq => (HS3.out.new q hq).elim (fun h => h.elim) (fun h => h)), HSS5⟩
      case round =>
        obtain ⟨i, F1, hiC, rfl, HJ1, HO1, HFG1, HLO1, HSS1⟩ := hrel
        by_cases hlt : i < C
        · have HTELL0 : Hid (i = 0 → tellP (apartS (5, (id.toNat : Int)) xs C i) = []) := Lib.hid (fun h => by rw [h]; exact apart_tell0 _ _ (by omega))
          have HTELL : Hid (0 < i → tellP (apartS (5, (id.toNat : Int)) xs C i) = [⟨5, (id.toNat : Int), i, C, 0⟩]) := Lib.hid (fun h => apart_tell (show (0 : Int) ≤ 5 ∧ (5 : Int) < 255 by decide) xs h hlt)
          have HAL := Lib.hid (apart_len (5, (id.toNat : Int)) xs C i)
          obtain ⟨d3x, b3, bc3, hda, hdc, hbs3, hdl4, hdl5, hlE, hlF, hpn⟩ := HALL.out i hlt
          obtain rfl : d2x = d3x := Option.some.inj hda
          have HNX := Lib.hid (take_next (xs := xs) (id := id) (frm := 5) (by omega) hlt hlE hlF hpn f6)
          have HB5 := Lib.hid hbs3
          have HDC := Lib.hid hdc
          have hii : (i : Int) < (C : Int) := by omega
          generalize dgram (fragB xs id C i) = ds2 at *
          clear hda hdc hbs3 hlE hlF hpn
          obtain ⟨er, her⟩ : ∃ er, lookE bad = er := ⟨_, rfl⟩
          have her0 : ¬ er = 0 := by rw [← her]; exact HBAD.out
          have her1 : (er == 0) = false := beq_eq_false_iff_ne.2 her0
          have HTB : Hid (takeP 1 (apartS (5, (id.toNat : Int)) xs C i) 5 bad = ⟨[], false, er, apartS (5, (id.toNat : Int)) xs C i⟩) := Lib.hid (by rw [take_bad (by omega) HBAD.out, her])
          rw [← HLB.out] at HO1
          go_wp2_with fail
          refine (HCL.out _ HO1.out.bs).mono ?_
          rintro e w6 ⟨v6, rfl, ho6, hs6⟩
          obtain ⟨a6, c6, rfl, p1, p2, _, _⟩ := ho6.form
          have HLK := Lib.hid (look_calls a6 c6 bad (by omega) p1 p2 w6 ho6.bs)
          obtain ⟨f, hf⟩ : ∃ f, lookF bad = f := ⟨_, rfl⟩
          rw [her, hf] at HLK
          clear hf
          obtain ⟨fid, fix, fct, ftt, fpt⟩ := f
          have HSS6 : Hid (St No w2 (Nw w2) w6) := Lib.hid (HSS1.out.then hs6)
          have HO6 := Lib.hid (OwB.st HO1.out hs6 (Dj.no _))
          have HJ6 := Lib.hid (HJ1.out.st hs6 (Dj.no _))
          clear ho6 hs6
          go_wp2_with fail
          refine HLK.out.mono ?_
          rintro e w7 ⟨v7, rfl, ho7, hs7⟩
          obtain ⟨a7, c7, rfl, _, _, _, _⟩ := ho7.form
          dsimp only
          have HSS7 : Hid (∀ o, St No w2 (Nw w2) (w7.alloc o)) := Lib.hid (fun o => (HSS6.out.then hs7).then (new1 w7 o))
          have HO7 : Hid (∀ o, OwB (w7.alloc o) (.slice (some ⟨gb, 0, none⟩) bad.length c4) bad) := Lib.hid (fun o => OwB.st (OwB.st HO6.out hs7 (Dj.no _)) (new1 w7 o) (Dj.no _))
          have HJ7 : Hid (∀ o, Jn (w7.alloc o) F1 pj 1 1 (apartS (5, (id.toNat : Int)) xs C i)) := Lib.hid (fun o => (HJ6.out.st hs7 (Dj.no _)).st (new1 w7 o) (Dj.no _))
          clear ho7 hs7
          go_wp2_with fail
          refine (HCL.out _ (HO7.out _).bs).mono ?_
          rintro e w8 ⟨v8, rfl, ho8, hs8⟩
          obtain ⟨a8, c8, rfl, p3, p4, _, _⟩ := ho8.form
          have HSS8 : Hid (St No w2 (Nw w2) w8) := Lib.hid ((HSS7.out _).then hs8)
          have HO8 := Lib.hid (OwB.st (HO7.out _) hs8 (Dj.no _))
          have HTK := Lib.hid (jtake_calls a8 c8 bad (by omega) p3 p4 w8 ho8.bs 5 (by omega) F1 pj 1 1 _ (by have := HAL.out; omega) ((HJ7.out _).st hs8 (Dj.no _)))
          rw [HTB.out] at HTK
          clear ho8 hs8
          go_wp2_with fail
          refine HTK.out.mono ?_
          rintro e w9 ⟨V9, F9, rfl, ho9, hj9, hs9, hd9⟩
          obtain ⟨a9, c9, rfl, _, _, _, _⟩ := ho9.form
          have z8 := HSS8.out.size
          have HSS9 : Hid (St No w2 (Nw w2) w9) := Lib.hid (HSS8.out.thenN hs9 (fun q hq => HLO1.out q hq))
          have HLO9 : Hid (Lo w2.heap.size F9) := Lib.hid (fun q hq => (hs9.new q (.inl hq)).elim (HLO1.out q) (fun hl => by omega))
          have hgl := HO8.out.in gb (by simp [fpV, Value.ownBlock])
          have HO9 := Lib.hid (OwB.st HO8.out hs9 (fun q hq hv => HFG1.out (by have e : gb = q := (by simpa [fpV, Value.ownBlock] using hv); rw [e]; exact hq)))
          have HF9 : Hid (¬ F9 gb) := Lib.hid (fun hf => (hs9.new gb (.inl hf)).elim HFG1.out (fun hl => by omega))
          have HJ9 := Lib.hid hj9
          have HSL := Lib.hid (slots_calls w9 F9 pj 1 1 (apartS (5, (id.toNat : Int)) xs C i) (by have := HAL.out; omega) hj9)
          clear ho9 hj9 hs9 hd9 hgl z8
          dsimp only [List.length_nil]
          go_wp2_with fail
          refine HSL.out.mono ?_
          rintro e w10 ⟨V10, rfl, ho10, hs10⟩
          by_cases hi0 : i = 0
          · subst hi0
            rw [HTELL0.out rfl] at ho10
            obtain ⟨a10, c10, rfl, _, _, _, _⟩ := ho10.form
            dsimp only [List.length_nil]
            have HSS10 : Hid (St No w2 (Nw w2) w10) := Lib.hid (HSS9.out.then hs10)
            have HO10 := Lib.hid (OwB.st HO9.out hs10 (Dj.no _))
            have HJ10 := Lib.hid (HJ9.out.st hs10 (Dj.no _))
            have HLB2 : Hid (∀ W, OwB W (.slice (some ⟨gb, 0, none⟩) bad.length c4) bad → OwB W (.slice (some ⟨gb, 0, none⟩) L c4) bad) := Lib.hid (fun W h => by rw [HLB.out] at h; exact h)
            have hcr : w10.cell? (d2x.add 0) = some (.slice b3 ds2.length bc3) := HSS10.out.cellNo' HDC.out
            have hcr0 : w10.cell? d2x = some (.slice b3 ds2.length bc3) := by have h := hcr; simpa [Addr.add] using h
            clear hcr
            clear ho10 hs10
            go_wp2_with fail
            refine (clone4_calls b3 bc3 ds2 (by omega) _ (HB5.out.st HSS10.out (Dj.no _))).mono ?_
            rintro e w11 ⟨v11, rfl, ho11, hs11⟩
            obtain ⟨a11, c11, rfl, y3, y4, _, _⟩ := ho11.form
            have HSS11 : Hid (St No w2 (Nw w2) w11) := Lib.hid (HSS10.out.then hs11)
            have HO11 := Lib.hid (OwB.st HO10.out hs11 (Dj.no _))
            have HTK7 := Lib.hid (jtake_calls a11 c11 ds2 (by omega) y3 y4 w11 ho11.bs 5 (by omega) F9 pj 1 1 (apartS (5, (id.toNat : Int)) xs C 0) (by have := HAL.out; omega) (HJ10.out.st hs11 (Dj.no _)))
            rw [HNX.out] at HTK7
            clear ho11 hs11
            by_cases hend : 0 + 1 = C
            · rw [if_pos hend, decide_eq_true hend] at HTK7
              go_wp2_with fail
              refine HTK7.out.mono ?_
              rintro e w12 ⟨V12, F12, rfl, ho12, hj12, hs12, hd12⟩
              obtain ⟨a12, c12, rfl, _, _, _, _⟩ := ho12.form
              have HJ12 := Lib.hid hj12
              have z11 := HSS11.out.size
              have hgl := HO11.out.in gb (by simp [fpV, Value.ownBlock])
              have HSS12 : Hid (St No w2 (Nw w2) w12) := Lib.hid (HSS11.out.thenN hs12 (fun q hq => HLO9.out q hq))
              have HLO12 : Hid (Lo w2.heap.size F12) := Lib.hid (fun q hq => (hs12.new q (.inl hq)).elim (HLO9.out q) (fun hl => by omega))
              have HO12 := Lib.hid (HLB2.out _ (OwB.st HO11.out hs12 (fun q hq hv => HF9.out (by have e : gb = q := (by simpa [fpV, Value.ownBlock] using hv); rw [e]; exact hq))))
              have HF12 : Hid (¬ F12 gb) := Lib.hid (fun hf => (hs12.new gb (.inl hf)).elim HF9.out (fun hl => by omega))
              have hv1 := conv_bs (c := c12) (OwB.bs ho12)
              have hv2 := conv_bs (c := c) (HA.out.st (HS2.out.trans (HSS12.out.drop (G' := No) (fun _ h => h.elim))) (Dj.no _))
              have hbq := strB_beq xs xs
              rw [decide_eq_true rfl] at hbq
              have hcb : ((0 : Int) == (C : Int) - 1) = true := by rw [show (C : Int) = 1 by omega]; rfl
              clear ho12 hj12 hs12 hd12 hgl z11
              go_wp2
              exact ⟨⟨0 + 1, F12, by omega, by simp <;> omega, HJ12, HO12, HF12, HLO12, HSS12⟩, by simp [intOf]; omega⟩
            · rw [if_neg hend, decide_eq_false hend] at HTK7
              go_wp2_with fail
              refine HTK7.out.mono ?_
              rintro e w12 ⟨V12, F12, rfl, ho12, hj12, hs12, hd12⟩
              obtain ⟨a12, c12, rfl, _, _, _, _⟩ := ho12.form
              have HJ12 := Lib.hid hj12
              have z11 := HSS11.out.size
              have hgl := HO11.out.in gb (by simp [fpV, Value.ownBlock])
              have HSS12 : Hid (St No w2 (Nw w2) w12) := Lib.hid (HSS11.out.thenN hs12 (fun q hq => HLO9.out q hq))
              have HLO12 : Hid (Lo w2.heap.size F12) := Lib.hid (fun q hq => (hs12.new q (.inl hq)).elim (HLO9.out q) (fun hl => by omega))
              have HO12 := Lib.hid (HLB2.out _ (OwB.st HO11.out hs12 (fun q hq hv => HF9.out (by have e : gb = q := (by simpa [fpV, Value.ownBlock] using hv); rw [e]; exact hq))))
              have HF12 : Hid (¬ F12 gb) := Lib.hid (fun hf => (hs12.new gb (.inl hf)).elim HF9.out (fun hl => by omega))
              have hci : ¬ (0 : Int) = (C : Int) - 1 := by omega
              have hcb : ((0 : Int) == (C : Int) - 1) = false := beq_eq_false_iff_ne.2 hci
              have hci2 : ¬ (C : Int) = 1 := by omega
              clear ho12 hj12 hs12 hd12 hgl z11
              go_wp2
              exact ⟨⟨0 + 1, F12, by omega, by simp, HJ12, HO12, HF12, HLO12, HSS12⟩, by simp [intOf]; omega⟩
          · have hip : (0 : Int) < (i : Int) := by omega
            have hi0b : ((i : Int) == 0) = false := beq_eq_false_iff_ne.2 (by omega)
            rw [HTELL.out (by omega)] at ho10
            obtain ⟨a10, c10, rfl, _, _, _, _⟩ := ho10.form
            dsimp only [List.length_cons, List.length_nil] at ho10 ⊢
            obtain ⟨g10, rfl⟩ := Own.block ho10 (by omega)
            have hgot := ho10.cellAt 2 (.int .i64 i) rfl
            have HSS10 : Hid (St No w2 (Nw w2) w10) := Lib.hid (HSS9.out.then hs10)
            have HO10 := Lib.hid (OwB.st HO9.out hs10 (Dj.no _))
            have HJ10 := Lib.hid (HJ9.out.st hs10 (Dj.no _))
            have HLB2 : Hid (∀ W, OwB W (.slice (some ⟨gb, 0, none⟩) bad.length c4) bad → OwB W (.slice (some ⟨gb, 0, none⟩) L c4) bad) := Lib.hid (fun W h => by rw [HLB.out] at h; exact h)
            have hcr : w10.cell? (d2x.add i) = some (.slice b3 ds2.length bc3) := HSS10.out.cellNo' HDC.out
            clear ho10 hs10
            go_wp2_with fail
            refine (clone4_calls b3 bc3 ds2 (by omega) _ (HB5.out.st HSS10.out (Dj.no _))).mono ?_
            rintro e w11 ⟨v11, rfl, ho11, hs11⟩
            obtain ⟨a11, c11, rfl, y3, y4, _, _⟩ := ho11.form
            have HSS11 : Hid (St No w2 (Nw w2) w11) := Lib.hid (HSS10.out.then hs11)
            have HO11 := Lib.hid (OwB.st HO10.out hs11 (Dj.no _))
            have HTK7 := Lib.hid (jtake_calls a11 c11 ds2 (by omega) y3 y4 w11 ho11.bs 5 (by omega) F9 pj 1 1 (apartS (5, (id.toNat : Int)) xs C i) (by have := HAL.out; omega) (HJ10.out.st hs11 (Dj.no _)))
            rw [HNX.out] at HTK7
            clear ho11 hs11
            by_cases hend : i + 1 = C
            · rw [if_pos hend, decide_eq_true hend] at HTK7
              go_wp2_with fail
              refine HTK7.out.mono ?_
              rintro e w12 ⟨V12, F12, rfl, ho12, hj12, hs12, hd12⟩
              obtain ⟨a12, c12, rfl, _, _, _, _⟩ := ho12.form
              have HJ12 := Lib.hid hj12
              have z11 := HSS11.out.size
              have hgl := HO11.out.in gb (by simp [fpV, Value.ownBlock])
              have HSS12 : Hid (St No w2 (Nw w2) w12) := Lib.hid (HSS11.out.thenN hs12 (fun q hq => HLO9.out q hq))
              have HLO12 : Hid (Lo w2.heap.size F12) := Lib.hid (fun q hq => (hs12.new q (.inl hq)).elim (HLO9.out q) (fun hl => by omega))
              have HO12 := Lib.hid (HLB2.out _ (OwB.st HO11.out hs12 (fun q hq hv => HF9.out (by have e : gb = q := (by simpa [fpV, Value.ownBlock] using hv); rw [e]; exact hq))))
              have HF12 : Hid (¬ F12 gb) := Lib.hid (fun hf => (hs12.new gb (.inl hf)).elim HF9.out (fun hl => by omega))
              have hv1 := conv_bs (c := c12) (OwB.bs ho12)
              have hv2 := conv_bs (c := c) (HA.out.st (HS2.out.trans (HSS12.out.drop (G' := No) (fun _ h => h.elim))) (Dj.no _))
              have hbq := strB_beq xs xs
              rw [decide_eq_true rfl] at hbq
              have hci : (i : Int) = (C : Int) - 1 := by omega
              have hcb : ((i : Int) == (C : Int) - 1) = true := by simpa using hci
              clear ho12 hj12 hs12 hd12 hgl z11
              go_wp2
              exact ⟨⟨i + 1, F12, by omega, by simp <;> omega, HJ12, HO12, HF12, HLO12, HSS12⟩, by simp [intOf]; omega⟩
            · rw [if_neg hend, decide_eq_false hend] at HTK7
              go_wp2_with fail
              refine HTK7.out.mono ?_
              rintro e w12 ⟨V12, F12, rfl, ho12, hj12, hs12, hd12⟩
              obtain ⟨a12, c12, rfl, _, _, _, _⟩ := ho12.form
              have HJ12 := Lib.hid hj12
              have z11 := HSS11.out.size
              have hgl := HO11.out.in gb (by simp [fpV, Value.ownBlock])
              have HSS12 : Hid (St No w2 (Nw w2) w12) := Lib.hid (HSS11.out.thenN hs12 (fun q hq => HLO9.out q hq))
              have HLO12 : Hid (Lo w2.heap.size F12) := Lib.hid (fun q hq => (hs12.new q (.inl hq)).elim (HLO9.out q) (fun hl => by omega))
              have HO12 := Lib.hid (HLB2.out _ (OwB.st HO11.out hs12 (fun q hq hv => HF9.out (by have e : gb = q := (by simpa [fpV, Value.ownBlock] using hv); rw [e]; exact hq))))
              have HF12 : Hid (¬ F12 gb) := Lib.hid (fun hf => (hs12.new gb (.inl hf)).elim HF9.out (fun hl => by omega))
              have hci : ¬ (i : Int) = (C : Int) - 1 := by omega
              have hcb : ((i : Int) == (C : Int) - 1) = false := by simpa using hci
              have hci2 : ¬ (C : Int) = (i : Int) + 1 := by omega
              clear ho12 hj12 hs12 hd12 hgl z11
              go_wp2
              exact ⟨⟨i + 1, F12, by omega, by simp, HJ12, HO12, HF12, HLO12, HSS12⟩, by simp [intOf]; omega⟩
        · obtain rfl : i = C := by omega
          go_wp2
          go_ret
          exact ⟨rfl, (HS2.out.trans (HSS1.out.drop (G' := No) (fun _ h => h.elim))).below⟩
end Go.Proofs.Ytoeafacamapofaa
