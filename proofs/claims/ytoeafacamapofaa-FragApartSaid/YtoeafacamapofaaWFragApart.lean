
/-
  FragApart, walked: it returns true.
-/
import Derived.Test.YtoeafacamapofaaJnTake
import Derived.Test.YtoeafacamapofaaJnNew
import Derived.Test.YtoeafacamapofaaJnOne
import Derived.Test.YtoeafacamapofaaJnFew
import Derived.Test.YtoeafacamapofaaWFragSizes
import Derived.Test.YtoeafacamapofaaRowDgs
namespace Go.Proofs.Ytoeafacamapofaa
open Go.RowKit
set_option linter.unusedVariables false
set_option linter.unusedSimpArgs false

/-- the first i have come -/
def comeN (C i : Nat) : List Bool := List.replicate i true ++ List.replicate (C - i) false
theorem comeN_len {C i : Nat} (h : i ≤ C) : (comeN C i).length = C := by simp [comeN]; omega
theorem comeN_count (C i : Nat) : (comeN C i).count true = i := by simp [comeN, List.count_append, List.count_replicate]
theorem comeN_get (C i : Nat) : (comeN C i).getD i false = false := by
  unfold comeN
  rw [List.getD_eq_getElem?_getD, List.getElem?_append_right (by simp)]
  simp only [List.length_replicate, Nat.sub_self, List.getElem?_replicate]
  split <;> rfl
theorem comeN_set {C i : Nat} (h : i < C) : (comeN C i).set i true = comeN C (i + 1) := by
  unfold comeN
  apply List.ext_getElem?
  intro j
  simp only [List.getElem?_set, List.getElem?_append, List.getElem?_replicate, List.length_append, List.length_replicate]
  grind
/-- a source's slots when the first i of a packet have come -/
def apartS (k : Nm) (P : List B8) (C i : Nat) : List PS := if i = C then [] else cameS k P C (comeN C i)
theorem take_apart {xs : List B8} {id : BitVec 64} {C i : Nat} {frm : Int} (h255 : frm ≠ 255) {ss : List PS} (hs : srcL frm ss = apartS (frm, (id.toNat : Int)) xs C i) (hi : i < C) (hE : lookE (dgram (fragB xs id C i)) = 0) (hF : lookF (dgram (fragB xs id C i)) = fragB xs id C i)
    (hp : partB xs C i ≠ []) (hlen : xs.length ≤ C * sizeN xs.length C) :
    ∃ ss', takeP 1 ss frm (dgram (fragB xs id C i)) = ⟨if i + 1 = C then xs else [], decide (i + 1 = C), 0, ss'⟩ ∧ srcL frm ss' = apartS (frm, (id.toNat : Int)) xs C (i + 1) := by
  have h1 := take_own 1 ss frm (dgram (fragB xs id C i))
  rw [hs] at h1
  unfold apartS at h1
  rw [if_neg (by omega), take_any h255 (comeN C i) (comeN_len (by omega)) hi (by rw [comeN_count]; omega) hE hF hp hlen, comeN_get, if_neg (by simp), comeN_set hi, comeN_count] at h1
  generalize takeP 1 ss frm (dgram (fragB xs id C i)) = t at h1
  obtain ⟨o, b, e, s⟩ := t
  unfold apartS
  by_cases hc : i + 1 = C
  · rw [if_pos hc] at h1
    simp only [TP.mk.injEq] at h1
    obtain ⟨rfl, rfl, rfl, h4⟩ := h1
    exact ⟨s, by rw [if_pos hc, decide_eq_true hc], by rw [if_pos hc, ← h4]⟩
  · rw [if_neg hc] at h1
    simp only [TP.mk.injEq] at h1
    obtain ⟨rfl, rfl, rfl, h4⟩ := h1
    exact ⟨s, by rw [if_neg hc, decide_eq_false hc], by rw [if_neg hc, ← h4]⟩
theorem apart_none (k : Nm) (P : List B8) {C : Nat} (hC : 0 < C) : srcL k.1 [] = apartS k P C 0 := by
  unfold apartS cameS
  rw [if_neg (by omega), comeN_count, if_pos rfl]
  rfl
theorem St.cellNo' {w w' : World} {G : Nat → Prop} (h : St No w G w') {y : Addr} {v : Value} (hc : w.cell? y = some v) : w'.cell? y = some v :=
  (World.cell?_of_block (h.block _ (World.block_lt_of_cell? w _ hc) (fun e => e))).trans hc
set_option maxRecDepth 100000 in
set_option maxHeartbeats 4000000 in
theorem fragApart_walk (a : Option Addr) (c : Nat) (xs : List B8) (hl : xs.length ≤ 140737488351232) (id : BitVec 64) (mtu : Int) (frm : Int) (hfr : 0 ≤ frm ∧ frm ≤ 255) (oa : Option Addr) (oc : Nat) (rs : List DR) (hrs : rs.length ≤ 140737488351232) (w : World) (ha : Bs w a xs) (hi : DgsIn w oa rs) :
    Calls Try.prog 12 #[.slice a xs.length c, .int .u64 (id.toNat : Int), .int .i64 mtu, .int .u8 frm, .slice oa rs.length oc] w fun e w' => e = .returned (.bool true) ∧ Below w.heap.size w w' := by
  have HA := Lib.hid ha
  have HI := Lib.hid hi
  have HFI := Lib.hid (fits4_calls a xs.length c hl mtu w)
  clear ha hi
  cases hfit : fitsN xs.length mtu with
  | false =>
    rw [hfit] at HFI
    go_enter Try.func12, Try.ntmps12
    go_wp2_with (go_at_call 45; refine HFI.out.mono ?_; rintro e w1 ⟨rfl, rfl⟩)
    go_ret
    exact ⟨rfl, (St.refl No _).below⟩
  | true =>
    rw [hfit] at HFI
    by_cases h255 : frm = 255
    · subst h255
      go_enter Try.func12, Try.ntmps12
      go_wp2_with (go_at_call 45; refine HFI.out.mono ?_; rintro e w1 ⟨rfl, rfl⟩)
      go_ret
      exact ⟨rfl, (St.refl No _).below⟩
    · obtain ⟨m, rfl, m1, m2, m3, m4, m5, m6⟩ := fits_yes (id := id) hfit
      obtain ⟨f1, f2, f3, f4, f5, f6⟩ := split_facts m1 m2 m3 m4
      have HFS := Lib.hid (fun i (hi : i < countN xs.length m) => fragB_shaped (packet := xs) (id := id) m1 m2 m3 m4 hi)
      have HM5 := Lib.hid m5
      have HM6 := Lib.hid m6
      have hfb : (frm == 255) = false := by simpa using h255
      clear m5 m6 hfit
      go_enter Try.func12, Try.ntmps12
      go_wp2_with (go_at_call 45; refine HFI.out.mono ?_; rintro e w1 ⟨rfl, rfl⟩)
      refine (clone4_calls a c xs hl w HA.out).mono ?_
      rintro e w1 ⟨v1, rfl, ho1, hs1⟩
      obtain ⟨a1, c1, rfl, q1, q2, _, q4⟩ := ho1.form
      have HO1 := Lib.hid ho1
      have HS1 : Hid (St No w No w1) := Lib.hid (hs1.drop (fun _ h => h.elim))
      have HQ4 : Hid (a1 = none → c1 = 0) := Lib.hid (fun h => (q4 h).2)
      have HQ2 := Lib.hid q2
      clear ho1 hs1 q4 q2
      go_wp2_with fail
      refine (split_calls a1 c1 xs hl q1 HQ2.out HQ4.out id m w1 HO1.out.bs).mono ?_
      rintro e w2 ⟨V2, vs2, rfl, hg2, hs2⟩
      obtain ⟨a2, c2, rfl⟩ := hg2.form
      have hln : (splitB xs id (m : Int)).length = countN xs.length m := by rw [HM6.out, splitL_len]
      rw [hln] at hg2 ⊢
      rw [HM6.out] at hg2
      have HG2 := Lib.hid hg2
      have HS2 : Hid (St No w No w2) := Lib.hid (HS1.out.trans (hs2.drop (fun _ h => h.elim)))
      clear hg2 hs2 q1 hln
      rw [HM5.out]
      have HCN : Hid (∀ i, i < countN xs.length m → shapedN xs.length (countN xs.length m) i (partB xs (countN xs.length m) i).length ∧ 1 ≤ (partB xs (countN xs.length m) i).length ∧ (partB xs (countN xs.length m) i).length ≤ m - 18) := Lib.hid (fun i hi => HFS.out i hi)
      clear HFS HM6
      generalize hCe : countN xs.length m = C at *
      have HCE := Lib.hid hCe
      clear hCe
      have C0 : ¬ C = 0 := by omega
      have C0' : ¬ (C : Int) = 0 := by omega
      have C0b : ((C : Int) == 0) = false := by simpa using C0
      go_wp2_with fail
      refine (new_calls 1 64 w2).mono ?_
      rintro e w3 (⟨_, pj, F, rfl, hj3, hs3⟩ | ⟨h, _⟩)
      rotate_left
      · cases h
      have HJ3 := Lib.hid hj3
      have HS3 := Lib.hid hs3
      clear hj3 hs3
      have HSELF : Hid (srcL frm [] = apartS (frm, (id.toNat : Int)) xs C 0) := Lib.hid (apart_none (frm, (id.toNat : Int)) xs (by omega))
      go_wp2_with fail
      go_loopw [16] (fun t wr => ∃ (i : Nat) (F : Nat → Prop) (ss : List PS), i ≤ C ∧ t = .int .i64 i ∧ Hid (Jn wr F pj 1 64 ss) ∧ Hid (Sane 1 64 ss) ∧ Hid (srcL frm ss = apartS (frm, (id.toNat : Int)) xs C i) ∧ Hid (Lo w2.heap.size F) ∧ Hid (St No w2 (Nw w2) wr)) (fun t _ => C - (intOf t).toNat)
      case atStart =>
        exact ⟨0, F, [], by omega, rfl, HJ3, Lib.hid (Sane.nil _ _), HSELF, Lib.hid (fun q hq => (HS3.out.new q hq).elim (fun h => h.elim) (fun h => h)), Lib.hid HS3.out.toNew⟩
      case round =>
        obtain ⟨i, F1, ss1, hiC, rfl, HJ1, HSA1, HAP1, HLO1, HSS1⟩ := hrel
        by_cases hlt : i < C
        · have hds : (splitL xs id C)[i]? = some (dgram (fragB xs id C i)) := splitL_get xs id C i hlt
          have hdl2 : i < (splitL xs id C).length := by rw [splitL_len]; exact hlt
          obtain ⟨d2x, b2, bc, hda, hdc, hbs2⟩ := RdL.at (Grams.rdl (c := c2) (by rw [splitL_len]; exact HG2.out)) i hdl2
          have hdsx : (splitL xs id C)[i] = dgram (fragB xs id C i) := by rw [List.getElem?_eq_getElem hdl2] at hds; exact Option.some.inj hds
          rw [hdsx] at hdc hbs2
          have hsh := HCN.out i hlt
          have hdl : (dgram (fragB xs id C i)).length ≤ 1024 := by
            rw [dgram_len]
            show 18 + (partB xs C i).length ≤ 1024
            omega
          have hlook := dgram_look (fragB xs id C i) hsh.1 hsh.2.1 (by show (partB xs C i).length ≤ 1006; omega)
          have HTA : Hid (∀ ss, srcL frm ss = apartS (frm, (id.toNat : Int)) xs C i → ∃ ss', takeP 1 ss frm (dgram (fragB xs id C i)) = ⟨if i + 1 = C then xs else [], decide (i + 1 = C), 0, ss'⟩ ∧ srcL frm ss' = apartS (frm, (id.toNat : Int)) xs C (i + 1)) :=
            Lib.hid (fun ss hs => take_apart h255 hs hlt hlook.1 hlook.2 (fun e => by have := hsh.2.1; rw [e] at this; simp at this) f6)
          subst hda
          have HB5 := Lib.hid hbs2
          have HDC := Lib.hid hdc
          have hixi : (i : Int) < (C : Int) := by omega
          generalize hdse : dgram (fragB xs id C i) = ds at *
          clear hds hdl2 hdc hdsx hbs2 hsh hlook hdse
          go_wp2_with fail
          go_loopw [17] (fun t wq => ∃ (k : Nat) (F : Nat → Prop) (ss : List PS), k ≤ rs.length + C ∧ t = .int .i64 k ∧ Hid (Jn wq F pj 1 64 ss) ∧ Hid (Sane 1 64 ss) ∧ Hid (srcL frm ss = apartS (frm, (id.toNat : Int)) xs C i) ∧ Hid (Lo w2.heap.size F) ∧ Hid (St No w2 (Nw w2) wq)) (fun t _ => rs.length + C - (intOf t).toNat)
          case atStart =>
            exact ⟨i, F1, ss1, by omega, rfl, HJ1, HSA1, HAP1, HLO1, HSS1⟩
          case round =>
            obtain ⟨k, F2, ss2, hkC, rfl, HJ2, HSA2, HAP2, HLO2, HSS2⟩ := hrel
            have z1 := HSS2.out.size
            by_cases hkr : k < rs.length
            · have hki : (k : Int) < (rs.length : Int) := by omega
              obtain ⟨x, rfl, hc, hok⟩ := HI.out k rs[k] (List.getElem?_eq_getElem hkr)
              generalize rs[k] = r at *
              obtain ⟨rsrc, rdst, ra, rc, rdata⟩ := r
              have HST0 : Hid (St No w No wr) := Lib.hid (HS2.out.trans (HSS2.out.drop (G' := No) (fun _ h => h.elim)))
              have x0 : wr.cell? (x.add (k * 3)) = some (.int .u8 rsrc) := HST0.out.cellNo' (hc 0 _ rfl)
              have x2 : wr.cell? ⟨(x.add (k * 3)).block, (x.add (k * 3)).off + 2, none⟩ = some (.slice ra rdata.length rc) := HST0.out.cellNo' (hc 2 _ rfl)
              have HC := Lib.hid hc
              have hsr : 0 ≤ rsrc ∧ rsrc ≤ 255 := hok.src
              have hrl : rdata.length ≤ 140737488351232 := hok.len
              have HOK := Lib.hid hok
              clear hc hok
              by_cases hsf : rsrc = frm
              · subst hsf
                go_wp2
                exact ⟨⟨k + C, F2, ss2, by omega, by simp, HJ2, HSA2, HAP2, HLO2, HSS2⟩, by simp [intOf]; omega⟩
              · have hsfb : (rsrc == frm) = false := by simpa using hsf
                go_wp2_with fail
                go_region_held3 (fun w' => w'.cell? (x.add (k * 3)) = some (.int .u8 rsrc) ∧ w'.cell? ⟨(x.add (k * 3)).block, (x.add (k * 3)).off + 2, none⟩ = some (.slice ra rdata.length rc)) (go_keep)
                  (first
                    | (go_at_call 28
                       refine (clone4_calls ra rc rdata hrl _ (Bs.drew (HOK.out.bs.st HST0.out (Dj.no _)))).mono ?_
                       rintro e w5 ⟨v5, rfl, ho5, hs5⟩
                       obtain ⟨a5, c5, rfl, y1, y2, _, _⟩ := ho5.form
                       have hs5' := (St.drew No wr).trans hs5
                       have HS5 := Lib.hid hs5'
                       have HST5 : Hid (St No w No w5) := Lib.hid (HST0.out.trans (hs5'.drop (G' := No) (fun _ h => h.elim)))
                       have x05 : w5.cell? (x.add (k * 3)) = some (.int .u8 rsrc) := HST5.out.cellNo' (HC.out 0 _ rfl)
                       have x25 : w5.cell? ⟨(x.add (k * 3)).block, (x.add (k * 3)).off + 2, none⟩ = some (.slice ra rdata.length rc) := HST5.out.cellNo' (HC.out 2 _ rfl)
                       have HTK := Lib.hid (jtake_calls a5 c5 rdata (by omega) y1 y2 w5 ho5.bs rsrc hsr F2 pj 1 64 _ (HSA2.out.few4 (by omega)) (HJ2.out.st hs5' (Dj.no _)))
                       have HSA5 := Lib.hid (Sane.take (by omega) (by omega) HSA2.out hsr rdata)
                       have HAP5 : Hid (srcL frm (takeP 1 ss2 rsrc rdata).ss = apartS (frm, (id.toNat : Int)) xs C i) := Lib.hid ((take_other (by omega) ss2 hsf rdata).trans HAP2.out)
                       clear ho5 hs5 hs5'
                       generalize takeP 1 ss2 rsrc rdata = tp5 at *)
                    | (go_at_call 55
                       refine HTK.out.mono ?_
                       rintro e w6 ⟨V6, F6, rfl, ho6, hj6, hs6, hd6⟩
                       have HJ6 := Lib.hid hj6
                       have HSS6 : Hid (St No w2 (Nw w2) w6) := Lib.hid ((HSS2.out.thenN HS5.out (fun q hq => hq.elim)).thenN hs6 (fun q hq => HLO2.out q hq))
                       have z2 := HS5.out.size
                       have HLO6 : Hid (Lo w2.heap.size F6) := Lib.hid (fun q hq => (hs6.new q (.inl hq)).elim (HLO2.out q) (fun hl => by omega))
                       have HST6 : Hid (St No w No w6) := Lib.hid (HS2.out.trans (HSS6.out.drop (G' := No) (fun _ h => h.elim)))
                       have x06 : w6.cell? (x.add (k * 3)) = some (.int .u8 rsrc) := HST6.out.cellNo' (HC.out 0 _ rfl)
                       have x26 : w6.cell? ⟨(x.add (k * 3)).block, (x.add (k * 3)).off + 2, none⟩ = some (.slice ra rdata.length rc) := HST6.out.cellNo' (HC.out 2 _ rfl)
                       have hcr6 : w6.cell? (d2x.add i) = some (.slice b2 ds.length bc) := HSS6.out.cellNo' HDC.out
                       clear ho6 hj6 hs6 hd6))
                go_wp2_with fail
                go_region_held3 (fun w' => w'.cell? (x.add (k * 3)) = some (.int .u8 rsrc) ∧ w'.cell? (d2x.add i) = some (.slice b2 ds.length bc)) (go_keep)
                  (first
                    | (go_at_call 28
                       refine (clone4_calls b2 bc ds (by omega) _ (Bs.drew (HB5.out.st HSS6.out (Dj.no _)))).mono ?_
                       rintro e w7 ⟨v7, rfl, ho7, hs7⟩
                       obtain ⟨a7, c7, rfl, y3, y4, _, _⟩ := ho7.form
                       have hs7' := (St.drew No w6).trans hs7
                       have HS7 := Lib.hid hs7'
                       have HST7 : Hid (St No w No w7) := Lib.hid (HST6.out.trans (hs7'.drop (G' := No) (fun _ h => h.elim)))
                       have x07 : w7.cell? (x.add (k * 3)) = some (.int .u8 rsrc) := HST7.out.cellNo' (HC.out 0 _ rfl)
                       have hcr7 : w7.cell? (d2x.add i) = some (.slice b2 ds.length bc) := hs7'.cellNo' hcr6
                       have HTK7 := Lib.hid (jtake_calls a7 c7 ds (by omega) y3 y4 w7 ho7.bs rsrc hsr F6 pj 1 64 _ (HSA5.out.few4 (by omega)) (HJ6.out.st hs7' (Dj.no _)))
                       have HSA7 := Lib.hid (Sane.take (by omega) (by omega) HSA5.out hsr ds)
                       have HAP7 : Hid (srcL frm (takeP 1 tp5.ss rsrc ds).ss = apartS (frm, (id.toNat : Int)) xs C i) := Lib.hid ((take_other (by omega) tp5.ss hsf ds).trans HAP5.out)
                       clear ho7 hs7 hs7'
                       generalize takeP 1 tp5.ss rsrc ds = tp7 at *)
                    | (go_at_call 55
                       refine HTK7.out.mono ?_
                       rintro e w8 ⟨V8, F8, rfl, ho8, hj8, hs8, hd8⟩
                       have HJ8 := Lib.hid hj8
                       have z3 := HSS6.out.size
                       have z4 := HS7.out.size
                       have HSS8 : Hid (St No w2 (Nw w2) w8) := Lib.hid ((HSS6.out.thenN HS7.out (fun q hq => hq.elim)).thenN hs8 (fun q hq => HLO6.out q hq))
                       have HLO8 : Hid (Lo w2.heap.size F8) := Lib.hid (fun q hq => (hs8.new q (.inl hq)).elim (HLO6.out q) (fun hl => by omega))
                       have HST8 : Hid (St No w No w8) := Lib.hid (HS2.out.trans (HSS8.out.drop (G' := No) (fun _ h => h.elim)))
                       have x08 : w8.cell? (x.add (k * 3)) = some (.int .u8 rsrc) := HST8.out.cellNo' (HC.out 0 _ rfl)
                       have hcr8 : w8.cell? (d2x.add i) = some (.slice b2 ds.length bc) := HSS8.out.cellNo' HDC.out
                       clear ho8 hj8 hs8 hd8))
                go_wp2
                exact ⟨⟨k + C, F8, tp7.ss, by omega, by simp, HJ8, HSA7, HAP7, HLO8, HSS8⟩, by simp [intOf]; omega⟩
            · have hki : ¬ (k : Int) < (rs.length : Int) := by omega
              have hcr : wr.cell? (d2x.add i) = some (.slice b2 ds.length bc) := HSS2.out.cellNo' HDC.out
              go_wp2_with fail
              refine (clone4_calls b2 bc ds (by omega) _ (HB5.out.st HSS2.out (Dj.no _))).mono ?_
              rintro e w7 ⟨v7, rfl, ho7, hs7⟩
              obtain ⟨a7, c7, rfl, y3, y4, _, _⟩ := ho7.form
              have HS7 := Lib.hid hs7
              have HTK7 := Lib.hid (jtake_calls a7 c7 ds (by omega) y3 y4 w7 ho7.bs frm hfr F2 pj 1 64 _ (HSA2.out.few4 (by omega)) (HJ2.out.st hs7 (Dj.no _)))
              have HSA7 := Lib.hid (Sane.take (by omega) (by omega) HSA2.out hfr ds)
              obtain ⟨ss7, hta, hap7⟩ := HTA.out ss2 HAP2.out
              rw [hta] at HTK7 HSA7
              have HAP7 := Lib.hid hap7
              clear ho7 hs7 hta hap7
              by_cases hend : i + 1 = C
              · rw [if_pos hend, decide_eq_true hend] at HTK7
                go_wp2_with fail
                refine HTK7.out.mono ?_
                rintro e w8 ⟨V8, F8, rfl, ho8, hj8, hs8, hd8⟩
                obtain ⟨a8, c8, rfl, _, _, _, _⟩ := ho8.form
                have HJ8 := Lib.hid hj8
                have z4 := HS7.out.size
                have HSS8 : Hid (St No w2 (Nw w2) w8) := Lib.hid ((HSS2.out.thenN HS7.out (fun q hq => hq.elim)).thenN hs8 (fun q hq => HLO2.out q hq))
                have HLO8 : Hid (Lo w2.heap.size F8) := Lib.hid (fun q hq => (hs8.new q (.inl hq)).elim (HLO2.out q) (fun hl => by omega))
                have hv1 := conv_bs (c := c8) (OwB.bs ho8)
                have hv2 := conv_bs (c := c) (HA.out.st (HS2.out.trans (HSS8.out.drop (G' := No) (fun _ h => h.elim))) (Dj.no _))
                have hbq := strB_beq xs xs
                rw [decide_eq_true rfl] at hbq
                have hci : (i : Int) = (C : Int) - 1 := by omega
                have hcb : ((i : Int) == (C : Int) - 1) = true := by simpa using hci
                clear ho8 hj8 hs8 hd8
                go_wp2
                exact ⟨⟨i + 1, F8, ss7, by omega, by simp <;> omega, HJ8, HSA7, HAP7, HLO8, HSS8⟩, by simp [intOf]; omega⟩
              · rw [if_neg hend, decide_eq_false hend] at HTK7
                go_wp2_with fail
                refine HTK7.out.mono ?_
                rintro e w8 ⟨V8, F8, rfl, ho8, hj8, hs8, hd8⟩
                obtain ⟨a8, c8, rfl, _, _, _, _⟩ := ho8.form
                have HJ8 := Lib.hid hj8
                have z4 := HS7.out.size
                have HSS8 : Hid (St No w2 (Nw w2) w8) := Lib.hid ((HSS2.out.thenN HS7.out (fun q hq => hq.elim)).thenN hs8 (fun q hq => HLO2.out q hq))
                have HLO8 : Hid (Lo w2.heap.size F8) := Lib.hid (fun q hq => (hs8.new q (.inl hq)).elim (HLO2.out q) (fun hl => by omega))
                have hci : ¬ (i : Int) = (C : Int) - 1 := by omega
                have hcb : ((i : Int) == (C : Int) - 1) = false := by simpa using hci
                have hci2 : ¬ (C : Int) = (i : Int) + 1 := by omega
                clear ho8 hj8 hs8 hd8
                go_wp2
                exact ⟨⟨i + 1, F8, ss7, by omega, by simp, HJ8, HSA7, HAP7, HLO8, HSS8⟩, by simp [intOf]; omega⟩
        · obtain rfl : i = C := by omega
          go_wp2
          go_ret
          exact ⟨rfl, (HS2.out.trans (HSS1.out.drop (G' := No) (fun _ h => h.elim))).below⟩
end Go.Proofs.Ytoeafacamapofaa
