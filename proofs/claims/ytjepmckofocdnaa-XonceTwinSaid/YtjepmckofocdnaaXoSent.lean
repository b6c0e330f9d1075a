
/-
  The law's sent, where it holds.
-/
import Derived.Test.YtjepmckofocdnaaXoSame3
import Derived.Deep.CutRange
namespace Go.Proofs.Ytjepmckofocdnaa
open Go.RowKit
set_option linter.unusedVariables false
set_option linter.unusedSimpArgs false

/-- one row as sent wants it -/
def sentB (s t : SP) (bs : List B8) : Prop := t.L = s.L ++ [bs] ∧ t.v.sent = s.v.sent + 1 ∧ t.v.acked = s.v.acked ∧ t.v.mask = s.v.mask ∧ t.v.delivered = s.v.delivered ∧ t.E = s.E ∧ s.v.sent + 1 ≤ 18446744073709551615 ∧ t.v.qn ≤ t.v.qc
theorem two_rows (wr : World) (A B : Array Value) (T : TypeId) : Ob ((wr.alloc (.cells A T)).alloc (.cells B T)).drew wr.heap.size T A ∧ Ob ((wr.alloc (.cells A T)).alloc (.cells B T)).drew (wr.heap.size + 1) T B ∧ St No wr No ((wr.alloc (.cells A T)).alloc (.cells B T)).drew := by
  have h1 := Ob.alloc wr A T
  have h2 := Ob.alloc (wr.alloc (.cells A T)) B T
  rw [World.size_alloc] at h2
  exact ⟨(h1.move ((St.alloc' No _ _).block _ h1.lt (fun e => e))).move rfl, h2.move rfl, ((St.alloc' No wr _).trans (St.alloc' No _ _)).trans (St.drew No _)⟩
set_option maxRecDepth 100000 in
set_option maxHeartbeats 2000000 in
theorem sent_calls (a : Option Addr) (c : Nat) (S : List SP) (b : Option Addr) (d : Nat) (T : List SP) (who : Nat) (tk : Bool) (pa : Option Addr) (pc : Nat) (bs : List B8) (hSl : S.length ≤ 4294967296) (hwho : who ≤ 255) (hbl : bs.length ≤ 140737488351232) (w : World) (ha : StR w a S) (hb : StR w b T) (hbs : Bs w pa bs)
    (hST : S.length = T.length) (hP : ∀ (h : Nat) (s t : SP), S[h]? = some s → T[h]? = some t → if h = who ∧ tk = true then sentB s t bs else s.pl = t.pl) :
    Calls Try.prog 44 #[.agg #[.slice a S.length c], .agg #[.slice b T.length d], .int .i64 who, .bool tk, .slice pa bs.length pc] w fun e w' => e = .returned (.bool true) ∧ St No w No w' := by
  have HA := Lib.hid ha
  have HB := Lib.hid hb
  have HBS := Lib.hid hbs
  have HP := Lib.hid hP
  clear ha hb hbs hP
  have HS0 : Hid (St No w No ((w.alloc (.cells #[.slice a S.length c] 24)).alloc (.cells #[.slice b T.length d] 24))) := Lib.hid ((St.alloc' No w _).trans (St.alloc' No _ _))
  have HB1 : Hid (Ob ((w.alloc (.cells #[.slice a S.length c] 24)).alloc (.cells #[.slice b T.length d] 24)) w.heap.size 24 #[.slice a S.length c]) := Lib.hid ((Ob.alloc w _ _).move ((St.alloc' No _ _).block _ (Ob.alloc w #[.slice a S.length c] 24).lt (fun e => e)))
  have HB2 : Hid (Ob ((w.alloc (.cells #[.slice a S.length c] 24)).alloc (.cells #[.slice b T.length d] 24)) (w.heap.size + 1) 24 #[.slice b T.length d]) := Lib.hid (by
    have h := Ob.alloc (w.alloc (.cells #[.slice a S.length c] 24)) #[.slice b T.length d] 24
    rw [World.size_alloc] at h
    exact h)
  have b1 : ((w.alloc (.cells #[.slice a S.length c] 24)).alloc (.cells #[.slice b T.length d] 24)).cell? ⟨w.heap.size, 0, none⟩ = some (.slice a S.length c) := by rw [HB1.out.cell 0]; rfl
  have b2 : ((w.alloc (.cells #[.slice a S.length c] 24)).alloc (.cells #[.slice b T.length d] 24)).cell? ⟨w.heap.size + 1, 0, none⟩ = some (.slice b T.length d) := by rw [HB2.out.cell 0]; rfl
  have hl1 : ((S.length : Int) != (T.length : Int)) = false := by rw [bne_eq_false_iff_eq]; omega
  have HL := Lib.hid hST
  clear hST
  go_enter Try.func44, Try.ntmps44
  go_wp2
  generalize (w.alloc (.cells #[.slice a S.length c] 24)).alloc (.cells #[.slice b T.length d] 24) = wA at *
  clear hl1 b1 b2
  go_loopw [11] (fun i wr => ∃ k : Nat, k ≤ S.length ∧ i = .int .i64 k ∧ Hid (St No wA No wr)) (fun i _ => S.length - (intOf i).toNat)
  case atStart => exact ⟨0, Nat.zero_le _, rfl, Lib.hid (St.refl _ _)⟩
  case round =>
    obtain ⟨k, hk, rfl, HD⟩ := hrel
    have b1 : wr.cell? ⟨w.heap.size, 0, none⟩ = some (.slice a S.length c) := by rw [(HB1.out.move (HD.out.block _ HB1.out.lt (fun e => e))).cell 0]; rfl
    have b2 : wr.cell? ⟨w.heap.size + 1, 0, none⟩ = some (.slice b T.length d) := by rw [(HB2.out.move (HD.out.block _ HB2.out.lt (fun e => e))).cell 0]; rfl
    have w0 : w.heap.size < wr.heap.size := World.block_lt_of_cell? wr _ b1
    have w1 : w.heap.size + 1 < wr.heap.size := World.block_lt_of_cell? wr _ b2
    by_cases hlt : k < S.length
    · have hlt2 : k < T.length := by have := HL.out; omega
      obtain ⟨s, hs⟩ : ∃ s, S[k]? = some s := ⟨_, List.getElem?_eq_getElem hlt⟩
      obtain ⟨t, ht2⟩ : ∃ t, T[k]? = some t := ⟨_, List.getElem?_eq_getElem hlt2⟩
      have HPK := Lib.hid (HP.out k s t hs ht2)
      obtain ⟨hr1, x, rfl, hw1⟩ := (HA.out.st (HS0.out.trans HD.out)) k s hs
      obtain ⟨hr2, y, rfl, hw2⟩ := (HB.out.st (HS0.out.trans HD.out)) k t ht2
      have HR1 := Lib.hid hr1
      have HR2 := Lib.hid hr2
      obtain ⟨zP, hzP⟩ : ∃ zP : Obj, zP = .cells #[.int .u64 0, .int .u64 0, .slice none 0 0, .int .u64 0, .int .u64 0, .slice none 0 0] 69 := ⟨_, rfl⟩
      have sA : St No wr No (wr.alloc (.cells #[.int .u64 0, .int .u64 0, .slice none 0 0, .int .u64 0, .int .u64 0, .slice none 0 0] 69)) := St.alloc' No wr _
      have sB : St No wr No ((wr.alloc (.cells #[.int .u64 0, .int .u64 0, .slice none 0 0, .int .u64 0, .int .u64 0, .slice none 0 0] 69)).alloc (.cells #[.int .u64 0, .int .u64 0, .slice none 0 0, .int .u64 0, .int .u64 0, .slice none 0 0] 69)) := sA.trans (St.alloc' No _ _)
      obtain ⟨ra0, ra1, ra2, ra3, ra4, ra5⟩ := hw1.st sA
      obtain ⟨qa0, qa1, qa2, qa3, qa4, qa5⟩ := hw2.st sA
      obtain ⟨rb0, rb1, rb2, rb3, rb4, rb5⟩ := hw1.st sB
      obtain ⟨qb0, qb1, qb2, qb3, qb4, qb5⟩ := hw2.st sB
      have ba1 := sA.cellN b1
      have ba2 := sA.cellN b2
      have bb1 := sB.cellN b1
      have bb2 := sB.cellN b2
      obtain ⟨r0, r1, r2, r3, r4, r5⟩ := hw1
      obtain ⟨q0, q1, q2, q3, q4, q5⟩ := hw2
      have hx0 : (x.add (k * 6)).block < wr.heap.size := World.block_lt_of_cell? wr _ r0
      have hy0 : (y.add (k * 6)).block < wr.heap.size := World.block_lt_of_cell? wr _ q0
      clear hzP zP sA sB
      have m1 : (k : Int) < (S.length : Int) := by omega
      have m2 : (k : Int) < (T.length : Int) := by omega
      clear hs ht2 hr1 hr2
      go_wp2_with fail
      go_cut [12, 13] from 22 to 88 (fun v u wx => ∃ pb qb : Nat, v = .pointer (some ⟨pb, 0, none⟩) ∧ u = .pointer (some ⟨qb, 0, none⟩) ∧ pb ≠ qb ∧ wr.heap.size ≤ pb ∧ wr.heap.size ≤ qb ∧ Hid (Ob wx pb 69 s.v.cells) ∧ Hid (Ob wx qb 69 t.v.cells) ∧ Hid (St No wr No wx))
      case first =>
        go_region
        · have hz := two_rows wr s.v.cells t.v.cells 69
          have HZ := Lib.hid hz
          clear hz
          go_wp2_with fail
          go_meet
          exact ⟨_, _, rfl, rfl, by omega, Nat.le_refl _, Nat.le_succ _, Lib.hid HZ.out.1, Lib.hid HZ.out.2.1, Lib.hid HZ.out.2.2⟩
        · have hz := two_rows wr t.v.cells s.v.cells 69
          have HZ := Lib.hid hz
          clear hz
          go_wp2_with fail
          go_meet
          exact ⟨_, _, rfl, rfl, by omega, Nat.le_succ _, Nat.le_refl _, Lib.hid HZ.out.2.1, Lib.hid HZ.out.1, Lib.hid HZ.out.2.2⟩
      case rest =>
        obtain ⟨pb, qb, rfl, rfl, hpq, hp0, hq0, HOP, HOQ, HSC⟩ := hcut
        clear r0 r1 r2 r3 r4 r5 q0 q1 q2 q3 q4 q5 ra0 ra1 ra2 ra3 ra4 ra5 qa0 qa1 qa2 qa3 qa4 qa5 rb0 rb1 rb2 rb3 rb4 rb5 qb0 qb1 qb2 qb3 qb4 qb5 ba1 ba2 bb1 bb2 b1 b2 hx0 hy0
        have HR1C := Lib.hid (HR1.out.st HSC.out)
        have HR2C := Lib.hid (HR2.out.st HSC.out)
        obtain ⟨u0, u1, u2, u3, u4, u5⟩ := PV.n6 HOP.out
        obtain ⟨v0, v1, v2, v3, v4, v5⟩ := PV.n6 HOQ.out
        by_cases hh : k = who ∧ tk = true
        · obtain ⟨rfl, rfl⟩ := hh
          have hb := HPK.out
          rw [if_pos ⟨rfl, rfl⟩] at hb
          obtain ⟨hb1, hb2, hb3, hb4, hb5, hb6, hb7, hb8⟩ := hb
          obtain ⟨n, hn⟩ : ∃ n, n = s.L.length := ⟨_, rfl⟩
          have hnl : n ≤ 4294967296 := by have := HR1.out.l1; omega
          have hqs : s.v.qn = n := by rw [HR1C.out.qn, hn]
          have hqt : t.v.qn = n + 1 := by rw [HR2C.out.qn, hb1, List.length_append, List.length_singleton, hn]
          rw [hqs] at u2
          rw [hqt] at v2 hb8
          obtain ⟨z, ba, bc, hz1, hz2, hz3, hz4, hz5⟩ := HR2C.out.L n bs (by rw [hb1, hn]; simp)
          rw [hz1] at v2
          have hsm := same8_calls ba bc bs pa pc bs (by unfold maxLen; omega) (by unfold maxLen; omega) wc hz3 (HBS.out.st (HS0.out.trans (HD.out.trans HSC.out)) (Dj.no _))
          rw [decide_eq_true rfl] at hsm
          have HSM := Lib.hid hsm
          clear hsm hz3 hz4 hz5
          have wq : IntKind.i64.wrap ((n : Int) + 1) = (n : Int) + 1 := IntWalk.i64_in _ (by omega)
          have ws : IntKind.u64.wrap ((s.v.sent : Int) + 1) = (t.v.sent : Int) := by rw [wrap_u64]; omega
          have e1 : ((k : Int) != (k : Int)) = false := by rw [bne_eq_false_iff_eq]
          have e2 : (((n : Int) + 1) != ((n : Int) + 1)) = false := by rw [bne_eq_false_iff_eq]
          have e3 : ((t.v.sent : Int) != (t.v.sent : Int)) = false := by rw [bne_eq_false_iff_eq]
          have i1 : (n : Int) < (n : Int) + 1 := by omega
          have HT : Hid (∃ t' : SP, t'.v.cells = #[.int .u64 s.v.sent, .int .u64 t.v.acked, .slice (some z) n t.v.qc, .int .u64 (t.v.mask.toNat : Int), .int .u64 t.v.delivered, .slice t.v.ea t.v.en t.v.ec] ∧ s.pl = t'.pl ∧ ∀ W, St No wr No W → t'.Rd W) := Lib.hid ⟨⟨⟨s.v.sent, t.v.acked, t.v.mask, t.v.delivered, some z, n, t.v.qc, t.v.ea, t.v.en, t.v.ec⟩, s.L, t.E⟩, rfl, by
            unfold SP.pl
            rw [hb3, hb4, hb5, hb6], fun W h => by
            have h2 := HR2.out.st h
            exact ⟨hn, h2.en, fun i xs hi => by
              have hil := (List.getElem?_eq_some_iff.1 hi).1
              rw [← hz1]
              exact h2.L i xs (by rw [hb1, List.getElem?_append_left hil]; exact hi), h2.E, (show s.v.sent ≤ 18446744073709551615 by omega), h2.b2, h2.b3, h2.b4, HR1.out.l1, h2.l2⟩⟩
          have HS1 : Hid (s.v.cells = #[.int .u64 s.v.sent, .int .u64 s.v.acked, .slice s.v.qa n s.v.qc, .int .u64 (s.v.mask.toNat : Int), .int .u64 s.v.delivered, .slice s.v.ea s.v.en s.v.ec]) := Lib.hid (by unfold PV.cells; rw [hqs])
          have HT1 : Hid (t.v.cells = #[.int .u64 t.v.sent, .int .u64 t.v.acked, .slice (some z) (n + 1) t.v.qc, .int .u64 (t.v.mask.toNat : Int), .int .u64 t.v.delivered, .slice t.v.ea t.v.en t.v.ec]) := Lib.hid (by unfold PV.cells; rw [hqt, hz1])
          have HQC := Lib.hid hb8
          clear hb1 hb2 hb3 hb4 hb5 hb6 hb7 hb8 hn hqs hqt hz1
          go_wp2_with fail
          refine HSM.out.mono ?_
          rintro r wD ⟨rfl, hd4⟩
          have sD : St No wc No wD := hd4.st No
          have HOPD := Lib.hid (HOP.out.move (sD.block _ HOP.out.lt (fun e => e)))
          have HOQD := Lib.hid (HOQ.out.move (sD.block _ HOQ.out.lt (fun e => e)))
          have y0 := sD.cellN v0
          have y1 := sD.cellN v1
          have y2 := sD.cellN v2
          have y3 := sD.cellN v3
          have y4 := sD.cellN v4
          have y5 := sD.cellN v5
          have z0 := sD.cellN u0
          have z1 := sD.cellN u1
          have z2 := sD.cellN u2
          have z3 := sD.cellN u3
          have z4 := sD.cellN u4
          have z5 := sD.cellN u5
          have HSD := Lib.hid (HSC.out.trans sD)
          have yf2 := HOQD.out.free 2
          have yf0 := HOQD.out.free 0
          have hcap : (n : Int) ≤ (t.v.qc : Int) := by have := HQC.out; omega
          have hqp : qb ≠ pb := fun e => hpq e.symm
          clear u0 u1 u2 u3 u4 u5 v0 v1 v2 v3 v4 v5 hz2 sD
          go_wp2_with fail
          obtain ⟨t', HT2, HT3, HT4⟩ := HT.out
          have sE : St (fpB0 qb) wD (fpB0 qb) ((wD.setCell ⟨qb, 2, none⟩ (.slice (some z) n t.v.qc)).setCell ⟨qb, 0, none⟩ (.int .u64 s.v.sent)) := (St.setCell (F := fpB0 qb) wD ⟨qb, 2, none⟩ _ rfl).trans (St.setCell (F := fpB0 qb) _ ⟨qb, 0, none⟩ _ rfl)
          have sF := HSD.out.own sE hq0
          have hpc := peers8_calls _ s t' (HR1.out.st sF) (HT4 _ sF)
          rw [HS1.out, HT2, decide_eq_true HT3] at hpc
          refine hpc.mono ?_
          rintro r w5 ⟨rfl, hs5⟩
          have HS5 := Lib.hid (HD.out.trans (sF.trans hs5))
          clear hpc sE sF hs5 HT2 HT3 HT4
          go_wp2
          exact ⟨⟨k + 1, by omega, by go_num, HS5⟩, by simp [intOf]; omega⟩
        · have HE : Hid (s.pl = t.pl) := Lib.hid (by have h := HPK.out; rwa [if_neg hh] at h)
          have HPC := Lib.hid (peers8_calls wc s t HR1C.out HR2C.out)
          rw [decide_eq_true HE.out] at HPC
          have HFIN : Hid (∀ W, St No wc No W → St No wA No W) := Lib.hid (fun W h => HD.out.trans (HSC.out.trans h))
          by_cases hk2 : k = who
          · have ht3 : tk = false := by
              cases tk with
              | false => rfl
              | true => exact absurd ⟨hk2, rfl⟩ hh
            subst ht3
            have e1 : ((k : Int) != (who : Int)) = false := by rw [bne_eq_false_iff_eq]; omega
            clear hh hk2
            go_wp2_with fail
            refine HPC.out.mono ?_
            rintro r w3 ⟨rfl, hs3⟩
            have HS3 := Lib.hid (HFIN.out w3 hs3)
            go_wp2
            exact ⟨⟨k + 1, by omega, by go_num, HS3⟩, by simp [intOf]; omega⟩
          · have e1 : ((k : Int) != (who : Int)) = true := by rw [bne_iff_ne]; omega
            clear hh hk2
            go_wp2_with fail
            refine HPC.out.mono ?_
            rintro r w3 ⟨rfl, hs3⟩
            have HS3 := Lib.hid (HFIN.out w3 hs3)
            go_wp2
            exact ⟨⟨k + 1, by omega, by go_num, HS3⟩, by simp [intOf]; omega⟩
    · obtain rfl : k = S.length := by omega
      go_wp2
      go_ret
      exact ⟨rfl, HS0.out.trans HD.out⟩
end Go.Proofs.Ytjepmckofocdnaa
