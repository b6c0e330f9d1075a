/-
  The walk over the reference's Frames.
-/
import Derived.Test.YtfhoekcmkbeabaaCwFrames
import Derived.Test.YtfhoekcmkbeabaaCwFrom
namespace Go.Proofs.Ytfhoekcmkbeabaa
open Go.RowKit
set_option linter.unusedVariables false
set_option linter.unusedSimpArgs false

/-- why there is no frame at a place, in the reference's words -/
theorem whole_ref (rest : List B8) (h8 : ¬ rest.length < 8) :
    (numB (rest.take 4)).toNat = wholeN rest ∧ ((wholeS rest).setWidth 64) = numB ((rest.drop 4).take 4) := by
  have h1 := numB_lt (rest.take 4) 4 (by simp; omega) (by omega)
  have h2 := numB_lt ((rest.drop 4).take 4) 4 (by simp; omega) (by omega)
  constructor
  · unfold wholeN
    rw [BitVec.toNat_setWidth, Nat.mod_eq_of_lt h1]
  · unfold wholeS
    apply BitVec.eq_of_toNat_eq
    rw [BitVec.toNat_setWidth, BitVec.toNat_setWidth, Nat.mod_eq_of_lt h2, Nat.mod_eq_of_lt (by omega)]

set_option maxRecDepth 100000 in
set_option maxHeartbeats 400000 in
theorem refFrames_calls (a : Option Addr) (c : Nat) (bs : List B8) (hn : bs.length ≤ 4294967296) (hlc : bs.length ≤ c) (hcm : c ≤ 9223372036854775807) (w : World) (hb : Bs w a bs) :
    Calls Try.prog 41 #[.slice a bs.length c] w (FramesPost w bs) := by
  have HB := Lib.hid hb
  clear hb
  go_enter Try.func41, Try.ntmps41
  go_wp2
  go_loopw [5, 6] (fun V i wr => ∃ k f : Nat, ∃ bods : List (List B8), ∃ D : Nat → Prop, i = .int .i64 k ∧ Hid (FrAt bs bods k f) ∧ Hid (Bods wr V D bods) ∧ Hid (In D wr) ∧ Hid (St No w (fpV V) wr)) (fun _ i _ => bs.length - (intOf i).toNat)
  case atStart => exact ⟨0, bs.length, [], No, rfl, Lib.hid (FrAt.start bs), Lib.hid (Bods.nil _ _), Lib.hid (fun k hk => hk.elim), Lib.hid ((St.refl No w).drop (fun k hk => by simp [fpV, Value.ownBlock] at hk))⟩
  case round =>
    obtain ⟨k, f, bods, D, rfl, HFR, HBO, HIN, HST⟩ := hrel
    have hk := HFR.out.le
    have HBR : Hid (Bs _ a bs) := Lib.hid (HB.out.st (HST.out.drop (G' := No) (fun _ h => h.elim)) (Dj.no _))
    by_cases hlt : k < bs.length
    · have HNEXT := Lib.hid (HFR.out.next hlt)
      have HSTOP := Lib.hid (HFR.out.stop hlt)
      have HWL := Lib.hid (wholeE_len (bs := bs.drop k))
      have hdl : (bs.drop k).length = bs.length - k := by simp
      by_cases h8 : bs.length - k < 8
      · have HE : Hid (wholeE (bs.drop k) = 21) := Lib.hid (by unfold wholeE; rw [if_pos (by omega)])
        have hs := HSTOP.out (by rw [HE.out]; decide)
        rw [HE.out] at hs
        have HS := Lib.hid hs
        clear hs hdl
        go_wp2
        go_ret3
        exact ⟨u5, D, by rw [HS.out]; rfl, by rw [HS.out]; exact HBO.out, HST.out.drop (fun _ h => h.elim)⟩
      · have hwr := whole_ref (bs.drop k) (by omega)
        have HFR1 := Lib.hid (from_calls a c bs (by omega) k 4 (by omega))
        have HFR2 := Lib.hid (from_calls a c bs (by omega) (k + 4) 4 (by omega))
        rw [hwr.1] at HFR1
        rw [← List.drop_drop, ← hwr.2, show ((k + 4 : Nat) : Int) = (k : Int) + 4 by omega, show ((wholeS (bs.drop k)).setWidth 64).toNat = (wholeS (bs.drop k)).toNat by rw [BitVec.toNat_setWidth, Nat.mod_eq_of_lt (by have := (wholeS (bs.drop k)).isLt; omega)]] at HFR2
        have HB4 : Hid (Bs wr (a.map (fun x => x.add k)) ((bs.drop k).take 4)) := Lib.hid ((HBR.out.drop k).take 4)
        have HB8 : Hid (Bs wr (a.map (fun x => { block := x.block, off := x.off + (k + 7 + 1) })) (((bs.drop k).drop 8).take (wholeN (bs.drop k)))) := Lib.hid (by
          rw [List.drop_drop]
          exact (HBR.out.drop (k + 8)).take _)
        have HL4 : Hid (((bs.drop k).take 4).length = 4) := Lib.hid (by simp; omega)
        have HL8 : Hid (¬ bs.length - k - 8 < wholeN (bs.drop k) → (((bs.drop k).drop 8).take (wholeN (bs.drop k))).length = wholeN (bs.drop k)) := Lib.hid (by intro h; simp; omega)
        have HWE : Hid (wholeE (bs.drop k) = if 16777208 < wholeN (bs.drop k) then 28 else if bs.length - k - 8 < wholeN (bs.drop k) then 21 else if crcB ((bs.drop k).take 4 ++ ((bs.drop k).drop 8).take (wholeN (bs.drop k))) = wholeS (bs.drop k) then 0 else 27) := Lib.hid (by
          have e : wholeE (bs.drop k) = if (bs.drop k).length < 8 then 21 else if 16777208 < wholeN (bs.drop k) then 28 else if (bs.drop k).length - 8 < wholeN (bs.drop k) then 21 else if crcB ((bs.drop k).take 4 ++ ((bs.drop k).drop 8).take (wholeN (bs.drop k))) = wholeS (bs.drop k) then 0 else 27 := rfl
          rw [e, if_neg (by omega), hdl])
        have HWO : Hid (wholeO (bs.drop k) = if wholeE (bs.drop k) = 0 then ((bs.drop k).drop 8).take (wholeN (bs.drop k)) else []) := Lib.hid rfl
        clear hwr hdl
        generalize wholeN (bs.drop k) = N at *
        generalize wholeS (bs.drop k) = S at *
        generalize wholeE (bs.drop k) = E at *
        by_cases hbig : 16777208 < N
        · rw [if_pos hbig] at HWE
          have hs := HSTOP.out (by rw [HWE.out]; decide)
          rw [HWE.out] at hs
          have HS := Lib.hid hs
          clear hs
          go_wp2_with (go_at_call 84; refine (HFR1.out _ HBR.out).mono ?_; rintro e w1 ⟨rfl, rfl⟩)
          go_ret3
          exact ⟨u5, D, by rw [HS.out]; rfl, by rw [HS.out]; exact HBO.out, HST.out.drop (fun _ h => h.elim)⟩
        · rw [if_neg hbig] at HWE
          by_cases hsh : bs.length - k - 8 < N
          · rw [if_pos hsh] at HWE
            have hs := HSTOP.out (by rw [HWE.out]; decide)
            rw [HWE.out] at hs
            have HS := Lib.hid hs
            clear hs
            go_wp2_with (go_at_call 84; refine (HFR1.out _ HBR.out).mono ?_; rintro e w1 ⟨rfl, rfl⟩)
            go_ret3
            exact ⟨u5, D, by rw [HS.out]; rfl, by rw [HS.out]; exact HBO.out, HST.out.drop (fun _ h => h.elim)⟩
          · rw [if_neg hsh] at HWE
            have HLB := Lib.hid (HL8.out hsh)
            generalize ((bs.drop k).drop 8).take N = body at *
            generalize (bs.drop k).take 4 = four at *
            clear HL8
            have HJ1 : Hid (∀ a' c', Bs wr a' body → Calls Try.prog 82 #[.slice none 0 0, .slice a' N c'] wr fun e w' => ∃ v, e = .returned v ∧ OwB w' v body ∧ St No wr (fpV v) w') :=
              Lib.hid (fun a' c' h => by have e := join2_calls none 0 [] a' c' body (by have := HLB.out; simp; omega) wr (Rd.nil _ _) h; rw [HLB.out] at e; exact e)
            have HNIL : Hid (N = 0 → body = []) := Lib.hid (fun h => List.eq_nil_of_length_eq_zero (by rw [HLB.out]; exact h))
            have HJ2 : Hid (∀ W a' c' b' d', Bs W a' four → Bs W b' body → Calls Try.prog 82 #[.slice a' 4 c', .slice b' N d'] W fun e w' => ∃ v, e = .returned v ∧ OwB w' v (four ++ body) ∧ St No W (fpV v) w') :=
              Lib.hid (fun W a' c' b' d' h h2 => by have e := join2_calls a' c' four b' d' body (by have := HLB.out; have := HL4.out; omega) W h h2; rw [HLB.out, HL4.out] at e; exact e)
            have HCR : Hid (∀ W a' c', Bs W a' (four ++ body) → Calls Try.prog 21 #[.slice a' (4 + N) c'] W fun e w' => e = .returned (.int .u32 ((crcB (four ++ body)).toNat : Int)) ∧ W = w') :=
              Lib.hid (fun W a' c' h => by have e := refCrc_calls a' c' (four ++ body) (by have := HLB.out; have := HL4.out; simp; omega) W h; rw [List.length_append, HLB.out, HL4.out] at e; exact e)
            have HFL : Hid ((four ++ body).length = 4 + N) := Lib.hid (by rw [List.length_append, HLB.out, HL4.out])
            generalize four ++ body = fb at *
            have hcr := (crcB fb).isLt
            generalize crcB fb = cr at *
            have hne := int_eq_bv cr S
            have hfew := HFR.out.few
            have HWL8 : Hid (8 + N ≤ bs.length - k) := Lib.hid (by omega)
            by_cases hcs : cr = S
            · subst hcs
              rw [if_pos rfl] at HWE
              have ho : wholeO (bs.drop k) = body := by rw [HWO.out, if_pos HWE.out]
              have hnx := HNEXT.out HWE.out
              rw [ho, HLB.out] at hnx
              have HNX := Lib.hid hnx
              clear ho hnx hne HNEXT HSTOP HWL
              by_cases hck : c = k + 8
              · subst hck
                go_wp2_with (go_at_call 84; refine (HFR1.out _ HBR.out).mono ?_; rintro e w1 ⟨rfl, rfl⟩)
                have hb0 : Bs wr a body := by rw [HNIL.out (by omega)]; exact Rd.nil _ _
                refine (HJ1.out _ _ hb0).mono ?_
                rintro e w1 ⟨v1, rfl, ho1, hs1⟩
                have hf1 := ho1.form
                rw [HLB.out] at hf1
                obtain ⟨a1, c1, rfl, _, _, _, hno1⟩ := hf1
                have HO1 := Lib.hid ho1
                have HS1 := Lib.hid hs1
                have HNO1 := Lib.hid hno1
                have HB41 : Hid (Bs w1 (a.map (fun x => x.add k)) four) := Lib.hid (HB4.out.st hs1 (Dj.no _))
                have HBD1 : Hid (Bs w1 a1 body) := Lib.hid (by have h := ho1; rw [← HLB.out] at h; exact h.bs)
                have HBR1 : Hid (Bs w1 a bs) := Lib.hid (HBR.out.st hs1 (Dj.no _))
                have HBO1 : Hid (Bods w1 u5 D bods) := Lib.hid (HBO.out.st hs1 (Dj.no _) (Dj.no _))
                clear ho1 hs1 hno1
                go_wp2_with fail
                refine (HJ2.out w1 _ _ _ _ HB41.out HBD1.out).mono ?_
                rintro e w2 ⟨v2, rfl, ho2, hs2⟩
                have hf2 := ho2.form
                rw [HFL.out] at hf2
                obtain ⟨a2, c2, rfl, _, _, _, _⟩ := hf2
                have HFB2 : Hid (Bs w2 a2 fb) := Lib.hid (by have h := ho2; rw [← HFL.out] at h; exact h.bs)
                have HS2 := Lib.hid hs2
                have HBD2 : Hid (Bs w2 a1 body) := Lib.hid (HBD1.out.st hs2 (Dj.no _))
                have HBR2 : Hid (Bs w2 a bs) := Lib.hid (HBR1.out.st hs2 (Dj.no _))
                have HBO2 : Hid (Bods w2 u5 D bods) := Lib.hid (HBO1.out.st hs2 (Dj.no _) (Dj.no _))
                clear ho2 hs2
                go_wp2_with fail
                refine (HCR.out w2 _ _ HFB2.out).mono ?_
                rintro e w3 ⟨rfl, rfl⟩
                have HD2 : Hid (Bods (w2.alloc (.cells #[.slice a1 N c1] 22)) u5 (fun j => D j ∨ fpV (.slice a1 N c1) j) bods) := Lib.hid ((HBO2.out.st (St.alloc' No w2 _) (Dj.no _) (Dj.no _)).wide (fun _ h => .inl h) (by
                  rintro j hj (h | h)
                  · obtain ⟨_, _, _, _, hd⟩ := HBO.out
                    exact hd j hj h
                  · have h1 := HBO.out.in j hj
                    rcases HS1.out.new j h with h2 | h2
                    · exact h2
                    · omega))
                have HIN2 : Hid (In (fun j => D j ∨ fpV (.slice a1 N c1) j) (w2.alloc (.cells #[.slice a1 N c1] 22))) := Lib.hid (by
                  have h1 := HS1.out.size
                  have h2 := HS2.out.size
                  rintro j (h | h)
                  · have := HIN.out j h; simp; omega
                  · have := HO1.out.in j h; simp; omega)
                go_wp2_with (first
                  | (go_at_call 84; refine (HFR2.out _ HBR2.out).mono ?_; rintro e w1 ⟨rfl, rfl⟩)
                  | (at_builtin; go_loud (refine wpList_appS rfl (.tmp 63) (.tmp 65) rfl u5 (fun j => D j ∨ fpV (.slice a1 N c1) j) bods rfl HD2.out HIN2.out w2.heap.size a1 c1 body rfl (by rw [HLB.out]; exact Ob.alloc w2 _ _) (HBD2.out.st (St.alloc' No w2 _) (Dj.no _)) (by rintro j ⟨x, rfl, rfl⟩; exact .inr rfl) (fun h => HNIL.out (HNO1.out h).1) (by omega) ?_); intro V' w4 ho4 hs4; have HO4 := Lib.hid ho4; have HS4 := Lib.hid hs4; clear ho4 hs4))
                refine ⟨⟨k + (8 + N), f - 1, bods ++ [body], (fun j => D j ∨ fpV (.slice a1 N c1) j), by simp; omega, HNX, HO4, Lib.hid ?_, Lib.hid ?_⟩, by simp [intOf]; omega⟩
                · exact HIN2.out.st HS4.out
                · exact ((HST.out.trans ((HS1.out.drop (G' := No) (fun _ h => h.elim)).wide (F' := fpV u5) (G' := fpV u5) (fun _ h => h.elim) (fun k hk => .inl hk))).trans ((HS2.out.drop (G' := No) (fun _ h => h.elim)).wide (F' := fpV u5) (G' := fpV u5) (fun _ h => h.elim) (fun k hk => .inl hk))).trans ((St.alloc' (fpV u5) w2 _).trans HS4.out)
              · go_wp2_with (go_at_call 84; refine (HFR1.out _ HBR.out).mono ?_; rintro e w1 ⟨rfl, rfl⟩)
                refine (HJ1.out _ _ HB8.out).mono ?_
                rintro e w1 ⟨v1, rfl, ho1, hs1⟩
                have hf1 := ho1.form
                rw [HLB.out] at hf1
                obtain ⟨a1, c1, rfl, _, _, _, hno1⟩ := hf1
                have HO1 := Lib.hid ho1
                have HS1 := Lib.hid hs1
                have HNO1 := Lib.hid hno1
                have HB41 : Hid (Bs w1 (a.map (fun x => x.add k)) four) := Lib.hid (HB4.out.st hs1 (Dj.no _))
                have HBD1 : Hid (Bs w1 a1 body) := Lib.hid (by have h := ho1; rw [← HLB.out] at h; exact h.bs)
                have HBR1 : Hid (Bs w1 a bs) := Lib.hid (HBR.out.st hs1 (Dj.no _))
                have HBO1 : Hid (Bods w1 u5 D bods) := Lib.hid (HBO.out.st hs1 (Dj.no _) (Dj.no _))
                clear ho1 hs1 hno1
                go_wp2_with fail
                refine (HJ2.out w1 _ _ _ _ HB41.out HBD1.out).mono ?_
                rintro e w2 ⟨v2, rfl, ho2, hs2⟩
                have hf2 := ho2.form
                rw [HFL.out] at hf2
                obtain ⟨a2, c2, rfl, _, _, _, _⟩ := hf2
                have HFB2 : Hid (Bs w2 a2 fb) := Lib.hid (by have h := ho2; rw [← HFL.out] at h; exact h.bs)
                have HS2 := Lib.hid hs2
                have HBD2 : Hid (Bs w2 a1 body) := Lib.hid (HBD1.out.st hs2 (Dj.no _))
                have HBR2 : Hid (Bs w2 a bs) := Lib.hid (HBR1.out.st hs2 (Dj.no _))
                have HBO2 : Hid (Bods w2 u5 D bods) := Lib.hid (HBO1.out.st hs2 (Dj.no _) (Dj.no _))
                clear ho2 hs2
                go_wp2_with fail
                refine (HCR.out w2 _ _ HFB2.out).mono ?_
                rintro e w3 ⟨rfl, rfl⟩
                have HD2 : Hid (Bods (w2.alloc (.cells #[.slice a1 N c1] 22)) u5 (fun j => D j ∨ fpV (.slice a1 N c1) j) bods) := Lib.hid ((HBO2.out.st (St.alloc' No w2 _) (Dj.no _) (Dj.no _)).wide (fun _ h => .inl h) (by
                  rintro j hj (h | h)
                  · obtain ⟨_, _, _, _, hd⟩ := HBO.out
                    exact hd j hj h
                  · have h1 := HBO.out.in j hj
                    rcases HS1.out.new j h with h2 | h2
                    · exact h2
                    · omega))
                have HIN2 : Hid (In (fun j => D j ∨ fpV (.slice a1 N c1) j) (w2.alloc (.cells #[.slice a1 N c1] 22))) := Lib.hid (by
                  have h1 := HS1.out.size
                  have h2 := HS2.out.size
                  rintro j (h | h)
                  · have := HIN.out j h; simp; omega
                  · have := HO1.out.in j h; simp; omega)
                go_wp2_with (first
                  | (go_at_call 84; refine (HFR2.out _ HBR2.out).mono ?_; rintro e w1 ⟨rfl, rfl⟩)
                  | (at_builtin; go_loud (refine wpList_appS rfl (.tmp 63) (.tmp 65) rfl u5 (fun j => D j ∨ fpV (.slice a1 N c1) j) bods rfl HD2.out HIN2.out w2.heap.size a1 c1 body rfl (by rw [HLB.out]; exact Ob.alloc w2 _ _) (HBD2.out.st (St.alloc' No w2 _) (Dj.no _)) (by rintro j ⟨x, rfl, rfl⟩; exact .inr rfl) (fun h => HNIL.out (HNO1.out h).1) (by omega) ?_); intro V' w4 ho4 hs4; have HO4 := Lib.hid ho4; have HS4 := Lib.hid hs4; clear ho4 hs4))
                refine ⟨⟨k + (8 + N), f - 1, bods ++ [body], (fun j => D j ∨ fpV (.slice a1 N c1) j), by simp; omega, HNX, HO4, Lib.hid ?_, Lib.hid ?_⟩, by simp [intOf]; omega⟩
                · exact HIN2.out.st HS4.out
                · exact ((HST.out.trans ((HS1.out.drop (G' := No) (fun _ h => h.elim)).wide (F' := fpV u5) (G' := fpV u5) (fun _ h => h.elim) (fun k hk => .inl hk))).trans ((HS2.out.drop (G' := No) (fun _ h => h.elim)).wide (F' := fpV u5) (G' := fpV u5) (fun _ h => h.elim) (fun k hk => .inl hk))).trans ((St.alloc' (fpV u5) w2 _).trans HS4.out)
            · rw [if_neg hcs] at HWE
              have hs := HSTOP.out (by rw [HWE.out]; decide)
              rw [HWE.out] at hs
              have HS := Lib.hid hs
              have HCS := Lib.hid hcs
              clear hs hcs HNEXT HSTOP HWL
              by_cases hck : c = k + 8
              · subst hck
                go_wp2_with (go_at_call 84; refine (HFR1.out _ HBR.out).mono ?_; rintro e w1 ⟨rfl, rfl⟩)
                have hb0 : Bs wr a body := by rw [HNIL.out (by omega)]; exact Rd.nil _ _
                refine (HJ1.out _ _ hb0).mono ?_
                rintro e w1 ⟨v1, rfl, ho1, hs1⟩
                have hf1 := ho1.form
                rw [HLB.out] at hf1
                obtain ⟨a1, c1, rfl, _, _, _, hno1⟩ := hf1
                have HO1 := Lib.hid ho1
                have HS1 := Lib.hid hs1
                have HNO1 := Lib.hid hno1
                have HB41 : Hid (Bs w1 (a.map (fun x => x.add k)) four) := Lib.hid (HB4.out.st hs1 (Dj.no _))
                have HBD1 : Hid (Bs w1 a1 body) := Lib.hid (by have h := ho1; rw [← HLB.out] at h; exact h.bs)
                have HBR1 : Hid (Bs w1 a bs) := Lib.hid (HBR.out.st hs1 (Dj.no _))
                have HBO1 : Hid (Bods w1 u5 D bods) := Lib.hid (HBO.out.st hs1 (Dj.no _) (Dj.no _))
                clear ho1 hs1 hno1
                go_wp2_with fail
                refine (HJ2.out w1 _ _ _ _ HB41.out HBD1.out).mono ?_
                rintro e w2 ⟨v2, rfl, ho2, hs2⟩
                have hf2 := ho2.form
                rw [HFL.out] at hf2
                obtain ⟨a2, c2, rfl, _, _, _, _⟩ := hf2
                have HFB2 : Hid (Bs w2 a2 fb) := Lib.hid (by have h := ho2; rw [← HFL.out] at h; exact h.bs)
                have HS2 := Lib.hid hs2
                have HBD2 : Hid (Bs w2 a1 body) := Lib.hid (HBD1.out.st hs2 (Dj.no _))
                have HBR2 : Hid (Bs w2 a bs) := Lib.hid (HBR1.out.st hs2 (Dj.no _))
                have HBO2 : Hid (Bods w2 u5 D bods) := Lib.hid (HBO1.out.st hs2 (Dj.no _) (Dj.no _))
                clear ho2 hs2
                go_wp2_with fail
                refine (HCR.out w2 _ _ HFB2.out).mono ?_
                rintro e w3 ⟨rfl, rfl⟩
                have hcb : (((cr.toNat : Nat) : Int) == ((S.toNat : Nat) : Int)) = false := by rw [hne]; exact decide_eq_false HCS.out
                have hcn : (((cr.toNat : Nat) : Int) != ((S.toNat : Nat) : Int)) = true := by simp [bne, hcb]
                clear hcb hne
                go_wp2_with (go_at_call 84; refine (HFR2.out _ HBR2.out).mono ?_; rintro e w1 ⟨rfl, rfl⟩)
                go_ret3
                exact ⟨u5, D, by rw [HS.out]; rfl, by rw [HS.out]; exact HBO2.out, ((HST.out.drop (G' := No) (fun _ h => h.elim)).trans (HS1.out.drop (G' := No) (fun _ h => h.elim))).trans (HS2.out.drop (fun _ h => h.elim))⟩
              · go_wp2_with (go_at_call 84; refine (HFR1.out _ HBR.out).mono ?_; rintro e w1 ⟨rfl, rfl⟩)
                refine (HJ1.out _ _ HB8.out).mono ?_
                rintro e w1 ⟨v1, rfl, ho1, hs1⟩
                have hf1 := ho1.form
                rw [HLB.out] at hf1
                obtain ⟨a1, c1, rfl, _, _, _, hno1⟩ := hf1
                have HO1 := Lib.hid ho1
                have HS1 := Lib.hid hs1
                have HNO1 := Lib.hid hno1
                have HB41 : Hid (Bs w1 (a.map (fun x => x.add k)) four) := Lib.hid (HB4.out.st hs1 (Dj.no _))
                have HBD1 : Hid (Bs w1 a1 body) := Lib.hid (by have h := ho1; rw [← HLB.out] at h; exact h.bs)
                have HBR1 : Hid (Bs w1 a bs) := Lib.hid (HBR.out.st hs1 (Dj.no _))
                have HBO1 : Hid (Bods w1 u5 D bods) := Lib.hid (HBO.out.st hs1 (Dj.no _) (Dj.no _))
                clear ho1 hs1 hno1
                go_wp2_with fail
                refine (HJ2.out w1 _ _ _ _ HB41.out HBD1.out).mono ?_
                rintro e w2 ⟨v2, rfl, ho2, hs2⟩
                have hf2 := ho2.form
                rw [HFL.out] at hf2
                obtain ⟨a2, c2, rfl, _, _, _, _⟩ := hf2
                have HFB2 : Hid (Bs w2 a2 fb) := Lib.hid (by have h := ho2; rw [← HFL.out] at h; exact h.bs)
                have HS2 := Lib.hid hs2
                have HBD2 : Hid (Bs w2 a1 body) := Lib.hid (HBD1.out.st hs2 (Dj.no _))
                have HBR2 : Hid (Bs w2 a bs) := Lib.hid (HBR1.out.st hs2 (Dj.no _))
                have HBO2 : Hid (Bods w2 u5 D bods) := Lib.hid (HBO1.out.st hs2 (Dj.no _) (Dj.no _))
                clear ho2 hs2
                go_wp2_with fail
                refine (HCR.out w2 _ _ HFB2.out).mono ?_
                rintro e w3 ⟨rfl, rfl⟩
                have hcb : (((cr.toNat : Nat) : Int) == ((S.toNat : Nat) : Int)) = false := by rw [hne]; exact decide_eq_false HCS.out
                have hcn : (((cr.toNat : Nat) : Int) != ((S.toNat : Nat) : Int)) = true := by simp [bne, hcb]
                clear hcb hne
                go_wp2_with (go_at_call 84; refine (HFR2.out _ HBR2.out).mono ?_; rintro e w1 ⟨rfl, rfl⟩)
                go_ret3
                exact ⟨u5, D, by rw [HS.out]; rfl, by rw [HS.out]; exact HBO2.out, ((HST.out.drop (G' := No) (fun _ h => h.elim)).trans (HS1.out.drop (G' := No) (fun _ h => h.elim))).trans (HS2.out.drop (fun _ h => h.elim))⟩
    · obtain rfl : k = bs.length := by omega
      have HD := Lib.hid (HFR.out.done rfl)
      go_wp2
      go_ret3
      exact ⟨u5, D, by rw [HD.out]; rfl, by rw [HD.out]; exact HBO.out, HST.out.drop (fun _ h => h.elim)⟩
end Go.Proofs.Ytfhoekcmkbeabaa
