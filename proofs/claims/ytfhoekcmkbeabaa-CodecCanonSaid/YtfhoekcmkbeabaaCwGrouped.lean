
/-
  The walk over the reference's grouped.
-/
import Derived.Test.YtfhoekcmkbeabaaCwGroup4
import Derived.Test.YtfhoekcmkbeabaaCwRefB
import Derived.OwnWalk
namespace Go.Proofs.Ytfhoekcmkbeabaa
open Go.RowKit
set_option linter.unusedVariables false
set_option linter.unusedSimpArgs false

theorem lead_in : ∀ (f : Nat) (bs : List B8) (j : Nat), j < lead f bs → ∃ c, bs[j]? = some c ∧ 128 ≤ c.toNat := by
  intro f
  induction f with
  | zero => intro bs j h; simp [lead] at h
  | succ f ih =>
    intro bs j h
    cases bs with
    | nil => simp [lead] at h
    | cons b l =>
      simp only [lead] at h
      split at h
      · rename_i hb
        cases j with
        | zero => exact ⟨b, rfl, hb⟩
        | succ j => exact ih l j (by omega)
      · omega
theorem gsum_step (g : Nat) (c : B8) (X : Int) (h : X = IntKind.u64.wrap (IntKind.u64.wrap (((BitVec.ofNat 64 g).toNat : Int) * 128) + (c.toNat : Int) % 128) ∨ X = IntKind.u64.wrap (((BitVec.ofNat 64 g).toNat : Int) * 128 + (c.toNat : Int) % 128)) :
    X = ((BitVec.ofNat 64 (c.toNat % 128 + 128 * g)).toNat : Int) := by
  have hc := c.isLt
  rw [BitVec.toNat_ofNat] at *
  rcases h with rfl | rfl
  · rw [wrap_u64, wrap_u64]; omega
  · rw [wrap_u64]; omega
theorem gsum_64 (l : List B8) (m : Nat) (h9 : m ≤ 9) (hl : l.length = m + 1) (c : B8) (hc : l[m]? = some c) (h1 : m = 9 → c.toNat ≤ 1) : gsum l < 2 ^ 64 := by
  have e : l = l.take m ++ [c] := by
    have := List.take_add_one (l := l) (i := m)
    rw [hc, ← hl, List.take_length] at this
    exact this
  have hlt := gsum_lt (l.take m)
  have hlm : (l.take m).length = m := by rw [List.length_take]; omega
  rw [hlm] at hlt
  rw [e, gsum_snoc, hlm]
  have hp : 0 < 128 ^ m := Nat.pow_pos (by omega)
  by_cases h : m = 9
  · subst h
    have := h1 rfl
    have : 128 ^ 9 * (c.toNat % 128) ≤ 128 ^ 9 * 1 := Nat.mul_le_mul_left _ (by omega)
    have e9 : (128 : Nat) ^ 9 = 2 ^ 63 := by decide
    omega
  · have h1 : 128 ^ m * (c.toNat % 128) ≤ 128 ^ m * 127 := Nat.mul_le_mul_left _ (by omega)
    have h2 : 128 ^ m ≤ 128 ^ 8 := Nat.pow_le_pow_right (by omega) (by omega)
    have e9 : (128 : Nat) ^ 8 = 2 ^ 56 := by decide
    omega
def GroupedPost (w : World) (rest : List B8) (e : Ending) (w' : World) : Prop :=
  e = .returned (.tuple #[.int .u64 ((headB 0 0 rest).1.toNat : Int), .int .i64 ((headB 0 0 rest).2.1 : Int), .int .i64 (headB 0 0 rest).2.2]) ∧ St No w No w'
set_option maxRecDepth 100000 in
set_option maxHeartbeats 2000000 in
theorem grouped_calls (a : Option Addr) (c : Nat) (bs : List B8) (hn : bs.length ≤ 16777216) (k : Nat) (hk : k ≤ bs.length) (w : World) (hb : Bs w a bs) :
    Calls Try.prog 114 #[.slice a bs.length c, .int .i64 k] w (GroupedPost w (bs.drop k)) := by
  have HB := Lib.hid hb
  have hle := lead_le 9 (bs.drop k)
  have hdl : (bs.drop k).length = bs.length - k := by simp
  rw [hdl] at hle
  have HIN := Lib.hid (lead_in 9 (bs.drop k))
  have HEND := Lib.hid (lead_end 9 (bs.drop k))
  have HG := Lib.hid (grouped_head (bs.drop k))
  unfold groupedB at HG
  rw [hdl] at HG
  clear hb
  generalize lead 9 (bs.drop k) = m at *
  have hm9 := hle.1
  have hmk := hle.2
  clear hle hdl
  go_enter Try.func114, Try.ntmps114
  go_wp2
  go_loopw [7] (fun i wr => ∃ E : Nat, i = .int .i64 (E : Int) ∧ k ≤ E ∧ E ≤ k + m ∧ wr = w) (fun i _ => bs.length - (intOf i).toNat)
  case atStart => exact ⟨k, rfl, by omega, by omega, rfl⟩
  case round =>
    obtain ⟨E, rfl, hkE, hEm, rfl⟩ := hrel
    by_cases hlt : E < k + m
    · obtain ⟨b, hbj, hb128⟩ := HIN.out (E - k) (by omega)
      obtain ⟨y, rfl, hc⟩ := HB.out.at E (by omega)
      have hbe : bs[E]'(by omega) = b := by
        rw [List.getElem?_drop, show k + (E - k) = E by omega, List.getElem?_eq_getElem (by omega)] at hbj
        exact Option.some.inj hbj
      rw [hbe] at hc
      have h1 : (E : Int) < (bs.length : Int) := by omega
      have h2 : (E : Int) < (k : Int) + 9 := by omega
      have h3 : (128 : Int) ≤ (b.toNat : Int) := by omega
      clear hbj hbe
      go_wp2
      exact ⟨⟨E + 1, by simp, by omega, by omega, trivial⟩, by simp [intOf]; omega⟩
    · have hE : E = k + m := by omega
      have HE := Lib.hid hE
      clear hlt
      by_cases hend : E = bs.length
      · have HH : Hid (headB 0 0 (bs.drop k) = (0, 0, 21)) := Lib.hid (by rw [← HG.out, if_pos (by omega)])
        clear hE
        have h1 : ¬ (E : Int) < (bs.length : Int) := by omega
        have h2 : ((E : Int) == (bs.length : Int)) = true := by rw [beq_iff_eq]; omega
        clear hend
        go_wp2
        go_ret3
        exact ⟨by rw [HH.out]; rfl, St.refl _ _⟩
      · obtain ⟨b, hbj⟩ : ∃ b, (bs.drop k)[m]? = some b := ⟨_, List.getElem?_eq_getElem (by simp; omega)⟩
        have hbg : m = 9 → (bs.drop k).getD 9 0#8 = b := by rintro rfl; rw [List.getD_eq_getElem?_getD, hbj]; rfl
        obtain ⟨y, rfl, hc⟩ := HB.out.at E (by omega)
        have hbe : bs[E]'(by omega) = b := by
          rw [List.getElem?_drop, ← hE, List.getElem?_eq_getElem (by omega)] at hbj
          exact Option.some.inj hbj
        rw [hbe] at hc
        have h1 : (E : Int) < (bs.length : Int) := by omega
        have hne : ((E : Int) == (bs.length : Int)) = false := beq_eq_false_iff_ne.2 (by omega)
        by_cases hwide : m = 9 ∧ 1 < b.toNat
        · have HH : Hid (headB 0 0 (bs.drop k) = (0, 0, 23)) := Lib.hid (by rw [← HG.out, if_neg (by omega), if_pos ⟨hwide.1, by rw [hbg hwide.1]; exact hwide.2⟩])
          have h2 : ¬ (E : Int) < (k : Int) + 9 := by omega
          have h3 : ((E : Int) == (k : Int) + 9) = true := by rw [beq_iff_eq]; omega
          have hbi : (1 : Int) < (b.toNat : Int) := by have := hwide.2; omega
          clear hbj hbe hbg hE hwide hend
          go_wp2
          go_ret3
          exact ⟨by rw [HH.out]; rfl, St.refl _ _⟩
        · have HG2 := Lib.hid HG.out
          rw [if_neg (by omega), if_neg (by rintro ⟨h9, hx⟩; rw [hbg h9] at hx; exact hwide ⟨h9, hx⟩)] at HG2
          have h64 := gsum_64 ((bs.drop k).take (m + 1)) m hm9 (by simp; omega) b (by rw [List.getElem?_take_of_lt (by omega)]; exact hbj) (fun h => by
            by_cases h1 : 1 < b.toNat
            · exact absurd ⟨h, h1⟩ hwide
            · omega)
          have HGN : Hid ((BitVec.ofNat 64 (gsum ((bs.drop k).take (m + 1)))).toNat = gsum ((bs.drop k).take (m + 1))) := Lib.hid (by rw [BitVec.toNat_ofNat, Nat.mod_eq_of_lt h64])
          by_cases h9 : m = 9
          · have h2 : ¬ (E : Int) < (k : Int) + 9 := by omega
            have h3 : ((E : Int) == (k : Int) + 9) = true := by rw [beq_iff_eq]; omega
            have hbi : ¬ (1 : Int) < (b.toNat : Int) := by have h := fun h => hwide ⟨h9, h⟩; omega
            clear hbj hbe hbg hE hwide hend h64 h9
            go_wp2
            go_loopw [8, 9] (fun x i wr' => ∃ t : Nat, t ≤ m + 1 ∧ (∃ q : Int, i = .int .i64 q ∧ Hid (q = (k : Int) + (m : Int) - (t : Int))) ∧ (∃ g : Nat, x = .int .u64 ((BitVec.ofNat 64 g).toNat : Int) ∧ Hid (g = gsum (((bs.drop k).drop (m + 1 - t)).take t))) ∧ wr' = wr) (fun _ i _ => (intOf i + 1 - k).toNat)
            case atStart => exact ⟨0, by omega, ⟨_, rfl, Lib.hid (by rw [HE.out]; push_cast; omega)⟩, ⟨0, rfl, Lib.hid (by simp [gsum])⟩, rfl⟩
            case round =>
              obtain ⟨t, ht, ⟨q, rfl, HQ⟩, ⟨g, rfl, HGS⟩, rfl⟩ := hrel
              by_cases htl : t = m + 1
              · have HGE : Hid (g = gsum ((bs.drop k).take (m + 1))) := Lib.hid (by rw [HGS.out, htl, Nat.sub_self, List.drop_zero])
                have hq : ¬ (k : Int) ≤ q := by rw [HQ.out]; omega
                clear htl
                go_wp2_with fail
                refine (refGroups_calls (BitVec.ofNat 64 g) _ rfl _).mono ?_
                rintro e w1 ⟨v1, rfl, ho1, hs1⟩
                rw [HGE.out, HGN.out] at ho1
                obtain ⟨a1, c1, rfl, _, _, _, _⟩ := ho1.form
                have HS1 := Lib.hid hs1
                have HGE2 := Lib.hid HG2.out
                generalize (groupsB (gsum ((bs.drop k).take (m + 1)))).length = L at *
                clear ho1 hs1
                by_cases hL : L = m + 1
                · rw [if_neg (by rw [hL]; simp)] at HGE2
                  have hLE : ((L : Int) != (E : Int) + 1 - (k : Int)) = false := by rw [bne_eq_false_iff_eq]; have := HE.out; omega
                  have HLM := Lib.hid hL
                  clear hL
                  go_wp2
                  go_ret3
                  exact ⟨by rw [← HGE2.out, HGE.out, HLM.out]; rfl, HS1.out.drop (fun k hk => .inr hk.elim)⟩
                · rw [if_pos hL] at HGE2
                  have hLE : ((L : Int) != (E : Int) + 1 - (k : Int)) = true := by rw [bne_iff_ne]; have := HE.out; omega
                  clear hL
                  go_wp2
                  go_ret3
                  exact ⟨by rw [← HGE2.out]; rfl, HS1.out.drop (fun k hk => .inr hk.elim)⟩
              · have htm : t ≤ m := by omega
                obtain ⟨Q, hQ⟩ : ∃ Q : Nat, Q = k + m - t := ⟨_, rfl⟩
                have hqQ : q = (Q : Int) := by rw [HQ.out]; omega
                have HQQ : Hid (Q = k + m - t) := Lib.hid hQ
                subst hqQ
                obtain ⟨z, hz, hcz⟩ := HB.out.at Q (by have := HE.out; omega)
                obtain rfl : y = z := Option.some.inj hz
                obtain ⟨bt, hbt⟩ : ∃ bt, bs[Q]'(by have := HE.out; omega) = bt := ⟨_, rfl⟩
                rw [hbt] at hcz
                have HGN2 : Hid (gsum (((bs.drop k).drop (m + 1 - (t + 1))).take (t + 1)) = bt.toNat % 128 + 128 * g) := Lib.hid (by
                  have hd : (bs.drop k).drop (m + 1 - (t + 1)) = bt :: (bs.drop k).drop (m + 1 - t) := by
                    rw [List.drop_drop, List.drop_drop, List.drop_eq_getElem_cons (by have := HE.out; omega)]
                    congr 1
                    · rw [← hbt]; congr 1; omega
                    · congr 1; omega
                  rw [hd, List.take_succ_cons, HGS.out]
                  rfl)
                have HST := Lib.hid (gsum_step g bt)
                have hkQ : (k : Int) ≤ (Q : Int) := by omega
                have hQl : (Q : Int) < (bs.length : Int) := by have := HE.out; omega
                clear hbt hQ hz htl
                go_wp2
                exact ⟨⟨t + 1, by omega, ⟨_, rfl, Lib.hid (by have := HQQ.out; push_cast; omega)⟩, ⟨bt.toNat % 128 + 128 * g, congrArg (Value.int .u64) (HST.out _ (by first | exact .inl rfl | exact .inr rfl)), Lib.hid HGN2.out.symm⟩, trivial⟩, by simp [intOf]; omega⟩
          · have h3 : ((E : Int) == (k : Int) + 9) = false := beq_eq_false_iff_ne.2 (by omega)
            have h2 : (E : Int) < (k : Int) + 9 := by omega
            have h4 : ¬ (128 : Int) ≤ (b.toNat : Int) := by
              have := HEND.out (by omega) b _ (by rw [List.drop_eq_getElem_cons (by simp; omega)]; congr 1; rw [List.getElem?_eq_getElem (by simp; omega)] at hbj; exact Option.some.inj hbj)
              omega
            clear hbj hbe hbg hE hwide hend h64 h9
            go_wp2
            go_loopw [8, 9] (fun x i wr' => ∃ t : Nat, t ≤ m + 1 ∧ (∃ q : Int, i = .int .i64 q ∧ Hid (q = (k : Int) + (m : Int) - (t : Int))) ∧ (∃ g : Nat, x = .int .u64 ((BitVec.ofNat 64 g).toNat : Int) ∧ Hid (g = gsum (((bs.drop k).drop (m + 1 - t)).take t))) ∧ wr' = wr) (fun _ i _ => (intOf i + 1 - k).toNat)
            case atStart => exact ⟨0, by omega, ⟨_, rfl, Lib.hid (by rw [HE.out]; push_cast; omega)⟩, ⟨0, rfl, Lib.hid (by simp [gsum])⟩, rfl⟩
            case round =>
              obtain ⟨t, ht, ⟨q, rfl, HQ⟩, ⟨g, rfl, HGS⟩, rfl⟩ := hrel
              by_cases htl : t = m + 1
              · have HGE : Hid (g = gsum ((bs.drop k).take (m + 1))) := Lib.hid (by rw [HGS.out, htl, Nat.sub_self, List.drop_zero])
                have hq : ¬ (k : Int) ≤ q := by rw [HQ.out]; omega
                clear htl
                go_wp2_with fail
                refine (refGroups_calls (BitVec.ofNat 64 g) _ rfl _).mono ?_
                rintro e w1 ⟨v1, rfl, ho1, hs1⟩
                rw [HGE.out, HGN.out] at ho1
                obtain ⟨a1, c1, rfl, _, _, _, _⟩ := ho1.form
                have HS1 := Lib.hid hs1
                have HGE2 := Lib.hid HG2.out
                generalize (groupsB (gsum ((bs.drop k).take (m + 1)))).length = L at *
                clear ho1 hs1
                by_cases hL : L = m + 1
                · rw [if_neg (by rw [hL]; simp)] at HGE2
                  have hLE : ((L : Int) != (E : Int) + 1 - (k : Int)) = false := by rw [bne_eq_false_iff_eq]; have := HE.out; omega
                  have HLM := Lib.hid hL
                  clear hL
                  go_wp2
                  go_ret3
                  exact ⟨by rw [← HGE2.out, HGE.out, HLM.out]; rfl, HS1.out.drop (fun k hk => .inr hk.elim)⟩
                · rw [if_pos hL] at HGE2
                  have hLE : ((L : Int) != (E : Int) + 1 - (k : Int)) = true := by rw [bne_iff_ne]; have := HE.out; omega
                  clear hL
                  go_wp2
                  go_ret3
                  exact ⟨by rw [← HGE2.out]; rfl, HS1.out.drop (fun k hk => .inr hk.elim)⟩
              · have htm : t ≤ m := by omega
                obtain ⟨Q, hQ⟩ : ∃ Q : Nat, Q = k + m - t := ⟨_, rfl⟩
                have hqQ : q = (Q : Int) := by rw [HQ.out]; omega
                have HQQ : Hid (Q = k + m - t) := Lib.hid hQ
                subst hqQ
                obtain ⟨z, hz, hcz⟩ := HB.out.at Q (by have := HE.out; omega)
                obtain rfl : y = z := Option.some.inj hz
                obtain ⟨bt, hbt⟩ : ∃ bt, bs[Q]'(by have := HE.out; omega) = bt := ⟨_, rfl⟩
                rw [hbt] at hcz
                have HGN2 : Hid (gsum (((bs.drop k).drop (m + 1 - (t + 1))).take (t + 1)) = bt.toNat % 128 + 128 * g) := Lib.hid (by
                  have hd : (bs.drop k).drop (m + 1 - (t + 1)) = bt :: (bs.drop k).drop (m + 1 - t) := by
                    rw [List.drop_drop, List.drop_drop, List.drop_eq_getElem_cons (by have := HE.out; omega)]
                    congr 1
                    · rw [← hbt]; congr 1; omega
                    · congr 1; omega
                  rw [hd, List.take_succ_cons, HGS.out]
                  rfl)
                have HST := Lib.hid (gsum_step g bt)
                have hkQ : (k : Int) ≤ (Q : Int) := by omega
                have hQl : (Q : Int) < (bs.length : Int) := by have := HE.out; omega
                clear hbt hQ hz htl
                go_wp2
                exact ⟨⟨t + 1, by omega, ⟨_, rfl, Lib.hid (by have := HQQ.out; push_cast; omega)⟩, ⟨bt.toNat % 128 + 128 * g, congrArg (Value.int .u64) (HST.out _ (by first | exact .inl rfl | exact .inr rfl)), Lib.hid HGN2.out.symm⟩, trivial⟩, by simp [intOf]; omega⟩
end Go.Proofs.Ytfhoekcmkbeabaa
