
/-
  The walk over the program's Reader: Block.
-/
import Derived.Test.YtfhoekcmkbeabaaCwReader6
namespace Go.Proofs.Ytfhoekcmkbeabaa
open Go.RowKit
set_option linter.unusedVariables false
set_option linter.unusedSimpArgs false

/-- why no block is taken -/
def blockE (rest : List B8) (most : Int) : Int :=
  if most < 0 then 2 else if (headB 0 0 rest).2.2 ≠ 0 then (headB 0 0 rest).2.2 else if most < ((headB 0 0 rest).1.toNat : Int) then 25
  else if (rest.length : Int) - ((headB 0 0 rest).2.1 : Int) < ((headB 0 0 rest).1.toNat : Int) then 21 else 0
def RS.block (s : RS) (most : Int) : RS :=
  if s.err = 0 then (if blockE s.rest most = 0 then ⟨(s.rest.drop (headB 0 0 s.rest).2.1).drop (headB 0 0 s.rest).1.toNat, 0⟩ else ⟨s.rest, blockE s.rest most⟩) else s
def blockB (th : Bool) (s : RS) (most : Int) : List B8 :=
  if opens th s = true ∧ blockE s.rest most = 0 then (s.rest.drop (headB 0 0 s.rest).2.1).take (headB 0 0 s.rest).1.toNat else []
def BlockPost (w : World) (v : Value) (th : Bool) (p : Nat) (D : Nat → Prop) (s : RS) (most : Int) (e : Ending) (w' : World) : Prop :=
  ∃ V, e = .returned V ∧ OwB w' V (blockB th s most) ∧ Rh w' v th p D (s.block most) ∧ St (fpP p) w (fun k => fpP p k ∨ fpV V k) w' ∧ (∀ k, fpV V k → w.heap.size ≤ k)
theorem BlockPost.nil {w w' : World} {v : Value} {th : Bool} {p : Nat} {D : Nat → Prop} {s : RS} {most : Int} {e : Ending} (he : e = .returned (.slice none 0 0)) (hb : blockB th s most = []) (h : Rh w' v th p D (s.block most)) (st : St (fpP p) w (fpP p) w') :
    BlockPost w v th p D s most e w' := by
  have hno : ∀ k, ¬ fpV (.slice none 0 0) k := fun k hk => by simp [fpV, Value.ownBlock] at hk
  exact ⟨_, he, by rw [hb]; exact Own.nil _ _ _, h, st.drop (fun k hk => hk.elim .inl (fun h => (hno k h).elim)), fun k hk => (hno k hk).elim⟩
set_option maxRecDepth 100000 in
set_option maxHeartbeats 1000000 in
theorem rBlock_calls (most : Int) (hm : most ≤ 9223372036854775807) (w : World) (v : Value) (th : Bool) (p : Nat) (D : Nat → Prop) (hD : In D w) (hp : th = true → p < w.heap.size) (s : RS) (hl : s.rest.length ≤ 140737488351232) (h : Rh w v th p D s) :
    Calls Try.prog 100 #[v, .int .i64 most] w (BlockPost w v th p D s most) := by
  have HO := Lib.hid (open_calls w v th p D s h)
  have HH := Lib.hid h
  cases hop : opens th s with
  | false =>
    rw [hop] at HO
    have HOP := Lib.hid hop
    clear hop h
    go_enter Try.func100, Try.ntmps100
    go_wp2_with (go_at_call 111; refine HO.out.mono ?_; rintro e w1 ⟨rfl, rfl⟩)
    go_ret
    refine BlockPost.nil rfl (by unfold blockB; rw [if_neg (by rw [HOP.out]; simp)]) ?_ (St.refl _ _)
    rcases HH.out with h | ⟨rfl, h2⟩
    · exact .inl h
    · have he : ¬ s.err = 0 := by have := HOP.out; simpa [opens] using this
      unfold RS.block
      rw [if_neg he]
      exact .inr ⟨rfl, h2⟩
  | true =>
    rw [hop] at HO
    have HOP := Lib.hid hop
    clear hop
    rcases h with ⟨rfl, rfl⟩ | ⟨rfl, rfl, hr, hdp⟩
    · exact absurd HOP.out (by simp [opens])
    · have he : s.err = 0 := by have := HOP.out; simpa [opens] using this
      obtain ⟨rest, err⟩ := s
      simp only at he hl
      subst he
      obtain ⟨a, c, k0, k1, f0, f1, hb, h1, h2, h3, h4, ho⟩ := hr.open
      have HR := Lib.hid hr
      have HOB := Lib.hid ho
      have HB := Lib.hid hb
      have H3 := Lib.hid h3
      have H4 := Lib.hid h4
      have HDP := Lib.hid hdp
      have HDI := Lib.hid hD
      have HPS := Lib.hid (hp rfl)
      have HHD := Lib.hid (head_calls a c rest (by omega) w hb)
      have HBS : Hid (RS.block ⟨rest, 0⟩ most = if blockE rest most = 0 then ⟨(rest.drop (headB 0 0 rest).2.1).drop (headB 0 0 rest).1.toNat, 0⟩ else ⟨rest, blockE rest most⟩) := Lib.hid (by unfold RS.block; rw [if_pos rfl])
      have HBB : Hid (blockB true ⟨rest, 0⟩ most = if blockE rest most = 0 then (rest.drop (headB 0 0 rest).2.1).take (headB 0 0 rest).1.toNat else []) := Lib.hid (by unfold blockB; rw [HOP.out]; simp)
      have HBE : Hid (blockE rest most = if most < 0 then 2 else if (headB 0 0 rest).2.2 ≠ 0 then (headB 0 0 rest).2.2 else if most < ((headB 0 0 rest).1.toNat : Int) then 25
  else if (rest.length : Int) - ((headB 0 0 rest).2.1 : Int) < ((headB 0 0 rest).1.toNat : Int) then 21 else 0) := Lib.hid rfl
      have HLN := Lib.hid (headB_len rest 0 0)
      have HERR : Hid (∀ E : Int, E ≠ 0 → blockE rest most = E → ∀ e, e = .returned (.slice none 0 0) → BlockPost w (.pointer (some ⟨p, 0, none⟩)) true p D ⟨rest, 0⟩ most e (w.setCell ⟨p, 1, none⟩ (.int .i64 E))) := Lib.hid (by
        intro E hE hEq e he
        refine BlockPost.nil he (by rw [HBB.out, hEq, if_neg hE]) ?_ (St.setCell _ _ _ rfl)
        rw [HBS.out, hEq, if_neg hE]
        exact .inr ⟨rfl, rfl, HR.out.setErr HDP.out E, HDP.out⟩)
      unfold HeadPost at HHD
      simp only at k0 k1 h1
      clear ho hb h3 h4 hdp hr HH hD hp
      generalize headB 0 0 rest = r at *
      obtain ⟨x, n, er⟩ := r
      simp only at HHD HBS HBB HBE HLN
      generalize blockE rest most = BE at *
      by_cases hneg : most < 0
      · rw [if_pos hneg] at HBE
        go_enter Try.func100, Try.ntmps100
        go_wp2_with (go_at_call 111; refine HO.out.mono ?_; rintro e w1 ⟨rfl, rfl⟩)
        go_ret
        exact HERR.out 2 (by decide) HBE.out _ rfl
      · rw [if_neg hneg] at HBE
        by_cases hz : er = 0
        · subst hz
          rw [if_neg (by simp)] at HBE
          have hln := (HLN.out rfl).2
          rw [Nat.zero_add] at hln
          by_cases hbig : most < (x.toNat : Int)
          · rw [if_pos hbig] at HBE
            go_enter Try.func100, Try.ntmps100
            go_wp2_with (first
              | (go_at_call 111; refine HO.out.mono ?_; rintro e w1 ⟨rfl, rfl⟩)
              | (go_at_call 112; refine HHD.out.mono ?_; rintro e w1 ⟨rfl, rfl⟩))
            go_ret
            exact HERR.out 25 (by decide) HBE.out _ rfl
          · rw [if_neg hbig] at HBE
            by_cases hsh : (rest.length : Int) - (n : Int) < (x.toNat : Int)
            · rw [if_pos hsh] at HBE
              go_enter Try.func100, Try.ntmps100
              go_wp2_with (first
                | (go_at_call 111; refine HO.out.mono ?_; rintro e w1 ⟨rfl, rfl⟩)
                | (go_at_call 112; refine HHD.out.mono ?_; rintro e w1 ⟨rfl, rfl⟩))
              go_ret
              exact HERR.out 21 (by decide) HBE.out _ rfl
            · rw [if_neg hsh] at HBE
              have hdl : (rest.drop n).length = rest.length - n := by simp
              have hxl : x.toNat ≤ rest.length - n := by omega
              have htk : takes true ⟨rest.drop n, 0⟩ x.toNat = true := by simp [takes, opens]; omega
              have HRAW : Hid (∀ a' c', ((c = n ∧ a' = a ∧ c' = 0) ∨ (a' = a.map (fun y => y.add n) ∧ c' = c - n)) → Calls Try.prog 99 #[.pointer (some ⟨p, 0, none⟩), .int .i64 (x.toNat : Int)] (w.setCell ⟨p, 0, none⟩ (.slice a' (rest.length - n) c')) fun e w2 => ∃ V, e = .returned V ∧ BlockPost w (.pointer (some ⟨p, 0, none⟩)) true p D ⟨rest, 0⟩ most (.returned V) w2) := Lib.hid (by
                intro a' c' ha
                have hr2 := Rr.skip (w := w) ha hln h1 h2 H3.out H4.out HDP.out HB.out HOB.out
                refine (rRaw2_calls (x.toNat : Int) (by omega) _ _ true p D (by intro k hk; have := HDI.out k hk; simpa [World.setCell] using this) (fun _ => by have := HPS.out; simpa [World.setCell] using this) ⟨rest.drop n, 0⟩ (by show (rest.drop n).length ≤ _; omega) (.inr ⟨rfl, rfl, hr2, HDP.out⟩)).mono ?_
                rintro e w2 ⟨V, rfl, ho, hrh, hst, hnew⟩
                refine ⟨V, rfl, V, rfl, ?_, ?_, (St.setCell (F := fpP p) w ⟨p, 0, none⟩ (.slice a' (rest.length - n) c') rfl).trans hst, fun k hk => by have := hnew k hk; simpa [World.setCell] using this⟩
                · rw [HBB.out, HBE.out, if_pos rfl]
                  unfold rawB at ho
                  rw [if_neg (by omega), Int.toNat_natCast, if_pos htk] at ho
                  exact ho
                · rw [HBS.out, HBE.out, if_pos rfl]
                  unfold RS.raw RS.took at hrh
                  rw [if_neg (by omega), Int.toNat_natCast, if_pos rfl, if_pos (by show x.toNat ≤ (rest.drop n).length; omega)] at hrh
                  exact hrh)
              clear hdl htk
              go_enter Try.func100, Try.ntmps100
              go_wp2_with (first
                | (go_at_call 111; refine HO.out.mono ?_; rintro e w1 ⟨rfl, rfl⟩)
                | (go_at_call 112; refine HHD.out.mono ?_; rintro e w1 ⟨rfl, rfl⟩))
              all_goals refine (HRAW.out _ _ (by first | (subst_vars; exact .inl ⟨rfl, rfl, rfl⟩) | exact .inr ⟨rfl, rfl⟩)).mono ?_
              all_goals rintro e w2 ⟨V, rfl, hbp⟩
              all_goals have HBP := Lib.hid hbp
              all_goals clear hbp
              all_goals go_wp2
              all_goals go_ret
              all_goals first | exact HBP.out | (subst_vars; exact HBP.out)
        · rw [if_pos hz] at HBE
          have hzb : (er != 0) = true := by rw [bne_iff_ne]; exact hz
          have HZ := Lib.hid hz
          clear hz
          go_enter Try.func100, Try.ntmps100
          go_wp2_with (first
            | (go_at_call 111; refine HO.out.mono ?_; rintro e w1 ⟨rfl, rfl⟩)
            | (go_at_call 112; refine HHD.out.mono ?_; rintro e w1 ⟨rfl, rfl⟩))
          go_ret
          exact HERR.out er HZ.out HBE.out _ rfl
end Go.Proofs.Ytfhoekcmkbeabaa
