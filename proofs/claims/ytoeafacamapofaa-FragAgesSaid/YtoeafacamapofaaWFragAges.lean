
/-
  FragAges, walked: it returns true.
-/
import Derived.Test.YtoeafacamapofaaJnTake
import Derived.Test.YtoeafacamapofaaJnNew
import Derived.Test.YtoeafacamapofaaJnAged
import Derived.Test.YtoeafacamapofaaJnTwo
import Derived.Test.YtoeafacamapofaaWFragSizes
namespace Go.Proofs.Ytoeafacamapofaa
open Go.RowKit
set_option linter.unusedVariables false
set_option linter.unusedSimpArgs false

/-- what is there, so many ticks behind the first fragment -/
def agesS (k : Nm) (P : List B8) (ag j : Nat) : List PS := if ag ≤ j then [] else [agedS k P 2 [true, false] j]
theorem ages_tick (k : Nm) (P : List B8) (ag j : Nat) : tickP ag (agesS k P ag j) = agesS k P ag (j + 1) := by
  unfold agesS
  by_cases h : ag ≤ j
  · rw [if_pos h, if_pos (by omega), tick_none]
  · rw [if_neg h, tick_aged]
theorem ages_len (k : Nm) (P : List B8) (ag j : Nat) : (agesS k P ag j).length = if ag ≤ j then 0 else 1 := by unfold agesS; split <;> rfl
theorem ages_age (k : Nm) (P : List B8) (ag j : Nat) : ∀ s ∈ agesS k P ag j, s.age < ag := by
  intro s hs
  unfold agesS at hs
  split at hs
  · simp at hs
  · rename_i h
    rw [List.mem_singleton.1 hs]
    show j < ag
    omega
theorem Dj.st' {F F' G : Nat → Prop} {G' : Nat → Prop} {w w' : World} (h : Dj F G) (hG : In G w) (s : St F w (fun k => F' k ∨ G' k) w') : Dj F' G := fun k a b => (Dj.st h hG s) k (.inl a) b
theorem ages_first {P : List B8} {id : BitVec 64} {frm : Int} (h255 : frm ≠ 255) (ag : Nat) (ha : 1 ≤ ag) (hE : lookE (dgram (fragB P id 2 0)) = 0) (hF : lookF (dgram (fragB P id 2 0)) = fragB P id 2 0) (hp : partB P 2 0 ≠ []) (hlen : P.length ≤ 2 * sizeN P.length 2) :
    takeP 1 [] frm (dgram (fragB P id 2 0)) = ⟨[], false, 0, agesS (frm, (id.toNat : Int)) P ag 0⟩ := by
  have h := take_came (packet := P) (id := id) (C := 2) (i := 0) h255 [false, false] rfl (by omega) (by omega) hE hF hp hlen
  have e : cameS (frm, (id.toNat : Int)) P 2 [false, false] = [] := by simp [cameS]
  rw [e] at h
  rw [h]
  simp [cameS, agesS, agedS, oneS]
  omega
theorem ages_last {P : List B8} {id : BitVec 64} {frm : Int} (h255 : frm ≠ 255) (ag n : Nat) (hE : lookE (dgram (fragB P id 2 1)) = 0) (hF : lookF (dgram (fragB P id 2 1)) = fragB P id 2 1) (hp : partB P 2 1 ≠ []) (hlen : P.length ≤ 2 * sizeN P.length 2) :
    (takeP 1 (agesS (frm, (id.toNat : Int)) P ag n) frm (dgram (fragB P id 2 1))).er = 0 ∧ (takeP 1 (agesS (frm, (id.toNat : Int)) P ag n) frm (dgram (fragB P id 2 1))).whole = decide (n < ag) := by
  unfold agesS
  by_cases h : ag ≤ n
  · rw [if_pos h]
    have h1 := take_came (packet := P) (id := id) (C := 2) (i := 1) h255 [false, false] rfl (by omega) (by omega) hE hF hp hlen
    have e : cameS (frm, (id.toNat : Int)) P 2 [false, false] = [] := by simp [cameS]
    rw [e] at h1
    rw [h1]
    simp
    omega
  · rw [if_neg h, take_aged (C := 2) (i := 1) h255 [true, false] rfl (by omega) (by omega) hE hF hlen rfl rfl]
    simp
    omega
set_option maxRecDepth 100000 in
set_option maxHeartbeats 4000000 in
theorem fragAges_walk (age ticks : Int) (hwt : -9223372036854775808 ≤ ticks ∧ ticks ≤ 9223372036854775807) (id : BitVec 64) (w : World) :
    Calls Try.prog 15 #[.int .i64 age, .int .i64 ticks, .int .u64 (id.toNat : Int)] w fun e w' => e = .returned (.bool true) ∧ Below w.heap.size w w' := by
  by_cases hok : newOk 1 age = true
  · have hok2 := of_decide_eq_true hok
    obtain ⟨ag, rfl⟩ := Int.eq_ofNat_of_zero_le (show 0 ≤ age by omega)
    have HNW := Lib.hid (new_calls 1 ag w)
    have ha1 : 1 ≤ ag := by omega
    have ha2 : ag ≤ 64 := by omega
    obtain ⟨P, hP⟩ : ∃ P, twoP id 1#8 60 = P := ⟨_, rfl⟩
    have hPl : P.length = 60 := by rw [← hP, twoP_len]
    have hfit : fitsN P.length 64 = true := by rw [hPl]; rfl
    obtain ⟨m, hm, m1, m2, m3, m4, m5, m6⟩ := fits_yes (id := id) hfit
    obtain rfl : m = 64 := by omega
    have hC : countN P.length 64 = 2 := by rw [hPl]; rfl
    have hspl : splitB P id 64 = splitL P id 2 := by have := m6; rw [hC] at this; exact this
    have hsh := fun i (hi : i < 2) => fragB_shaped (packet := P) (id := id) m1 m2 m3 m4 (i := i) (by rw [hC]; exact hi)
    rw [hC] at hsh
    have HTW := Lib.hid (fun W => two4_calls id 1#8 W)
    rw [hP, hspl] at HTW
    have HSH := Lib.hid hsh
    clear hok hok2 hfit m1 m2 m3 m4 m5 m6 hC hspl hsh hm
    have b1 : decide ((ag : Int) < 1) = false := decide_eq_false (by omega)
    have b2 : decide (64 < (ag : Int)) = false := decide_eq_false (by omega)
    go_enter Try.func15, Try.ntmps15
    go_wp2_with fail
    refine HNW.out.mono ?_
    rintro e w1 (⟨_, pj, F, rfl, hj1, hs1⟩ | ⟨h, _⟩)
    rotate_left
    · exact absurd (of_decide_eq_false h) (by omega)
    have HJ1 := Lib.hid hj1
    have HS1 := Lib.hid hs1
    clear hj1 hs1
    go_wp2_with fail
    refine (HTW.out w1).mono ?_
    rintro e w2 ⟨V2, vs2, rfl, hg2, hs2⟩
    obtain ⟨a2, c2, rfl⟩ := hg2.form
    rw [splitL_len] at hg2 ⊢
    have HG2 := Lib.hid hg2
    have HS2 := Lib.hid hs2
    clear hg2 hs2
    obtain ⟨g, hg⟩ : ∃ g, a2 = some ⟨g, 0, none⟩ := by
      have ho := HG2.out.own
      rcases ho.2 with ⟨h, _⟩ | ⟨g, cap, cur, h, _⟩
      · simp at h
      · simp at h
        exact ⟨g, h.1⟩
    subst hg
    obtain ⟨v0, hv0, how0⟩ := HG2.out.get 0 (by rw [splitL_len]; omega)
    obtain ⟨v1, hv1, how1⟩ := HG2.out.get 1 (by rw [splitL_len]; omega)
    have HO0 := Lib.hid how0
    have HO1 := Lib.hid how1
    have c0 := HG2.out.own.cellAt 0 v0 hv0
    have c1 := HG2.out.own.cellAt 1 v1 hv1
    have hv1' := hv1
    clear hv0 hv1 how0 how1
    have hg0 : (splitL P id 2)[0]'(by rw [splitL_len]; omega) = dgram (fragB P id 2 0) := rfl
    have hg1 : (splitL P id 2)[1]'(by rw [splitL_len]; omega) = dgram (fragB P id 2 1) := rfl
    rw [hg0] at HO0
    rw [hg1] at HO1
    have sh0 := HSH.out 0 (by omega)
    have sh1 := HSH.out 1 (by omega)
    have lk0 := dgram_look (fragB P id 2 0) sh0.1 sh0.2.1 (by show (partB P 2 0).length ≤ 1006; omega)
    have lk1 := dgram_look (fragB P id 2 1) sh1.1 sh1.2.1 (by show (partB P 2 1).length ≤ 1006; omega)
    have hd0 : (dgram (fragB P id 2 0)).length ≤ 1024 := by
      rw [dgram_len]
      show 18 + (partB P 2 0).length ≤ 1024
      omega
    have hd1 : (dgram (fragB P id 2 1)).length ≤ 1024 := by
      rw [dgram_len]
      show 18 + (partB P 2 1).length ≤ 1024
      omega
    have hsz : P.length ≤ 2 * sizeN P.length 2 := by rw [hPl]; decide
    have T0 := Lib.hid (ages_first (P := P) (id := id) (frm := 9) (by omega) ag ha1 lk0.1 lk0.2 (fun e => by have := sh0.2.1; rw [e] at this; simp at this) hsz)
    have T1 := Lib.hid (fun n => ages_last (P := P) (id := id) (frm := 9) (by omega) ag n lk1.1 lk1.2 (fun e => by have := sh1.2.1; rw [e] at this; simp at this) hsz)
    obtain ⟨a0, k0, rfl, y1, y2, _, _⟩ := HO0.out.form
    obtain ⟨a1, k1, rfl, y3, y4, _, _⟩ := HO1.out.form
    have hj2 := HJ1.out.st HS2.out (Dj.no _)
    have HTK := Lib.hid (jtake_calls a0 k0 _ (by omega) y1 y2 w2 HO0.out.bs 9 (by omega) F pj 1 ag [] (by simp) hj2)
    rw [T0.out] at HTK
    generalize hde0 : dgram (fragB P id 2 0) = d0 at *
    generalize hde1 : dgram (fragB P id 2 1) = d1 at *
    clear hde0 hde1 hg0 hg1 sh0 sh1 lk0 lk1 hsz hj2 T0 HSH
    go_wp2_with fail
    refine HTK.out.mono ?_
    rintro e w3 ⟨V3, F3, rfl, ho3, hj3, hs3, hd3⟩
    have HJ3 := Lib.hid hj3
    have HS3 := Lib.hid hs3
    obtain ⟨a3, c3, rfl, _, _, _, _⟩ := ho3.form
    have hdg := Dj.symm (HJ1.out.in.dj_new HS2.out)
    have hdg3 : Dj F3 (fpG (.slice (some ⟨g, 0, none⟩) 2 c2) vs2) := hdg.st' HG2.out.in hs3
    have HDG := Lib.hid hdg
    have HDG3 := Lib.hid hdg3
    clear hj3 hs3 ho3 hd3 hdg hdg3
    have hpr := posI_range (x := ticks) (n := 80) (by omega)
    have HPOS := Lib.hid (fun W => pos_calls ticks 80 (by omega) (by omega) hwt W)
    obtain ⟨n, hn⟩ := Int.eq_ofNat_of_zero_le hpr.1
    rw [hn] at hpr HPOS
    have hn80 : n < 80 := by omega
    clear hn hpr
    go_wp2_with (go_at_call 54; refine (HPOS.out _).mono ?_; rintro e w9 ⟨rfl, rfl⟩)
    go_loopw [14] (fun t wr => ∃ (i : Nat) (F4 : Nat → Prop), 1 ≤ i ∧ i ≤ n + 1 ∧ t = .int .i64 i ∧ Hid (Jn wr F4 pj 1 ag (agesS (9, (id.toNat : Int)) P ag (i - 1))) ∧ Hid (St F w2 F4 wr)) (fun t _ => n + 1 - (intOf t).toNat)
    case atStart =>
      exact ⟨1, F3, by omega, by omega, rfl, HJ3, Lib.hid (HS3.out.drop (fun k hk => .inr (.inl hk)))⟩
    case round =>
      obtain ⟨i, F4, hi1, hin, rfl, HJ4, HS4⟩ := hrel
      by_cases hlt : i ≤ n
      · have hli : (i : Int) ≤ (n : Int) := by omega
        have HTI := Lib.hid (tick_calls wr F4 pj 1 ag _ (by rw [ages_len]; split <;> omega) ha2 (ages_age _ _ _ _) HJ4.out)
        have e1 : tickP ag (agesS (9, (id.toNat : Int)) P ag (i - 1)) = agesS (9, (id.toNat : Int)) P ag i := by
          rw [ages_tick]
          congr 1
          omega
        unfold TickJ at HTI
        rw [e1, ages_len, ages_len] at HTI
        clear e1
        by_cases hia : i = ag
        · have e2 : (((if ag ≤ i - 1 then 0 else 1 : Nat) : Int) - ((if ag ≤ i then 0 else 1 : Nat) : Int)) = 1 := by rw [if_neg (by omega), if_pos (by omega)]; rfl
          rw [e2] at HTI
          subst hia
          clear e2
          go_wp2_with (go_at_call 56; refine HTI.out.mono ?_; rintro e wt ⟨rfl, F5, hj5, hs5⟩; have HJ5 := Lib.hid hj5; have HS5 := Lib.hid hs5; clear hj5 hs5)
          exact ⟨⟨i + 1, F5, by omega, by omega, by simp, Lib.hid (by rw [show i + 1 - 1 = i by omega]; exact HJ5.out), Lib.hid (HS4.out.trans HS5.out)⟩, by simp [intOf]; omega⟩
        · have e2 : (((if ag ≤ i - 1 then 0 else 1 : Nat) : Int) - ((if ag ≤ i then 0 else 1 : Nat) : Int)) = 0 := by
            by_cases h : ag ≤ i - 1
            · rw [if_pos h, if_pos (by omega)]; rfl
            · rw [if_neg h, if_neg (by omega)]; rfl
          rw [e2] at HTI
          have b3 : ((i : Int) == (ag : Int)) = false := by simp; omega
          have b3' : ¬ (i : Int) = (ag : Int) := by omega
          clear e2
          go_wp2_with (go_at_call 56; refine HTI.out.mono ?_; rintro e wt ⟨rfl, F5, hj5, hs5⟩; have HJ5 := Lib.hid hj5; have HS5 := Lib.hid hs5; clear hj5 hs5)
          exact ⟨⟨i + 1, F5, by omega, by omega, by simp, Lib.hid (by rw [show i + 1 - 1 = i by omega]; exact HJ5.out), Lib.hid (HS4.out.trans HS5.out)⟩, by simp [intOf]; omega⟩
      · obtain rfl : i = n + 1 := by omega
        have hgF : ¬ F g := fun hf => HDG.out g hf (.inl (by simp [fpV, Value.ownBlock]))
        have c1' : wr.cell? ⟨g, 1, none⟩ = some (.slice a1 d1.length k1) := (World.cell?_of_block (HS4.out.block g (World.block_lt_of_cell? w2 _ c1) hgF)).trans c1
        have hb1 : Bs wr a1 d1 := HO1.out.bs.st HS4.out (fun k hf ha => HDG.out k hf (fpG.sub hv1' k (by obtain ⟨x, e, h⟩ := ha; subst e; simp [fpV, Value.ownBlock, h])))
        have HTL := Lib.hid (jtake_calls a1 k1 _ (by omega) y3 y4 wr hb1 9 (by omega) F4 pj 1 ag _ (by rw [ages_len]; split <;> omega) HJ4.out)
        have e3 := T1.out n
        rw [show n + 1 - 1 = n by omega] at HTL
        obtain ⟨tp, hTP⟩ : ∃ tp, takeP 1 (agesS (9, (id.toNat : Int)) P ag n) 9 d1 = tp := ⟨_, rfl⟩
        rw [hTP] at HTL e3
        obtain ⟨tout, twh, ter, tss⟩ := tp
        obtain ⟨rfl, rfl⟩ : ter = 0 ∧ twh = decide (n < ag) := e3
        clear hTP hb1 T1
        have hnl : ¬ ((n + 1 : Nat) : Int) ≤ (n : Int) := by omega
        have b4 : decide ((n : Int) < (ag : Int)) = decide (n < ag) := decide_eq_decide.2 (by omega)
        generalize hwh : decide (n < ag) = wh at *
        have HWH := Lib.hid hwh
        clear hwh
        go_wp2_with (go_at_call 55; refine HTL.out.mono ?_; rintro e wl ⟨V6, F6, rfl, ho6, hj6, hs6, hd6⟩; have HS6 := Lib.hid hs6; clear ho6 hj6 hs6 hd6)
        go_ret
        refine ⟨by first | rfl | (simp; exact HWH.out.symm), ?_⟩
        exact ((HS1.out.trans (HS2.out.wide (F' := F) (G' := F) (fun _ h => h.elim) (fun k hk => .inl hk))).trans (HS4.out.trans HS6.out)).below
  · have hno : newOk 1 age = false := by simpa using hok
    have hno2 := of_decide_eq_false hno
    have HNW := Lib.hid (new_calls 1 age w)
    clear hok
    by_cases h1 : age < 1
    · go_enter Try.func15, Try.ntmps15
      go_wp2_with fail
      refine HNW.out.mono ?_
      rintro e w1 (⟨h, _⟩ | ⟨_, rfl, rfl⟩)
      · rw [hno] at h; cases h
      go_wp2
      go_ret
      exact ⟨rfl, (St.refl No _).below⟩
    · have h2 : 64 < age := by omega
      go_enter Try.func15, Try.ntmps15
      go_wp2_with fail
      refine HNW.out.mono ?_
      rintro e w1 (⟨h, _⟩ | ⟨_, rfl, rfl⟩)
      · rw [hno] at h; cases h
      go_wp2
      go_ret
      exact ⟨rfl, (St.refl No _).below⟩
end Go.Proofs.Ytoeafacamapofaa
