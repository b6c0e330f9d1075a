
/-
  XonceSpent: the walk.
-/
import Derived.Test.YtjepmckofocdnaaXoSpent
namespace Go.Proofs.Ytjepmckofocdnaa
open Go.RowKit
set_option linter.unusedVariables false
set_option linter.unusedSimpArgs false

theorem sendX_ex {k : EC} {X : Nat → XP} {a : Nat} {bs : List B8} (h : EX k X) : EX k (sendX k X a bs) := by
  unfold sendX
  cases hb : sendB k a bs with
  | false => exact h
  | true =>
    unfold sendB at hb
    rw [Bool.and_eq_true] at hb
    have hp := isP_iff.1 hb.1
    exact h.turn (pushX_ok (h a hp.1 hp.2) hb.2)
theorem takeX_ex {k : EC} {X : Nat → XP} {a : Nat} {m : MV} (h : EX k X) : EX k (takeX k X a m) := by
  unfold takeX
  cases hb : takeB k a m with
  | false => exact h
  | true =>
    unfold takeB at hb
    rw [Bool.and_eq_true] at hb
    have hp := isP_iff.1 hb.1
    exact h.turn (heardX_ok (h a hp.1 hp.2))
theorem spent_laid {wM : World} {g b n B : Nat} {v : Value} (h : StM wM (.slice (some ⟨g, 0, none⟩) n n) (List.replicate n sb0)) (hn : 3 ≤ n) (hb : b ≠ g) :
    StM (((wM.setCell ⟨b, 0, none⟩ v).setCell ⟨g, 6, none⟩ (.int .u64 B)).setCell ⟨g, 7, none⟩ (.int .u64 B)) (.slice (some ⟨g, 0, none⟩) n n) (rowsS B n) := by
  have hr : ∀ r ∈ rowsS B n, (∀ W, r.Ok W) ∧ ∀ j, ¬ r.fp j := fun r hr => by
    rcases List.mem_or_eq_of_mem_set hr with hr | rfl
    · rw [List.eq_of_mem_replicate hr]
      exact ⟨sb0_ok, fun j x => sb0_fp x⟩
    · exact ⟨fun W => sbA_ok, fun j x => x.elim (fun x => fpL_nil x) (fun x => fpL_nil x)⟩
  have h0 := h.own
  rw [List.length_replicate] at h0
  have ho := ((h0.st (St.setCell (F := fpB0 b) wM ⟨b, 0, none⟩ v rfl) (fun j x y => hb (by rw [← (show j = b from x)]; exact fpV_at.1 y))).set 6 (.int .u64 B)).set 7 (.int .u64 B)
  have e : (((List.replicate n sb0).flatMap SB.cells).set 6 (.int .u64 B)).set 7 (.int .u64 B) = (rowsS B n).flatMap SB.cells := by
    obtain ⟨m, rfl⟩ : ∃ m, n = m + 1 + 1 := ⟨n - 2, by omega⟩
    unfold rowsS
    rw [List.replicate_succ, List.replicate_succ]
    simp [SB.cells, PV.cells, sb0, sbA]
  rw [e] at ho
  exact ⟨by rw [show (rowsS B n).length = n by simp [rowsS]]; exact ho, fun r x => (hr r x).1 _, fun r x j _ y => (hr r x).2 j y⟩
theorem LsG.one1 {w : World} {V : Value} {os : List OB} {x : XM} (h : LsO w V os) (hp : os.map OB.pl = [x]) :
    ∃ g c pa pc o, os = [o] ∧ V = .slice (some ⟨g, 0, none⟩) 1 c ∧ o.v = .slice pa x.b.length pc ∧ Bs w pa x.b ∧ w.cell? ⟨g, 2, none⟩ = some (.int .u64 (x.seq : Int)) ∧ w.cell? ⟨g, 17, none⟩ = some (.slice pa x.b.length pc) := by
  obtain ⟨o, rfl⟩ : ∃ o, os = [o] := by
    cases os with
    | nil => cases hp
    | cons o l => cases l with
      | nil => exact ⟨o, rfl⟩
      | cons o2 l2 => cases hp
  have ho : o.pl = x := by simpa using hp
  subst ho
  have hel := h.el o (List.mem_singleton.2 rfl)
  obtain ⟨pa, pc, hv, _⟩ := hel.form
  obtain ⟨y, hy⟩ := rowL_some OB.cells_len (by decide) (show Own w 62 18 (.slice (h.own.form.choose) 1 (h.own.form.choose_spec.choose)) 1 ([o].flatMap OB.cells) from by
    have := h.own
    rw [h.own.form.choose_spec.choose_spec.1] at this
    exact this) 0 (by simp)
  have hV : V = .slice (some y) 1 (h.own.form.choose_spec.choose) := by rw [← hy]; exact h.own.form.choose_spec.choose_spec.1
  rcases h.own.2 with ⟨e, _⟩ | ⟨g, cap, cur, e, _⟩
  · rw [hV] at e; cases e
  · rw [hV] at e
    have ey : y = ⟨g, 0, none⟩ := by injection e with e1; injection e1
    subst ey
    have hown := h.own
    rw [hV] at hown
    have c2 := rowL_elem OB.cells_len hown 0 o rfl 2 _ (by decide) rfl
    have c17 := rowL_elem OB.cells_len hown 0 o rfl 17 _ (by decide) rfl
    refine ⟨g, _, pa, pc, o, rfl, hV, hv, ?_, c2, ?_⟩
    · rw [hv] at hel
      exact hel.bs
    · rw [show o.pl.b = o.b from rfl, ← hv]
      exact c17
set_option maxRecDepth 100000 in
set_option maxHeartbeats 4000000 in
theorem xonceSpent_walk (hosts win left : Int) (a : Option Addr) (c : Nat) (bs : List B8) (hac : a = none → c = 0) (hl : bs.length ≤ 140737488351232) (w : World) (ha : Bs w a bs) :
    Calls Try.prog 9 #[.int .i64 hosts, .int .i64 win, .int .i64 left, .slice a bs.length c] w fun e w' => e = .returned (.bool true) ∧ Below w.heap.size w w' := by
  have HA := Lib.hid ha
  have HAC := Lib.hid hac
  clear ha hac
  by_cases g0 : 3 ≤ hosts
  case neg =>
    have i0 : hosts < 3 := by omega
    clear g0
    go_enter Try.func9, Try.ntmps9
    go_wp2
    go_ret
    exact ⟨rfl, Below.refl _ _⟩
  have d0 : decide (hosts < 3) = false := decide_eq_false (by omega)
  by_cases g1 : hosts ≤ 16
  case neg =>
    have i1 : 16 < hosts := by omega
    clear g1
    go_enter Try.func9, Try.ntmps9
    go_wp2
    go_ret
    exact ⟨rfl, Below.refl _ _⟩
  have d1 : decide (16 < hosts) = false := decide_eq_false (by omega)
  by_cases g2 : 1 ≤ win
  case neg =>
    have i2 : win < 1 := by omega
    clear g2
    go_enter Try.func9, Try.ntmps9
    go_wp2
    go_ret
    exact ⟨rfl, Below.refl _ _⟩
  have d2 : decide (win < 1) = false := decide_eq_false (by omega)
  by_cases g3 : win ≤ 16
  case neg =>
    have i3 : 16 < win := by omega
    clear g3
    go_enter Try.func9, Try.ntmps9
    go_wp2
    go_ret
    exact ⟨rfl, Below.refl _ _⟩
  have d3 : decide (16 < win) = false := decide_eq_false (by omega)
  by_cases g4 : 0 ≤ left
  case neg =>
    have i4 : left < 0 := by omega
    clear g4
    go_enter Try.func9, Try.ntmps9
    go_wp2
    go_ret
    exact ⟨rfl, Below.refl _ _⟩
  have d4 : decide (left < 0) = false := decide_eq_false (by omega)
  by_cases g5 : left ≤ 40
  case neg =>
    have i5 : 40 < left := by omega
    clear g5
    go_enter Try.func9, Try.ntmps9
    go_wp2
    go_ret
    exact ⟨rfl, Below.refl _ _⟩
  have d5 : decide (40 < left) = false := decide_eq_false (by omega)
  by_cases g6 : 1 ≤ bs.length
  case neg =>
    have i6 : ((bs.length : Int) == 0) = true := by rw [beq_iff_eq]; omega
    clear g6
    go_enter Try.func9, Try.ntmps9
    go_wp2
    go_ret
    exact ⟨rfl, Below.refl _ _⟩
  have d6 : ((bs.length : Int) == 0) = false := by rw [beq_eq_false_iff_ne]; omega
  by_cases g7 : bs.length ≤ 3072
  case neg =>
    have i7 : (3072 : Int) < (bs.length : Int) := by omega
    clear g7
    go_enter Try.func9, Try.ntmps9
    go_wp2
    go_ret
    exact ⟨rfl, Below.refl _ _⟩
  have d7 : decide ((3072 : Int) < (bs.length : Int)) = false := decide_eq_false (by omega)
  obtain ⟨hn, rfl⟩ : ∃ hn : Nat, hosts = (hn : Int) := ⟨hosts.toNat, by omega⟩
  obtain ⟨wn, rfl⟩ : ∃ wn : Nat, win = (wn : Int) := ⟨win.toNat, by omega⟩
  obtain ⟨ln, rfl⟩ : ∃ ln : Nat, left = (ln : Int) := ⟨left.toNat, by omega⟩
  have HSZ : Hid (sizedB bs.length = true) := Lib.hid (decide_eq_true ⟨g6, g7⟩)
  obtain ⟨i, hi, hz, hsz, hby⟩ := infPS'
  have HI := Lib.hid hi
  have HZ := Lib.hid hz
  have HSI := Lib.hid hsz
  have HBY := Lib.hid hby
  clear hi hz hsz hby
  obtain ⟨B, hB⟩ : ∃ B : Nat, B + ln = 18446744073709551615 := ⟨18446744073709551615 - ln, by omega⟩
  have wr0 : IntKind.u64.wrap (ln : Int) = (ln : Int) := by rw [wrap_u64]; omega
  have wr1 : IntKind.u64.wrap (18446744073709551615 - (ln : Int)) = (B : Int) := by rw [wrap_u64]; omega
  have HBL := Lib.hid hB
  clear hB
  go_enter Try.func9, Try.ntmps9
  go_wp2_with (at_make; refine wpList_makeN rfl 22 (.tmp 53) (.tmp 53) rfl 69 i (.agg sb0.v.cells) 6 i.bytes Try.underlying22 HI.out HZ.out HSI.out rfl .i64 .i64 _ _ hn rfl rfl rfl rfl (Nat.le_trans (Nat.mul_le_mul HBY.out (show hn ≤ 16 by omega)) (by omega)) (by unfold maxLen; omega) ?_; intro wM hoM hsM; rw [made_ps] at hoM; have HMM := Lib.hid hoM; have HSM := Lib.hid hsM; have hsg := hoM.in _ (fpV_at.2 rfl); rw [World.size_alloc] at hsg; have HBM := Lib.hid ((Ob.alloc w #[.slice none 0 0] 24).move (hsM.block _ (Ob.alloc w #[.slice none 0 0] 24).lt (fun e => e))); have bM : wM.cell? ⟨w.heap.size, 0, none⟩ = some (.slice none 0 0) := (by rw [HBM.out.cell 0]; rfl); have bf := HBM.out.free 0; have hstm : StM wM (.slice (some ⟨w.heap.size + 1, 0, none⟩) hn hn) (List.replicate hn sb0) := (by rw [World.size_alloc] at hoM; exact ⟨by rw [List.length_replicate]; exact hoM, fun r hr => by rw [List.eq_of_mem_replicate hr]; exact sb0_ok _, fun r hr => by rw [List.eq_of_mem_replicate hr]; exact fun j _ x => sb0_fp x⟩); have HTM := Lib.hid hstm; obtain ⟨r0, k0, k1, k2, k3, k4, k5, kf0, kf1, kf2, kf3, kf4, kf5⟩ := hstm.at (h := 1) (by rw [List.length_replicate]; omega); have k0' : wM.cell? ⟨w.heap.size + 1, 6, none⟩ = some (.int .u64 r0.v.sent) := k0; have k1' : wM.cell? ⟨w.heap.size + 1, 7, none⟩ = some (.int .u64 r0.v.acked) := k1; have kf0' : wM.frozen? ⟨w.heap.size + 1, 6, none⟩ = false := kf0; have kf1' : wM.frozen? ⟨w.heap.size + 1, 7, none⟩ = false := kf1; have hq1 : w.heap.size ≠ w.heap.size + 1 := (by omega); have hq2 : w.heap.size + 1 ≠ w.heap.size := (by omega); have hi1 : (1 : Int) < (hn : Int) := (by omega); clear hoM hsM hstm k0 k1 k2 k3 k4 k5 kf0 kf1 kf2 kf3 kf4 kf5)
  have HLD : Hid (StM (((wM.setCell ⟨w.heap.size, 0, none⟩ (.slice (some ⟨w.heap.size + 1, 0, none⟩) hn hn)).setCell ⟨w.heap.size + 1, 6, none⟩ (.int .u64 B)).setCell ⟨w.heap.size + 1, 7, none⟩ (.int .u64 B)) (.slice (some ⟨w.heap.size + 1, 0, none⟩) hn hn) (rowsS B hn)) := Lib.hid (spent_laid HTM.out (by omega) hq1)
  have HSL : Hid (St No w No (((wM.setCell ⟨w.heap.size, 0, none⟩ (.slice (some ⟨w.heap.size + 1, 0, none⟩) hn hn)).setCell ⟨w.heap.size + 1, 6, none⟩ (.int .u64 B)).setCell ⟨w.heap.size + 1, 7, none⟩ (.int .u64 B))) := Lib.hid (by
    have s0 : St No w No wM := (St.alloc' No w _).trans (HSM.out.drop (fun _ e => e.elim))
    exact ((s0.own (St.setCell (F := fpB0 w.heap.size) _ ⟨w.heap.size, 0, none⟩ _ rfl) (Nat.le_refl _)).own (St.setCell (F := fpB0 (w.heap.size + 1)) _ ⟨w.heap.size + 1, 6, none⟩ _ rfl) (by omega)).own (St.setCell (F := fpB0 (w.heap.size + 1)) _ ⟨w.heap.size + 1, 7, none⟩ _ rfl) (by omega))
  generalize (((wM.setCell ⟨w.heap.size, 0, none⟩ (.slice (some ⟨w.heap.size + 1, 0, none⟩) hn hn)).setCell ⟨w.heap.size + 1, 6, none⟩ (.int .u64 B)).setCell ⟨w.heap.size + 1, 7, none⟩ (.int .u64 B)) = wL at *
  have hBb := HBL.out
  have hlr : ((rowsS B hn).map SB.sp).length = hn := by simp [rowsS]
  have hld := load_calls (kS hn wn) (show (0 : Nat) ≤ 255 by omega) (show hn ≤ 9223372036854775807 by omega) (show 16 ≤ 9223372036854775807 by omega) (show wn ≤ 9223372036854775807 by omega) (decide_eq_true (by show (1 : Int) ≤ (hn : Int) ∧ (hn : Int) ≤ 16 ∧ (0 : Int) < (hn : Int) ∧ (1 : Int) ≤ 16 ∧ (16 : Int) ≤ 16 ∧ (1 : Int) ≤ (wn : Int) ∧ (wn : Int) ≤ 16; omega)) wL (some ⟨w.heap.size + 1, 0, none⟩) hn ((rowsS B hn).map SB.sp)
    (HLD.out.rd (fun r hr => by
      rcases List.mem_or_eq_of_mem_set hr with hr | rfl
      · rw [List.eq_of_mem_replicate hr]; exact xp0_bd
      · exact (show (xsA B).Bd from (xsA_ok (n := B) (c := ⟨0, 16, 1⟩) (by omega) (by decide) (by decide) (by decide)).bd))).2 (by rw [hlr]; omega) (loadS (by omega))
  rw [hlr] at hld
  refine hld.mono ?_
  rintro r wN ⟨F, e, rfl, hen, hsN⟩
  have HEN : Hid (En wN F e (kS hn wn) (XS (B + 0))) := Lib.hid (hen.congr (fun b hb _ => plX_S hb))
  have HSN : Hid (St No w F wN) := Lib.hid (HSL.out.trans hsN)
  clear hen hsN hld hlr k0' k1' kf0' kf1' bM bf
  go_wp2_with (go_at_call 18; refine (num8_calls _ _).mono ?_; rintro r w1 ⟨rfl, rfl⟩)
  clear HMM HSM HBM HTM HLD HSL
  go_loopw [12] (fun i wr => ∃ (n : Nat) (F : Nat → Prop), n ≤ ln ∧ i = .int .i64 n ∧ Hid (En wr F e (kS hn wn) (XS (B + n))) ∧ Hid (St No w F wr)) (fun i _ => ln - (intOf i).toNat)
  case atStart => exact ⟨0, F, by omega, rfl, HEN, HSN⟩
  case round =>
    obtain ⟨n, F, hnl, rfl, HE, HS⟩ := hrel
    by_cases hlt : n < ln
    · have HX : Hid (EX (kS hn wn) (XS (B + n))) := Lib.hid (XS_ex (by omega) (by omega) (by omega))
      have HBS := Lib.hid (HA.out.st HS.out (Dj.no _))
      have HDJ : Hid (Dj F (fpA a)) := Lib.hid (fun j x y => by
        have h1 := HS.out.news j x
        obtain ⟨x0, hx0, rfl⟩ := y
        obtain ⟨y0, hy0, hc0⟩ := HA.out.at 0 (by omega)
        rw [hx0] at hy0
        cases hy0
        have h2 := World.block_lt_of_cell? w _ hc0
        rw [addr_block] at h2
        omega)
      have hrm := room_calls wr F e (kS hn wn) (XS (B + n)) HE.out (show hn ≤ 16 by omega) HX.out 1 (by omega)
      have wsb : IntKind.i64.wrap ((ln : Int) - (n : Int)) = ((ln - n : Nat) : Int) := by rw [IntWalk.i64_in _ (by omega)]; omega
      have hli : (n : Int) < (ln : Int) := by omega
      by_cases gm : 16 < ln - n
      · have gmi : (16 : Int) < ((ln - n : Nat) : Int) := by omega
        have HRM : Hid (roomN (kS hn wn) (XS (B + n)) 1 = 16) := Lib.hid (by rw [room_S (by omega)]; omega)
        rw [HRM.out] at hrm
        have HRC := Lib.hid hrm
        clear hrm gm

        go_wp2_with (go_at_call 32; refine HRC.out.mono ?_; rintro r w2 ⟨rfl, hd2⟩; have HD2 := Lib.hid hd2; clear hd2)
        have HE2 := Lib.hid (HE.out.st (HD2.out.st No) (Dj.no _))
        have hsd := send_calls w2 F e (kS hn wn) (XS (B + n)) HE2.out (show hn ≤ 16 by omega) HX.out 1 (by omega) a c bs (HBS.out.st (HD2.out.st No) (Dj.no _)) HDJ.out HAC.out
        have hex := sendX_ex (a := 1) (bs := bs) HX.out
        have hss := send_S (n := B + n) (hosts := hn) (win := wn) (bs := bs) (by omega) (by omega) HSZ.out (by omega)
        rw [hss.1, hss.2.1, hss.2.2] at hsd
        rw [hss.2.2] at hex
        have HEX := Lib.hid hex
        clear hss hex
        refine hsd.mono ?_
        rintro r w3 ⟨V, os, F3, rfl, ho3, hp3, he3, hs3, _⟩
        obtain ⟨g3, c3, pa, pc, o, rfl, rfl, _, hbp, z2, z17⟩ := ho3.one1 hp3
        obtain ⟨bn, hbn⟩ : ∃ bn, bn = B + n := ⟨_, rfl⟩
        obtain ⟨sq, hsq⟩ : ∃ sq, sq = B + n + 1 := ⟨_, rfl⟩
        have z2' : w3.cell? ⟨g3, 2, none⟩ = some (.int .u64 (sq : Int)) := by rw [hsq]; exact z2
        have z17' : w3.cell? ⟨g3, 17, none⟩ = some (.slice pa bs.length pc) := z17
        have HS3 : Hid (St No w F3 w3) := Lib.hid ((HS.out.trans ((HD2.out.st F).trans (hs3.drop (fun j x => .inr (.inl x))))))
        have hsm := same8_calls pa pc bs a c bs (by unfold maxLen; omega) (by unfold maxLen; omega) w3 hbp (HA.out.st HS3.out (Dj.no _))
        rw [decide_eq_true rfl] at hsm
        have HSM := Lib.hid hsm
        have HE3 := Lib.hid he3
        have wr2 : IntKind.u64.wrap (n : Int) = (n : Int) := by rw [wrap_u64]; omega
        have wr3 : IntKind.u64.wrap ((B : Int) + (n : Int)) = (bn : Int) := by rw [wrap_u64]; omega
        have wr4 : IntKind.u64.wrap ((bn : Int) + 1) = (sq : Int) := by rw [wrap_u64]; omega
        have HSQ := Lib.hid hsq
        clear hsd ho3 hp3 z2 z17 hbp hsm he3 hs3 hbn hsq
        go_wp2_with (first
          | (go_at_call 18; refine (num8_calls _ _).mono ?_; rintro r w4 ⟨rfl, rfl⟩)
          | (go_at_call 25; refine HSM.out.mono ?_; rintro r w4 ⟨rfl, hd4⟩; have y2 : w4.cell? ⟨g3, 2, none⟩ = some (.int .u64 (sq : Int)) := (hd4.st No).cellN z2'; have HD4 := Lib.hid hd4; clear hd4))
        have HE4 := Lib.hid (HE3.out.st (HD4.out.st No) (Dj.no _))
        have htk := takeA_calls w4 F3 e (kS hn wn) _ HE4.out (show hn ≤ 16 by omega) HEX.out 1 (by omega) (mvA sq) (mvA_wf (by have := HSQ.out; omega)) rfl
        have hts := take_S (n := B + n) (hosts := hn) (win := wn) (bs := bs) (by omega)
        rw [HSQ.out, hts.1] at htk
        have HTX := Lib.hid hts.2
        rw [← HSQ.out] at htk
        clear hts
        refine htk.mono ?_
        rintro r w5 ⟨Vu, us, Vm, os5, F5, rfl, hu5, _, ho5, _, he5, hs5, _⟩
        obtain ⟨ua, uc, rfl, _, _, _, _⟩ := hu5.own.form
        obtain ⟨oa, oc, rfl, _, _, _, _⟩ := ho5.own.form
        have HE5 : Hid (En w5 F5 e (kS hn wn) (XS (B + (n + 1)))) := Lib.hid (he5.congr (fun b _ _ => by
          have h := HTX.out b
          rw [← HSQ.out] at h
          rw [h, show sq = B + (n + 1) by have := HSQ.out; omega]))
        have HS5 : Hid (St No w F5 w5) := Lib.hid (HS3.out.trans ((HD4.out.st F3).trans (hs5.drop (fun j x => .inr (.inl x)))))
        clear htk hu5 ho5 he5 hs5
        go_wp2_with (go_at_call 18; refine (num8_calls _ _).mono ?_; rintro r w6 ⟨rfl, rfl⟩)
        exact ⟨⟨n + 1, F5, by omega, by go_num, Lib.hid (HE5.out.st (St.alloc' No w5 _) (Dj.no _)), Lib.hid (HS5.out.trans ((St.alloc' No w5 _).wide (fun _ e => e.elim) (fun _ e => .inl e)))⟩, by simp [intOf]; omega⟩

      · have gmi : decide ((16 : Int) < ((ln - n : Nat) : Int)) = false := decide_eq_false (by omega)
        have gmn : decide (16 < ln - n) = false := decide_eq_false (by omega)
        have HRM : Hid (roomN (kS hn wn) (XS (B + n)) 1 = ln - n) := Lib.hid (by have := HBL.out; rw [room_S (by omega)]; omega)
        rw [HRM.out] at hrm
        have HRC := Lib.hid hrm
        clear hrm gm
        go_wp2_with (go_at_call 32; refine HRC.out.mono ?_; rintro r w2 ⟨rfl, hd2⟩; have HD2 := Lib.hid hd2; clear hd2)
        have HE2 := Lib.hid (HE.out.st (HD2.out.st No) (Dj.no _))
        have hsd := send_calls w2 F e (kS hn wn) (XS (B + n)) HE2.out (show hn ≤ 16 by omega) HX.out 1 (by omega) a c bs (HBS.out.st (HD2.out.st No) (Dj.no _)) HDJ.out HAC.out
        have hex := sendX_ex (a := 1) (bs := bs) HX.out
        have hss := send_S (n := B + n) (hosts := hn) (win := wn) (bs := bs) (by omega) (by omega) HSZ.out (by omega)
        rw [hss.1, hss.2.1, hss.2.2] at hsd
        rw [hss.2.2] at hex
        have HEX := Lib.hid hex
        clear hss hex
        refine hsd.mono ?_
        rintro r w3 ⟨V, os, F3, rfl, ho3, hp3, he3, hs3, _⟩
        obtain ⟨g3, c3, pa, pc, o, rfl, rfl, _, hbp, z2, z17⟩ := ho3.one1 hp3
        obtain ⟨bn, hbn⟩ : ∃ bn, bn = B + n := ⟨_, rfl⟩
        obtain ⟨sq, hsq⟩ : ∃ sq, sq = B + n + 1 := ⟨_, rfl⟩
        have z2' : w3.cell? ⟨g3, 2, none⟩ = some (.int .u64 (sq : Int)) := by rw [hsq]; exact z2
        have z17' : w3.cell? ⟨g3, 17, none⟩ = some (.slice pa bs.length pc) := z17
        have HS3 : Hid (St No w F3 w3) := Lib.hid ((HS.out.trans ((HD2.out.st F).trans (hs3.drop (fun j x => .inr (.inl x))))))
        have hsm := same8_calls pa pc bs a c bs (by unfold maxLen; omega) (by unfold maxLen; omega) w3 hbp (HA.out.st HS3.out (Dj.no _))
        rw [decide_eq_true rfl] at hsm
        have HSM := Lib.hid hsm
        have HE3 := Lib.hid he3
        have wr2 : IntKind.u64.wrap (n : Int) = (n : Int) := by rw [wrap_u64]; omega
        have wr3 : IntKind.u64.wrap ((B : Int) + (n : Int)) = (bn : Int) := by rw [wrap_u64]; omega
        have wr4 : IntKind.u64.wrap ((bn : Int) + 1) = (sq : Int) := by rw [wrap_u64]; omega
        have HSQ := Lib.hid hsq
        clear hsd ho3 hp3 z2 z17 hbp hsm he3 hs3 hbn hsq
        go_wp2_with (first
          | (go_at_call 18; refine (num8_calls _ _).mono ?_; rintro r w4 ⟨rfl, rfl⟩)
          | (go_at_call 25; refine HSM.out.mono ?_; rintro r w4 ⟨rfl, hd4⟩; have y2 : w4.cell? ⟨g3, 2, none⟩ = some (.int .u64 (sq : Int)) := (hd4.st No).cellN z2'; have HD4 := Lib.hid hd4; clear hd4))
        have HE4 := Lib.hid (HE3.out.st (HD4.out.st No) (Dj.no _))
        have htk := takeA_calls w4 F3 e (kS hn wn) _ HE4.out (show hn ≤ 16 by omega) HEX.out 1 (by omega) (mvA sq) (mvA_wf (by have := HSQ.out; omega)) rfl
        have hts := take_S (n := B + n) (hosts := hn) (win := wn) (bs := bs) (by omega)
        rw [HSQ.out, hts.1] at htk
        have HTX := Lib.hid hts.2
        rw [← HSQ.out] at htk
        clear hts
        refine htk.mono ?_
        rintro r w5 ⟨Vu, us, Vm, os5, F5, rfl, hu5, _, ho5, _, he5, hs5, _⟩
        obtain ⟨ua, uc, rfl, _, _, _, _⟩ := hu5.own.form
        obtain ⟨oa, oc, rfl, _, _, _, _⟩ := ho5.own.form
        have HE5 : Hid (En w5 F5 e (kS hn wn) (XS (B + (n + 1)))) := Lib.hid (he5.congr (fun b _ _ => by
          have h := HTX.out b
          rw [← HSQ.out] at h
          rw [h, show sq = B + (n + 1) by have := HSQ.out; omega]))
        have HS5 : Hid (St No w F5 w5) := Lib.hid (HS3.out.trans ((HD4.out.st F3).trans (hs5.drop (fun j x => .inr (.inl x)))))
        clear htk hu5 ho5 he5 hs5
        go_wp2_with (go_at_call 18; refine (num8_calls _ _).mono ?_; rintro r w6 ⟨rfl, rfl⟩)
        exact ⟨⟨n + 1, F5, by omega, by go_num, Lib.hid (HE5.out.st (St.alloc' No w5 _) (Dj.no _)), Lib.hid (HS5.out.trans ((St.alloc' No w5 _).wide (fun _ e => e.elim) (fun _ e => .inl e)))⟩, by simp [intOf]; omega⟩
    · obtain rfl : n = ln := by omega
      have hb := HBL.out
      rw [show B + n = 18446744073709551615 from hb] at HE
      have HX : Hid (EX (kS hn wn) (XS 18446744073709551615)) := Lib.hid (XS_ex (Nat.le_refl _) (by omega) (by omega))
      have HSTC := Lib.hid (state_calls wr F e (kS hn wn) (XS 18446744073709551615) HE.out (show hn ≤ 16 by omega) HX.out)
      go_wp2_with (go_at_call 20; refine HSTC.out.mono ?_; rintro r w2 ⟨V2, rows2, rfl, hm2, hp2, hs2⟩; obtain ⟨va2, vc2, rfl, _, _, _, _⟩ := hm2.own.form; have HM2 := Lib.hid hm2; have HP2 := Lib.hid hp2; have HS2 := Lib.hid hs2; clear hm2 hp2 hs2)
      have HB3 := Lib.hid (Ob.alloc w2 #[.slice va2 rows2.length vc2] 24)
      have s3 : St No w2 No (w2.alloc (.cells #[.slice va2 rows2.length vc2] 24)) := St.alloc' No w2 _
      have HE3 := Lib.hid ((HE.out.st HS2.out (Dj.no _)).st s3 (Dj.no _))
      have HM3 := Lib.hid (HM2.out.st s3 (Dj.no _))
      have HBS3 := Lib.hid (HA.out.st ((HS.out.drop (G' := No) (fun _ e => e.elim)).trans ((HS2.out.drop (G' := No) (fun _ e => e.elim)).trans s3)) (Dj.no _))
      have HS3 := Lib.hid (HS.out.trans ((HS2.out.drop (G' := No) (fun _ e => e.elim)).trans s3 |>.wide (F' := F) (G' := F) (fun _ e => e.elim) (fun _ e => .inl e)))
      have HFN : Hid (∀ j, F j → w.heap.size ≤ j ∧ j < wr.heap.size) := Lib.hid (fun j x => ⟨HS.out.news j x, HE.out.in j x⟩)
      have HDS : Hid (Dj F (fpS (.slice va2 rows2.length vc2) rows2)) := Lib.hid (fun j x y => by have h1 := HS2.out.news j y; have h2 := (HFN.out j x).2; omega)
      have hg2 : wr.heap.size ≤ w2.heap.size := HS2.out.size
      have HDJ : Hid (Dj F (fpA a)) := Lib.hid (fun j x y => by
        have h1 := HS.out.news j x
        obtain ⟨x0, hx0, rfl⟩ := y
        obtain ⟨y0, hy0, hc0⟩ := HA.out.at 0 (by omega)
        rw [hx0] at hy0
        cases hy0
        have h2 := World.block_lt_of_cell? w _ hc0
        rw [addr_block] at h2
        omega)
      have HAL := Lib.hid (StM.all HM2.out HP2.out HX.out)
      clear s3
      generalize w2.alloc (.cells #[.slice va2 rows2.length vc2] 24) = w3 at *
      have hsd := send_calls w3 F e (kS hn wn) (XS 18446744073709551615) HE3.out (show hn ≤ 16 by omega) HX.out 1 (by omega) a c bs HBS3.out HDJ.out HAC.out
      have hss := spent_S (hosts := hn) (win := wn) (bs := bs) (by omega) HSZ.out
      rw [hss.1, hss.2.1] at hsd
      have HSS := Lib.hid hss.2.2
      clear hss
      refine hsd.mono ?_
      rintro r w4 ⟨V4, os4, F4, rfl, ho4, hp4, he4, hs4, hd4⟩
      obtain rfl : os4 = [] := by cases os4 with | nil => rfl | cons _ _ => cases hp4
      obtain ⟨va4, vc4, rfl, _, _, _, _⟩ := ho4.own.form
      have HE4 := Lib.hid (he4.congr (fun b _ _ => HSS.out b))
      have HM4 := Lib.hid (HM3.out.st hs4 HDS.out)
      have hb4 := HB3.out.move (hs4.block _ HB3.out.lt (fun x => by have := (HFN.out _ x).2; omega))
      have c4 : w4.cell? ⟨w2.heap.size, 0, none⟩ = some (.slice va2 rows2.length vc2) := by rw [hb4.cell 0]; rfl
      have HS4 : Hid (St No w F4 w4) := Lib.hid (HS3.out.trans (hs4.drop (fun j x => .inr (.inl x))))
      clear hsd ho4 hp4 he4 hs4 hd4 hb4
      have hln : ((rows2.length : Int) != (hn : Int)) = false := by rw [bne_eq_false_iff_eq]; have := HAL.out.2.1; have e : (kS hn wn).hosts = hn := rfl; omega
      have HRC : Hid (∀ W, St No w4 No W → Calls Try.prog 32 #[.pointer (some ⟨e, 0, none⟩), .int .u8 1] W fun r w' => r = .returned (.int .i64 0) ∧ St No w4 No w') := Lib.hid (fun W s => (room_calls W F4 e (kS hn wn) (XS 18446744073709551615) (HE4.out.st s (Dj.no _)) (show hn ≤ 16 by omega) HX.out 1 (by omega)).mono (fun r w' h => ⟨by rw [h.1, show roomN (kS hn wn) (XS 18446744073709551615) 1 = 0 by rw [room_S (by omega)]; rfl]; rfl, s.trans (h.2.st No)⟩))
      have HTC : Hid (∀ W, St No w4 No W → Calls Try.prog 20 #[.pointer (some ⟨e, 0, none⟩)] W fun r w' => ∃ va vc, ∃ rows : List SB, r = .returned (.agg #[.slice va rows.length vc]) ∧ StM w' (.slice va rows.length vc) rows ∧ rows.map SB.pl = stL (kS hn wn) hn (XS 18446744073709551615) ∧ St No w4 No w') := Lib.hid (fun W s => (state_calls W F4 e (kS hn wn) (XS 18446744073709551615) (HE4.out.st s (Dj.no _)) (show hn ≤ 16 by omega) HX.out).mono (fun r w' h => by
        obtain ⟨V6, rows6, rfl, hm6, hp6, hs6⟩ := h
        obtain ⟨va6, vc6, rfl, _, _, _, _⟩ := hm6.own.form
        exact ⟨va6, vc6, rows6, rfl, hm6, hp6, s.trans (hs6.drop (fun _ e => e.elim))⟩))
      go_wp2_with fail
      go_region_held3 (fun w' => w'.cell? ⟨w2.heap.size, 0, none⟩ = some (.slice va2 rows2.length vc2)) (go_keep)
        (first
          | (go_at_call 18
             refine (num8_calls _ _).mono ?_
             rintro r w5 ⟨rfl, rfl⟩)
          | (go_at_call 32
             refine (HRC.out _ ?_).mono ?_
             · (repeat (first | exact St.refl No _ | refine St.trans ?_ (St.drew No _) | refine St.trans ?_ (St.drewN No _ _)))
             rintro r w5 ⟨rfl, hs5⟩
             have HS5 := Lib.hid hs5
             have c5 := hs5.cellN c4
             clear hs5)
          | (go_at_call 20
             refine (HTC.out _ ?_).mono ?_
             · (refine St.trans HS5.out ?_; (repeat (first | exact St.refl No _ | refine St.trans ?_ (St.drew No _) | refine St.trans ?_ (St.drewN No _ _))))
             rintro r w6 ⟨va6, vc6, rows6, rfl, hm6, hp6, hs6⟩
             have HS6 := Lib.hid hs6
             have c6 := hs6.cellN c4
             have HUC : Hid (∀ W, St No w6 No W → Calls Try.prog 19 #[.agg #[.slice va2 rows2.length vc2], .agg #[.slice va6 rows6.length vc6]] W fun r w' => r = .returned (.bool true) ∧ St No w4 No w') := Lib.hid (fun W s => by
               have h1 := StM.all ((HM4.out.st HS6.out (Dj.no _)).st s (Dj.no _)) HP2.out HX.out
               have h2 := StM.all (hm6.st s (Dj.no _)) hp6 HX.out
               have hst := states8_calls va2 vc2 (rows2.map SB.sp) va6 vc6 (rows6.map SB.sp) (by rw [List.length_map, h1.2.1]; show hn ≤ _; omega) W h1.2.2.1 h2.2.2.1
               rw [List.length_map, List.length_map, h1.2.2.2, h2.2.2.2, decide_eq_true rfl] at hst
               exact hst.mono (fun r w' h => ⟨h.1, HS6.out.trans (s.trans h.2)⟩))
             clear hm6 hp6 hs6)
          | (go_at_call 19
             refine (HUC.out _ ?_).mono ?_
             · (repeat (first | exact St.refl No _ | refine St.trans ?_ (St.drew No _) | refine St.trans ?_ (St.drewN No _ _)))
             rintro r w7 ⟨rfl, hs7⟩
             have HS7 := Lib.hid hs7
             have c7 := hs7.cellN c4
             clear hs7))
      have HE7 := Lib.hid (HE4.out.st HS7.out (Dj.no _))
      have HS8 := Lib.hid (HS4.out.trans (HS7.out.wide (F' := F4) (G' := F4) (fun _ e => e.elim) (fun _ e => .inl e)))
      have HDJ4 : Hid (Dj F4 (fpA a)) := Lib.hid (fun j x y => by
        have h1 := HS4.out.news j x
        obtain ⟨x0, hx0, rfl⟩ := y
        obtain ⟨y0, hy0, hc0⟩ := HA.out.at 0 (by omega)
        rw [hx0] at hy0
        cases hy0
        have h2 := World.block_lt_of_cell? w _ hc0
        rw [addr_block] at h2
        omega)
      have hsd := send_calls w7 F4 e (kS hn wn) (XS 18446744073709551615) HE7.out (show hn ≤ 16 by omega) HX.out 2 (by omega) a c bs (HA.out.st HS8.out (Dj.no _)) HDJ4.out HAC.out
      have hss := send2_S (n := 18446744073709551615) (hosts := hn) (win := wn) (bs := bs) (by omega) HSZ.out (by omega)
      rw [hss.1, hss.2] at hsd
      have HSD := Lib.hid hsd
      clear hsd hss c4 c5 c6 c7 hln
      go_wp2_with (go_at_call 24; refine HSD.out.mono ?_; rintro r w8 ⟨V8, os8, F8, rfl, ho8, hp8, he8, hs8, _⟩; obtain ⟨g8, c8, pa8, pc8, o8, rfl, rfl, _, _, z2, _⟩ := ho8.one1 hp8; have z2' : w8.cell? ⟨g8, 2, none⟩ = some (.int .u64 1) := z2; have HS9 := Lib.hid (HS8.out.trans (hs8.drop (G' := F8) (fun j x => .inr (.inl x)))); clear ho8 hp8 he8 hs8 z2)
      go_wp2_with (go_at_call 18; refine (num8_calls _ _).mono ?_; rintro r w9 ⟨rfl, rfl⟩)
      go_ret
      exact ⟨rfl, (HS9.out.drop (G' := No) (fun _ e => e.elim)).below⟩
end Go.Proofs.Ytjepmckofocdnaa
