
/-
  The statements' comparisons: frames, peers, states.
-/
import Derived.Test.YtjepmckofocdnaaXoSame
namespace Go.Proofs.Ytjepmckofocdnaa
open Go.RowKit
set_option linter.unusedVariables false
set_option linter.unusedSimpArgs false

set_option maxRecDepth 100000 in
set_option maxHeartbeats 1000000 in
theorem frames8_calls (a : Option Addr) (c : Nat) (xs : List (Nat × List B8)) (b : Option Addr) (d : Nat) (ys : List (Nat × List B8)) (hx : xs.length ≤ 4294967296) (hy : ys.length ≤ 4294967296) (w : World) (ha : Frs w a xs) (hb : Frs w b ys) :
    Calls Try.prog 76 #[.slice a xs.length c, .slice b ys.length d] w fun e w' => e = .returned (.bool (decide (xs = ys))) ∧ Dr w w' := by
  have HA := Lib.hid ha
  have HB := Lib.hid hb
  clear ha hb
  by_cases hl : xs.length = ys.length
  · have hl1 : ((xs.length : Int) != (ys.length : Int)) = false := by simp [hl]
    have HL := Lib.hid hl
    clear hl
    go_enter Try.func76, Try.ntmps76
    go_wp2
    clear hl1
    go_loopw [5] (fun i wr => ∃ k : Nat, k ≤ xs.length ∧ i = .int .i64 k ∧ Hid (xs.take k = ys.take k) ∧ Hid (Dr w wr)) (fun i _ => xs.length - (intOf i).toNat)
    case atStart => exact ⟨0, Nat.zero_le _, rfl, Lib.hid (by simp), Lib.hid (Dr.refl w)⟩
    case round =>
      obtain ⟨k, hk, rfl, ht, HD⟩ := hrel
      by_cases hlt : k < xs.length
      · have hlt2 : k < ys.length := by have := HL.out; omega
        obtain ⟨x, b1, c1, rfl, hs1, hc1, hb1, _, hn1⟩ := (HA.out.st (HD.out.st No)).get hlt
        obtain ⟨y, b2, c2, rfl, hs2, hc2, hb2, _, hn2⟩ := (HB.out.st (HD.out.st No)).get hlt2
        have hsm : ∀ n, Calls Try.prog 25 #[.slice b1 (xs[k]).2.length c1, .slice b2 (ys[k]).2.length c2] (wr.drewN n) fun e w'' => e = .returned (.bool (decide ((xs[k]).2 = (ys[k]).2))) ∧ ∃ m, w'' = wr.drewN m := fun n =>
          (same8_calls b1 c1 (xs[k]).2 b2 c2 (ys[k]).2 (by unfold maxLen; omega) (by unfold maxLen; omega) _ (hb1.st (St.drewN No wr n) (Dj.no _)) (hb2.st (St.drewN No wr n) (Dj.no _))).mono (fun e w'' h => ⟨h.1, by obtain ⟨j, hj⟩ := h.2; exact ⟨n + j, by rw [hj]; unfold World.drewN; simp [Nat.add_assoc]⟩⟩)
        have HS1 : Hid (xs[k] = ys[k] → xs.take (k + 1) = ys.take (k + 1)) := Lib.hid (takeG_succ hlt hlt2 ht.out)
        have HS2 : Hid (¬ xs[k] = ys[k] → ¬ xs = ys) := Lib.hid (takeG_ne hlt hlt2)
        clear hb1 hb2
        generalize xs[k] = x0 at *
        generalize ys[k] = y0 at *
        obtain ⟨s1, l1⟩ := x0
        obtain ⟨s2, l2⟩ := y0
        simp only at hs1 hs2 hc1 hc2 hsm
        have hs1' : wr.cell? (x.add (k * 2)) = some (.int .u64 (s1 : Int)) := hs1
        have hs2' : wr.cell? (y.add (k * 2)) = some (.int .u64 (s2 : Int)) := hs2
        have hc1' : wr.cell? ⟨(x.add (k * 2)).block, (x.add (k * 2)).off + 1, none⟩ = some (.slice b1 l1.length c1) := hc1
        have hc2' : wr.cell? ⟨(y.add (k * 2)).block, (y.add (k * 2)).off + 1, none⟩ = some (.slice b2 l2.length c2) := hc2
        clear hs1 hs2 hc1 hc2
        by_cases he : s1 = s2
        · have hei : ((s1 : Int) != (s2 : Int)) = false := by rw [bne_eq_false_iff_eq]; omega
          by_cases hf : l1 = l2
          · have HS := Lib.hid (HS1.out (by rw [he, hf]))
            rw [decide_eq_true hf] at hsm
            clear he hf
            go_wp2
            go_quiet ((go_at_call 25; exact hsm _))
            go_wp2
            go_roundw
            case rel => exact ⟨k + 1, by omega, by go_num, HS, Lib.hid (HD.out.drewN _)⟩
            case measure => simp [intOf]; omega
          · have HS := Lib.hid (HS2.out (fun e => hf (Prod.mk.inj e).2))
            rw [decide_eq_false hf] at hsm
            clear he hf
            go_wp2
            go_quiet ((go_at_call 25; exact hsm _))
            go_wp2
            go_ret
            exact ⟨ret_bool (by simp [HS.out]), HD.out.drewN _⟩
        · have hei : ((s1 : Int) != (s2 : Int)) = true := by rw [bne_iff_ne]; omega
          have HS := Lib.hid (HS2.out (fun e => he (Prod.mk.inj e).1))
          clear he
          go_wp2
          go_quiet ((go_at_call 25; exact hsm _))
          go_wp2
          go_ret
          exact ⟨ret_bool (by simp [HS.out]), HD.out.drewN _⟩
      · have : k = xs.length := by omega
        subst this
        have h1 := ht.out
        have h2 := HL.out
        rw [List.take_length, h2, List.take_length] at h1
        have H1 := Lib.hid h1
        clear h1 h2
        go_wp2
        go_ret
        exact ⟨ret_bool (by simp [H1.out]), HD.out⟩
  · have hl1 : ((xs.length : Int) != (ys.length : Int)) = true := by simp; omega
    have HN : Hid (¬ xs = ys) := Lib.hid (fun e => hl (by rw [e]))
    clear hl
    go_enter Try.func76, Try.ntmps76
    go_wp2
    go_ret
    exact ⟨ret_bool (by simp [HN.out]), Dr.refl w⟩
theorem xp_iff (x y : XP) : (x.sent = y.sent ∧ x.acked = y.acked ∧ x.mask = y.mask ∧ x.delivered = y.delivered ∧ x.queue = y.queue ∧ x.early = y.early) ↔ x = y := by
  constructor
  · cases x; cases y
    rintro ⟨h1, h2, h3, h4, h5, h6⟩
    simp only at h1 h2 h3 h4 h5 h6
    subst h1; subst h2; subst h3; subst h4; subst h5; subst h6
    rfl
  · rintro rfl
    exact ⟨rfl, rfl, rfl, rfl, rfl, rfl⟩
instance : DecidableEq XP := fun x y => decidable_of_iff _ (xp_iff x y)
set_option maxRecDepth 100000 in
set_option maxHeartbeats 2000000 in
theorem peers8_calls (w : World) (s t : SP) (hs : s.Rd w) (ht : t.Rd w) : Calls Try.prog 49 #[.agg s.v.cells, .agg t.v.cells] w fun e w' => e = .returned (.bool (decide (s.pl = t.pl))) ∧ St No w No w' := by
  have z1 : s.v.cells.size = 6 := rfl
  have z2 : t.v.cells.size = 6 := rfl
  have HA : Hid (St No w No ((w.alloc (.cells s.v.cells 69)).alloc (.cells t.v.cells 69))) := Lib.hid ((St.alloc' No w _).trans (St.alloc' No _ _))
  have HB1 : Hid (Ob ((w.alloc (.cells s.v.cells 69)).alloc (.cells t.v.cells 69)) w.heap.size 69 s.v.cells) := Lib.hid ((Ob.alloc w _ _).move ((St.alloc' No _ _).block _ (Ob.alloc w s.v.cells 69).lt (fun e => e)))
  have HB2 : Hid (Ob ((w.alloc (.cells s.v.cells 69)).alloc (.cells t.v.cells 69)) (w.heap.size + 1) 69 t.v.cells) := Lib.hid (by
    have h := Ob.alloc (w.alloc (.cells s.v.cells 69)) t.v.cells 69
    rw [World.size_alloc] at h
    exact h)
  obtain ⟨x0, x1, x2, x3, x4, x5⟩ := PV.n6 HB1.out
  obtain ⟨y0, y1, y2, y3, y4, y5⟩ := PV.n6 HB2.out
  rw [hs.qn] at x2
  rw [hs.en] at x5
  rw [ht.qn] at y2
  rw [ht.en] at y5
  have HLC := Lib.hid (fun W (h : St No w No W) => lists8_calls s.v.qa s.v.qc s.L t.v.qa t.v.qc t.L hs.l1 ht.l1 W (hs.L.st h) (ht.L.st h))
  have HFC := Lib.hid (fun W (h : St No w No W) => frames8_calls s.v.ea s.v.ec s.E t.v.ea t.v.ec t.E hs.l2 ht.l2 W (hs.E.st h) (ht.E.st h))
  have HX : Hid (decide (s.pl = t.pl) = decide (s.v.sent = t.v.sent ∧ s.v.acked = t.v.acked ∧ s.v.mask = t.v.mask ∧ s.v.delivered = t.v.delivered ∧ s.L = t.L ∧ s.E = t.E)) := Lib.hid (decide_eq_decide.2 (xp_iff s.pl t.pl).symm)
  clear hs ht
  by_cases a1 : s.v.sent = t.v.sent
  case neg =>
    have i1 : ((s.v.sent : Int) == (t.v.sent : Int)) = false := by rw [beq_eq_false_iff_ne]; omega
    have HR : Hid (decide (s.pl = t.pl) = false) := Lib.hid (by rw [HX.out]; exact decide_eq_false (fun e => a1 e.1))
    clear a1
    go_enter Try.func49, Try.ntmps49
    go_wp2
    go_ret
    exact ⟨by rw [HR.out]; rfl, HA.out⟩
  have i1 : ((s.v.sent : Int) == (t.v.sent : Int)) = true := by rw [beq_iff_eq]; omega
  by_cases a2 : s.v.acked = t.v.acked
  case neg =>
    have i2 : ((s.v.acked : Int) == (t.v.acked : Int)) = false := by rw [beq_eq_false_iff_ne]; omega
    have HR : Hid (decide (s.pl = t.pl) = false) := Lib.hid (by rw [HX.out]; exact decide_eq_false (fun e => a2 e.2.1))
    clear a1 a2
    go_enter Try.func49, Try.ntmps49
    go_wp2
    go_ret
    exact ⟨by rw [HR.out]; rfl, HA.out⟩
  have i2 : ((s.v.acked : Int) == (t.v.acked : Int)) = true := by rw [beq_iff_eq]; omega
  by_cases a3 : s.v.mask = t.v.mask
  case neg =>
    have i3 : ((s.v.mask.toNat : Int) == (t.v.mask.toNat : Int)) = false := by
      rw [beq_eq_false_iff_ne]
      exact fun e => a3 (BitVec.eq_of_toNat_eq (by omega))
    have HR : Hid (decide (s.pl = t.pl) = false) := Lib.hid (by rw [HX.out]; exact decide_eq_false (fun e => a3 e.2.2.1))
    clear a1 a2 a3
    go_enter Try.func49, Try.ntmps49
    go_wp2
    go_ret
    exact ⟨by rw [HR.out]; rfl, HA.out⟩
  have i3 : ((s.v.mask.toNat : Int) == (t.v.mask.toNat : Int)) = true := by rw [beq_iff_eq, a3]
  by_cases a4 : s.v.delivered = t.v.delivered
  case neg =>
    have i4 : ((s.v.delivered : Int) == (t.v.delivered : Int)) = false := by rw [beq_eq_false_iff_ne]; omega
    have HR : Hid (decide (s.pl = t.pl) = false) := Lib.hid (by rw [HX.out]; exact decide_eq_false (fun e => a4 e.2.2.2.1))
    clear a1 a2 a3 a4
    go_enter Try.func49, Try.ntmps49
    go_wp2
    go_ret
    exact ⟨by rw [HR.out]; rfl, HA.out⟩
  have i4 : ((s.v.delivered : Int) == (t.v.delivered : Int)) = true := by rw [beq_iff_eq]; omega
  by_cases a5 : s.L = t.L
  case neg =>
    have HR : Hid (decide (s.pl = t.pl) = false) := Lib.hid (by rw [HX.out]; exact decide_eq_false (fun e => a5 e.2.2.2.2.1))
    have HD : Hid (decide (s.L = t.L) = false) := Lib.hid (decide_eq_false a5)
    clear a1 a2 a3 a4 a5
    go_enter Try.func49, Try.ntmps49
    go_wp2_with fail
    refine (HLC.out _ HA.out).mono ?_
    rintro r w5 ⟨rfl, hd5⟩
    have HD5 := Lib.hid (HA.out.trans (hd5.st No))
    rw [HD.out]
    clear hd5
    go_wp2
    go_ret
    exact ⟨by rw [HR.out]; rfl, HD5.out⟩
  have HP : Hid (decide (s.L = t.L) = true) := Lib.hid (decide_eq_true a5)
  have HR : Hid (decide (s.pl = t.pl) = decide (s.E = t.E)) := Lib.hid (by
    rw [HX.out, decide_eq_decide]
    exact ⟨fun e => e.2.2.2.2.2, fun e => ⟨a1, a2, a3, a4, a5, e⟩⟩)
  clear a1 a2 a3 a4 a5
  go_enter Try.func49, Try.ntmps49
  go_wp2_with fail
  refine (HLC.out _ HA.out).mono ?_
  rintro r w5 ⟨rfl, hd5⟩
  have HD5 := Lib.hid (HA.out.trans (hd5.st No))
  have hh := (hd5.st No)
  have u5 := hh.cellN x5
  have v5 := hh.cellN y5
  rw [HP.out]
  clear hd5 hh
  go_wp2_with fail
  refine (HFC.out _ HD5.out).mono ?_
  rintro r w6 ⟨rfl, hd6⟩
  have HD6 := Lib.hid (HD5.out.trans (hd6.st No))
  clear hd6
  generalize decide (s.E = t.E) = bb at *
  cases bb <;> go_wp2 <;> go_ret <;> exact ⟨by rw [HR.out]; rfl, HD6.out⟩
end Go.Proofs.Ytjepmckofocdnaa
