
/-
  lay: a state's half laid into a peer.
-/
import Derived.Test.YtjepmckofocdnaaXoFits
namespace Go.Proofs.Ytjepmckofocdnaa
open Go.RowKit
set_option linter.unusedVariables false
set_option linter.unusedSimpArgs false

def layX (x : XP) (v : PV) (L : List (List B8)) : XP := { x with sent := v.sent, acked := v.acked, mask := v.mask, queue := L }
def layB (c : PC) (v : PV) (L : List (List B8)) : Bool := decide (v.acked ≤ v.sent ∧ L.length ≤ c.room ∧ L.length = v.sent - v.acked ∧ beyondB v.sent v.acked v.mask = false ∧ ∀ b ∈ L, sizedB b.length = true)
/-- whether a half was laid; the peer behind it -/
def LayJ (w : World) (F : Nat → Prop) (p : Nat) (c : PC) (x y : XP) (ok : Bool) (e : Ending) (w' : World) : Prop :=
  ∃ F' x', e = .returned (.bool ok) ∧ Pr w' F' p c x' ∧ (ok = true → x' = y) ∧ St F w F' w'
theorem laid {w w5 : World} {p : Nat} {c : PC} {sent acked sent' acked' : Nat} {mask mask' : BitVec 64} {delivered : Nat} {Vq Ve V : Value} {qs qs5 : List PB} {es : List FB} (h0 : In (fpP p Vq Ve qs es) w) (hm : PrM w5 p c sent acked mask delivered Vq Ve qs es) (hs : St No w (fpL PB.v V qs5) w5) (hl : LsQ w5 V qs5) :
    PrM ((((w5.setCell ⟨p, 3, none⟩ (.int .u64 sent')).setCell ⟨p, 4, none⟩ (.int .u64 acked')).setCell ⟨p, 6, none⟩ (.int .u64 (mask'.toNat : Int))).setCell ⟨p, 5, none⟩ V) p c sent' acked' mask' delivered V Ve qs5 es
    ∧ St (fpP p Vq Ve qs es) w (fpP p V Ve qs5 es) ((((w5.setCell ⟨p, 3, none⟩ (.int .u64 sent')).setCell ⟨p, 4, none⟩ (.int .u64 acked')).setCell ⟨p, 6, none⟩ (.int .u64 (mask'.toNat : Int))).setCell ⟨p, 5, none⟩ V) := by
  have ob := (((hm.ob.set 3 (.int .u64 sent')).set 4 (.int .u64 acked')).set 6 (.int .u64 (mask'.toNat : Int))).set 5 V
  have s8 : St (fpB0 p) w5 (fpB0 p) ((((w5.setCell ⟨p, 3, none⟩ (.int .u64 sent')).setCell ⟨p, 4, none⟩ (.int .u64 acked')).setCell ⟨p, 6, none⟩ (.int .u64 (mask'.toNat : Int))).setCell ⟨p, 5, none⟩ V) :=
    (((St.setCell (F := fpB0 p) _ ⟨p, 3, none⟩ _ rfl).trans (St.setCell (F := fpB0 p) _ ⟨p, 4, none⟩ _ rfl)).trans (St.setCell (F := fpB0 p) _ ⟨p, 6, none⟩ _ rfl)).trans (St.setCell (F := fpB0 p) _ ⟨p, 5, none⟩ _ rfl)
  generalize (((w5.setCell ⟨p, 3, none⟩ (.int .u64 sent')).setCell ⟨p, 4, none⟩ (.int .u64 acked')).setCell ⟨p, 6, none⟩ (.int .u64 (mask'.toNat : Int))).setCell ⟨p, 5, none⟩ V = wX at *
  have hpl := h0 p (.inl rfl)
  have hn : ∀ k, fpL PB.v V qs5 k → w.heap.size ≤ k := hs.news
  have dq : ¬ fpL PB.v V qs5 p := fun e => by have := hn p e; omega
  refine ⟨⟨ob, hl.st s8 (fun k a b => by cases (show k = p from a); exact dq b), hm.lf.st s8 (fun k a b => by cases (show k = p from a); exact hm.df b), dq, hm.df, fun k a b => absurd (h0 k (.inr (.inr b))) (Nat.not_lt.2 (hn k a))⟩, ?_⟩
  refine ⟨s8.os.trans hs.os, s8.tape.trans hs.tape, s8.output.trans hs.output, Nat.le_trans hs.size s8.size, fun k hk hn => (s8.block k (Nat.lt_of_lt_of_le hk hs.size) (fun e => hn (.inl e))).trans (hs.block k hk (fun e => e)), ?_⟩
  rintro k (hk | hk | hk)
  · exact .inl (.inl hk)
  · exact .inr (hn k hk)
  · exact .inl (.inr (.inr hk))
theorem LayJ.no {w w' : World} {F : Nat → Prop} {p : Nat} {c : PC} {x y : XP} (h : Pr w F p c x) (s : St No w No w') : LayJ w F p c x y false (.returned (.bool false)) w' :=
  ⟨F, x, rfl, h.st s (Dj.no _), (fun e => by cases e), s.wide (fun _ e => e.elim) (fun _ e => .inl e)⟩
theorem badB_of {qs : List PB} {L : List (List B8)} (h : qs.map (·.b) = L) : badB qs = false ↔ ∀ b ∈ L, sizedB b.length = true := by
  subst h
  unfold badB
  rw [List.any_eq_false]
  constructor
  · intro h b hb
    obtain ⟨q, hq, rfl⟩ := List.mem_map.1 hb
    have := h q hq
    simpa using this
  · intro h q hq
    rw [h q.b (List.mem_map.2 ⟨q, hq, rfl⟩)]
    decide
set_option maxRecDepth 100000 in
set_option maxHeartbeats 2000000 in
theorem lay_calls (w : World) (F : Nat → Prop) (p : Nat) (c : PC) (x : XP) (h : Pr w F p c x) (hrm : c.room ≤ 16) (v : PV) (L : List (List B8)) (hn : v.qn = L.length) (hL : Lists w v.qa L) (hs1 : v.sent ≤ 18446744073709551615) (hs2 : v.acked ≤ 18446744073709551615) (hs3 : L.length ≤ 4294967296) :
    Calls Try.prog 62 #[.pointer (some ⟨p, 0, none⟩), .agg v.cells] w (LayJ w F p c x (layX x v L) (layB c v L)) := by
  have hsz : v.cells.size = 6 := rfl
  have HP := Lib.hid h
  have HLL := Lib.hid hL
  obtain ⟨Vq, Ve, qs, es, hm, hq, he, rfl⟩ := h
  have HM := Lib.hid hm
  have HE := Lib.hid he
  obtain ⟨b0, b1, b2, b3, b4, b5⟩ := PV.n6 (PV.box (w := w) (v := v))
  have HS := Lib.hid (St.alloc' No w (.cells v.cells 69))
  have HBX := Lib.hid (PV.box (w := w) (v := v))
  obtain ⟨d0, d1, d2, d3, d4, d5, d6, d7, d8, d9, d10, f0, f1, f2, f3, f4, f5, f6, f7, f8, f9, f10⟩ := (hm.st HS.out (Dj.no _)).ob.n11
  have hpl := hm.ob.lt
  have hne1 : p ≠ w.heap.size := by omega
  have hne2 : w.heap.size ≠ p := by omega
  rw [hn] at b2
  have HN := Lib.hid hn
  clear hn
  have HMA := Lib.hid (hm.st HS.out (Dj.no _))
  clear hm hL hq he
  generalize hwA : w.alloc (.cells v.cells 69) = wA at *
  have HWA := Lib.hid hwA
  have wq : IntKind.u64.wrap (L.length : Int) = (L.length : Int) := by rw [wrap_u64]; omega
  by_cases c1 : v.acked ≤ v.sent
  case neg =>
    have HR : Hid (layB c v L = false) := Lib.hid (decide_eq_false (fun e => c1 e.1))
    have c1i : (v.sent : Int) < (v.acked : Int) := by omega
    clear c1
    go_enter Try.func62, Try.ntmps62
    go_wp2_with fail
    go_quiet (fail)
    go_wp2
    go_ret
    rw [HR.out]
    exact LayJ.no HP.out (HS.out.trans (St.drewN No _ _))
  have c1i : decide ((v.sent : Int) < (v.acked : Int)) = false := decide_eq_false (by omega)
  have c1n : decide (v.sent < v.acked) = false := decide_eq_false (by omega)
  by_cases c2 : L.length ≤ c.room
  case neg =>
    have HR : Hid (layB c v L = false) := Lib.hid (decide_eq_false (fun e => c2 e.2.1))
    have c2i : (c.room : Int) < (L.length : Int) := by omega
    clear c1 c2
    go_enter Try.func62, Try.ntmps62
    go_wp2_with fail
    go_quiet (fail)
    go_wp2
    go_ret
    rw [HR.out]
    exact LayJ.no HP.out (HS.out.trans (St.drewN No _ _))
  have c2i : decide ((c.room : Int) < (L.length : Int)) = false := decide_eq_false (by omega)
  have c2n : decide (c.room < L.length) = false := decide_eq_false (by omega)
  have wd : IntKind.u64.wrap ((v.sent : Int) - (v.acked : Int)) = ((v.sent - v.acked : Nat) : Int) := by rw [wrap_u64]; omega
  by_cases c3 : L.length = v.sent - v.acked
  case neg =>
    have HR : Hid (layB c v L = false) := Lib.hid (decide_eq_false (fun e => c3 e.2.2.1))
    have c3i : ((L.length : Int) != ((v.sent - v.acked : Nat) : Int)) = true := by rw [bne_iff_ne]; omega
    clear c1 c2 c3
    go_enter Try.func62, Try.ntmps62
    go_wp2_with fail
    go_quiet (fail)
    go_wp2
    go_ret
    rw [HR.out]
    exact LayJ.no HP.out (HS.out.trans (St.drewN No _ _))
  have c3i : ((L.length : Int) != ((v.sent - v.acked : Nat) : Int)) = false := by rw [bne_eq_false_iff_eq]; omega
  have HC : Hid (v.acked ≤ v.sent ∧ L.length ≤ c.room ∧ L.length = v.sent - v.acked) := Lib.hid ⟨c1, c2, c3⟩
  clear c1 c2 c3
  go_enter Try.func62, Try.ntmps62
  go_wp2_with fail
  go_quiet (fail)
  go_wp2_with fail
  clear d0 d1 d2 d3 d4 d5 d6 d7 d8 d9 d10 f0 f1 f2 f3 f4 f5 f6 f7 f8 f9 f10 wq wd c1i c1n c2i c2n c3i
  go_region_held3 (fun w' => w'.cell? ⟨w.heap.size, 0, none⟩ = some (.int .u64 (v.sent : Int)) ∧ w'.cell? ⟨w.heap.size, 1, none⟩ = some (.int .u64 (v.acked : Int)) ∧ w'.cell? ⟨w.heap.size, 3, none⟩ = some (.int .u64 (v.mask.toNat : Int)) ∧ w'.cell? ⟨w.heap.size, 2, none⟩ = some (.slice v.qa L.length v.qc)) (go_keep)
    (first
      | (go_at_call 50
         refine (copies_calls v.qa v.qc L hs3 _ (HLL.out.st (HS.out.trans (by first | exact (St.drewN No _ _).trans (St.drew No _) | exact St.drew No _ | exact St.drewN No _ _)))).mono ?_
         rintro e w5 ⟨V5, qs5, rfl, hl5, hm5, hs5⟩
         have hs5' : St No wA (fpL PB.v V5 qs5) w5 := by first | exact ((St.drewN No wA _).trans (St.drew No _)).trans hs5 | exact (St.drewN No wA _).trans hs5 | exact (St.drew No wA).trans hs5
         have hbx5 := HBX.out.move (hs5'.block _ HBX.out.lt (fun e => e))
         obtain ⟨x0, x1, x2, x3, x4, x5⟩ := PV.n6 hbx5
         rw [HN.out] at x2
         have hmp5 := HMA.out.st hs5' (Dj.no _)
         obtain ⟨y0, y1, y2, y3, y4, y5, y6, y7, y8, y9, y10, yf0, yf1, yf2, yf3, yf4, yf5, yf6, yf7, yf8, yf9, yf10⟩ := hmp5.ob.n11
         obtain ⟨va5, vc5, rfl, _, _, _, _⟩ := hl5.own.form
         have HL5 := Lib.hid hl5
         have HM5 := Lib.hid hm5
         have HS5 := Lib.hid hs5'
         have HP5 := Lib.hid hmp5
         clear hl5 hm5 hs5 hs5' hbx5 hmp5))
  have HLD := Lib.hid (laid (sent' := v.sent) (acked' := v.acked) (mask' := v.mask) HMA.out.in HP5.out HS5.out HL5.out)
  have HSX : Hid (St (fpB0 p) w5 (fpB0 p) ((((w5.setCell ⟨p, 3, none⟩ (.int .u64 v.sent)).setCell ⟨p, 4, none⟩ (.int .u64 v.acked)).setCell ⟨p, 6, none⟩ (.int .u64 (v.mask.toNat : Int))).setCell ⟨p, 5, none⟩ (.slice va5 qs5.length vc5))) := Lib.hid ((((St.setCell (F := fpB0 p) _ ⟨p, 3, none⟩ _ rfl).trans (St.setCell (F := fpB0 p) _ ⟨p, 4, none⟩ _ rfl)).trans (St.setCell (F := fpB0 p) _ ⟨p, 6, none⟩ _ rfl)).trans (St.setCell (F := fpB0 p) _ ⟨p, 5, none⟩ _ rfl))
  change Exit.then _ _ Exit.normal _ ((((w5.setCell ⟨p, 3, none⟩ (.int .u64 v.sent)).setCell ⟨p, 4, none⟩ (.int .u64 v.acked)).setCell ⟨p, 6, none⟩ (.int .u64 (v.mask.toNat : Int))).setCell ⟨p, 5, none⟩ (.slice va5 qs5.length vc5))
  generalize ((((w5.setCell ⟨p, 3, none⟩ (.int .u64 v.sent)).setCell ⟨p, 4, none⟩ (.int .u64 v.acked)).setCell ⟨p, 6, none⟩ (.int .u64 (v.mask.toNat : Int))).setCell ⟨p, 5, none⟩ (.slice va5 qs5.length vc5)) = wX at *
  clear y0 y1 y2 y3 y4 y5 y6 y7 y8 y9 y10 yf0 yf1 yf2 yf3 yf4 yf5 yf6 yf7 yf8 yf9 yf10 b0 b1 b2 b3 b4 b5
  have HBXX := Lib.hid ((HBX.out.move (HS5.out.block _ HBX.out.lt (fun e => e))).move (HSX.out.block _ (Nat.lt_of_lt_of_le HBX.out.lt HS5.out.size) (fun e => hne2 e)))
  clear x0 x1 x2 x3 x4 x5
  obtain ⟨x0, x1, x2, x3, x4, x5⟩ := PV.n6 HBXX.out
  obtain ⟨y0, y1, y2, y3, y4, y5, y6, y7, y8, y9, y10, yf0, yf1, yf2, yf3, yf4, yf5, yf6, yf7, yf8, yf9, yf10⟩ := HLD.out.1.ob.n11
  have HLQ := Lib.hid HLD.out.1.lq
  have HPR : Hid (∀ wY, St No wX No wY → Pr wY (fpP p (.slice va5 qs5.length vc5) Ve qs5 es) p c (layX x v L) ∧ St (fpP p Vq Ve qs es) w (fpP p (.slice va5 qs5.length vc5) Ve qs5 es) wY) := Lib.hid (fun wY s => ⟨⟨_, _, _, _, HLD.out.1.st s (Dj.no _), HM5.out.symm, HE.out, rfl⟩, ((HS.out.wide (fun _ e => e.elim) (fun _ e => .inl e)).trans HLD.out.2).trans (s.wide (fun _ e => e.elim) (fun _ e => .inl e))⟩)
  have hle := HC.out.1
  cases hb : beyondB v.sent v.acked v.mask with
  | true =>
    have HR : Hid (layB c v L = false) := Lib.hid (decide_eq_false (fun e => by rw [hb] at e; cases e.2.2.2.1))
    go_wp2_with fail
    refine (beyond_calls wX p c v.sent 0 0 0 (.slice none 0 0) (.slice none 0 0) y3 v.acked hle hs1 v.mask).mono ?_
    rintro e w9 ⟨rfl, hdr⟩
    rw [hb]
    go_wp2
    go_ret
    rw [HR.out]
    have h := HPR.out w9 (hdr.st No)
    exact ⟨_, _, rfl, h.1, (fun e => by cases e), h.2⟩
  | false =>
    go_wp2_with fail
    refine (beyond_calls wX p c v.sent 0 0 0 (.slice none 0 0) (.slice none 0 0) y3 v.acked hle hs1 v.mask).mono ?_
    rintro e w9 ⟨rfl, hdr⟩
    rw [hb]
    have HB := Lib.hid hb
    have HDR := Lib.hid (hdr.st No)
    obtain ⟨z0, z1, z2, z3, z4, z5, z6, z7, z8, z9, z10, zf0, zf1, zf2, zf3, zf4, zf5, zf6, zf7, zf8, zf9, zf10⟩ := (HLD.out.1.st HDR.out (Dj.no _)).ob.n11
    clear hb hdr
    go_wp2_with fail
    refine (contains_calls w9 va5 vc5 qs5 (HLQ.out.st HDR.out (Dj.no _)) (by have := congrArg List.length HM5.out; rw [List.length_map] at this; have := HC.out.2.1; omega)).mono ?_
    rintro e w10 ⟨rfl, hs10⟩
    have HR : Hid (layB c v L = !badB qs5) := Lib.hid (by
      have h1 := badB_of HM5.out
      unfold layB
      cases hbb : badB qs5 with
      | true =>
        refine decide_eq_false (fun e => ?_)
        rw [h1.2 e.2.2.2.2] at hbb
        cases hbb
      | false => exact decide_eq_true ⟨HC.out.1, HC.out.2.1, HC.out.2.2, HB.out, h1.1 hbb⟩)
    have h := Lib.hid (HPR.out w10 (HDR.out.trans hs10))
    clear hs10
    generalize badB qs5 = bb at *
    cases bb <;> go_wp2 <;> go_ret <;> rw [HR.out] <;> exact ⟨_, _, rfl, h.out.1, (fun _ => rfl), h.out.2⟩
end Go.Proofs.Ytjepmckofocdnaa
