
/-
  keep: a state's other half kept by a peer.
-/
import Derived.Test.YtjepmckofocdnaaXoLaid
namespace Go.Proofs.Ytjepmckofocdnaa
open Go.RowKit
set_option linter.unusedVariables false
set_option linter.unusedSimpArgs false

def keepX (x : XP) (v : PV) (E : List (Nat × List B8)) : XP := { x with delivered := v.delivered, early := E }
def keepB1 (win dl last : Nat) (f : Nat × List B8) : Bool := decide (dl < f.1 ∧ last < f.1 - dl ∧ f.1 - dl ≤ win ∧ sizedB f.2.length = true)
def keepB (win dl : Nat) : Nat → List (Nat × List B8) → Bool
  | _, [] => true
  | last, f :: fs => keepB1 win dl last f && keepB win dl (f.1 - dl) fs
theorem kept {w w5 : World} {p : Nat} {c : PC} {sent acked : Nat} {mask : BitVec 64} {delivered delivered' : Nat} {Vq Ve V : Value} {qs : List PB} {es es5 : List FB} (h0 : In (fpP p Vq Ve qs es) w) (hm : PrM w5 p c sent acked mask delivered Vq Ve qs es) (hs : St No w (fpL FB.v V es5) w5) (hl : LsF w5 V es5) :
    PrM ((w5.setCell ⟨p, 9, none⟩ (.int .u64 delivered')).setCell ⟨p, 10, none⟩ V) p c sent acked mask delivered' Vq V qs es5
    ∧ St (fpP p Vq Ve qs es) w (fpP p Vq V qs es5) ((w5.setCell ⟨p, 9, none⟩ (.int .u64 delivered')).setCell ⟨p, 10, none⟩ V) := by
  have ob := (hm.ob.set 9 (.int .u64 delivered')).set 10 V
  have s8 : St (fpB0 p) w5 (fpB0 p) ((w5.setCell ⟨p, 9, none⟩ (.int .u64 delivered')).setCell ⟨p, 10, none⟩ V) :=
    (St.setCell (F := fpB0 p) _ ⟨p, 9, none⟩ _ rfl).trans (St.setCell (F := fpB0 p) _ ⟨p, 10, none⟩ _ rfl)
  generalize (w5.setCell ⟨p, 9, none⟩ (.int .u64 delivered')).setCell ⟨p, 10, none⟩ V = wX at *
  have hpl := h0 p (.inl rfl)
  have hn : ∀ k, fpL FB.v V es5 k → w.heap.size ≤ k := hs.news
  have df : ¬ fpL FB.v V es5 p := fun e => by have := hn p e; omega
  refine ⟨⟨ob, hm.lq.st s8 (fun k a b => by cases (show k = p from a); exact hm.dq b), hl.st s8 (fun k a b => by cases (show k = p from a); exact df b), hm.dq, df, fun k a b => absurd (h0 k (.inr (.inl a))) (Nat.not_lt.2 (hn k b))⟩, ?_⟩
  refine ⟨s8.os.trans hs.os, s8.tape.trans hs.tape, s8.output.trans hs.output, Nat.le_trans hs.size s8.size, fun k hk hn => (s8.block k (Nat.lt_of_lt_of_le hk hs.size) (fun e => hn (.inl e))).trans (hs.block k hk (fun e => e)), ?_⟩
  rintro k (hk | hk | hk)
  · exact .inl (.inl hk)
  · exact .inl (.inr (.inl hk))
  · exact .inr (hn k hk)
set_option maxRecDepth 100000 in
set_option maxHeartbeats 2000000 in
theorem keep_calls (w : World) (F : Nat → Prop) (p : Nat) (c : PC) (x : XP) (h : Pr w F p c x) (hwn : c.win ≤ 16) (v : PV) (E : List (Nat × List B8)) (hn : v.en = E.length) (hE : Frs w v.ea E) (hd1 : v.delivered ≤ 18446744073709551615) (hes : ∀ f ∈ E, f.1 ≤ 18446744073709551615) (hel : E.length ≤ 4294967296) :
    Calls Try.prog 63 #[.pointer (some ⟨p, 7, none⟩), .agg v.cells] w (LayJ w F p c x (keepX x v E) (keepB c.win v.delivered 1 E)) := by
  have hsz : v.cells.size = 6 := rfl
  have HP := Lib.hid h
  have HFF := Lib.hid hE
  have HES := Lib.hid hes
  obtain ⟨Vq, Ve, qs, es, hm, hq, he, rfl⟩ := h
  have HM := Lib.hid hm
  have HQ := Lib.hid hq
  obtain ⟨b0, b1, b2, b3, b4, b5⟩ := PV.n6 (PV.box (w := w) (v := v))
  have HS := Lib.hid (St.alloc' No w (.cells v.cells 69))
  have HBX := Lib.hid (PV.box (w := w) (v := v))
  have hpl := hm.ob.lt
  have hne1 : p ≠ w.heap.size := by omega
  have hne2 : w.heap.size ≠ p := by omega
  rw [hn] at b5
  have HN := Lib.hid hn
  have HMA := Lib.hid (hm.st HS.out (Dj.no _))
  clear hm hE hq he hn hes
  generalize hwA : w.alloc (.cells v.cells 69) = wA at *
  have HWA := Lib.hid hwA
  go_enter Try.func63, Try.ntmps63
  go_wp2
  go_loopw [5, 11] (fun l i wr => ∃ k last : Nat, k ≤ E.length ∧ last ≤ 18446744073709551615 ∧ l = .int .u64 last ∧ i = .int .i64 k ∧ Hid (keepB c.win v.delivered 1 E = keepB c.win v.delivered last (E.drop k)) ∧ Hid (St No wA No wr)) (fun _ i _ => E.length - (intOf i).toNat)
  case atStart => exact ⟨0, 1, by omega, by omega, rfl, rfl, Lib.hid (by rw [List.drop_zero]), Lib.hid (St.refl _ _)⟩
  case round =>
    obtain ⟨k, last, hk, hla, rfl, rfl, HK, HSr⟩ := hrel
    have HBR := Lib.hid (HBX.out.move (HSr.out.block _ HBX.out.lt (fun e => e)))
    obtain ⟨x0, x1, x2, x3, x4, x5⟩ := PV.n6 HBR.out
    rw [HN.out] at x5
    have HMR := Lib.hid (HMA.out.st HSr.out (Dj.no _))
    obtain ⟨d0, d1, d2, d3, d4, d5, d6, d7, d8, d9, d10, f0, f1, f2, f3, f4, f5, f6, f7, f8, f9, f10⟩ := HMR.out.ob.n11
    by_cases hlt : k < E.length
    · obtain ⟨y, b, d, hya, hcs, hcx, hbx, hbn, hbl⟩ := ((HFF.out.st HS.out).st HSr.out).get hlt
      have HK2 : Hid (keepB c.win v.delivered 1 E = (keepB1 c.win v.delivered last E[k] && keepB c.win v.delivered ((E[k]).1 - v.delivered) (E.drop (k + 1)))) := Lib.hid (by
        rw [HK.out, List.drop_eq_getElem_cons hlt]; rfl)
      have hsq := HES.out E[k] (List.getElem_mem hlt)
      generalize E[k] = fr at *
      obtain ⟨sq, bs⟩ := fr
      simp only at hcs hcx hbx hbl HK2 hsq
      rw [hya] at x5
      have c0 : wr.cell? (y.add (k * 2)) = some (.int .u64 (sq : Int)) := hcs
      have c1 : wr.cell? ⟨(y.add (k * 2)).block, (y.add (k * 2)).off + 1, none⟩ = some (.slice b bs.length d) := hcx
      have hrl := HBR.out.lt
      have hpr := HMR.out.ob.lt
      have hne3 : wr.heap.size ≠ w.heap.size := by omega
      have hne4 : w.heap.size ≠ wr.heap.size := by omega
      have hne5 : wr.heap.size ≠ p := by omega
      have hne6 : p ≠ wr.heap.size := by omega
      have hszc := fun W => sized_calls b bs.length d W
      have hszq : ∀ n, Calls Try.prog 55 #[.slice b bs.length d] ((wr.alloc (.cells #[.int .u64 (sq : Int), .slice b bs.length d] 133)).drewN n) fun e w'' => e = .returned (.bool (sizedB bs.length)) ∧ ∃ m, w'' = (wr.alloc (.cells #[.int .u64 (sq : Int), .slice b bs.length d] 133)).drewN m := fun n => (hszc _).mono (fun e w'' h => ⟨h.1, n, h.2.symm⟩)
      clear hcs hcx hbx hbn hszc
      by_cases q1 : v.delivered < sq
      case neg =>
        have HR : Hid (keepB c.win v.delivered 1 E = false) := Lib.hid (by rw [HK2.out, show keepB1 c.win v.delivered last (sq, bs) = false from decide_eq_false (fun e => q1 e.1)]; rfl)
        have q1i : (sq : Int) ≤ (v.delivered : Int) := by omega
        clear q1
        go_wp2_with fail
        go_quiet ((go_at_call 55; exact hszq _))
        go_wp2
        go_ret
        rw [HR.out]
        exact LayJ.no HP.out (((HS.out.trans HSr.out).trans (St.alloc' No wr _)).trans (St.drewN No _ _))
      have q1i : decide ((sq : Int) ≤ (v.delivered : Int)) = false := decide_eq_false (by omega)
      have q1n : decide (sq ≤ v.delivered) = false := decide_eq_false (by omega)
      obtain ⟨df, hdf⟩ : ∃ df, df = sq - v.delivered := ⟨_, rfl⟩
      have wd : IntKind.u64.wrap ((sq : Int) - (v.delivered : Int)) = (df : Int) := by rw [wrap_u64]; omega
      have HDF := Lib.hid hdf
      by_cases q2 : last < df
      case neg =>
        have HR : Hid (keepB c.win v.delivered 1 E = false) := Lib.hid (by rw [HK2.out, show keepB1 c.win v.delivered last (sq, bs) = false from decide_eq_false (fun e => q2 (by rw [hdf]; exact e.2.1))]; rfl)
        have q2i : (df : Int) ≤ (last : Int) := by omega
        clear q1 q2 hdf
        go_wp2_with fail
        go_quiet ((go_at_call 55; exact hszq _))
        go_wp2
        go_ret
        rw [HR.out]
        exact LayJ.no HP.out (((HS.out.trans HSr.out).trans (St.alloc' No wr _)).trans (St.drewN No _ _))
      have q2i : decide ((df : Int) ≤ (last : Int)) = false := decide_eq_false (by omega)
      have q2n : decide (df ≤ last) = false := decide_eq_false (by omega)
      by_cases q3 : df ≤ c.win
      case neg =>
        have HR : Hid (keepB c.win v.delivered 1 E = false) := Lib.hid (by rw [HK2.out, show keepB1 c.win v.delivered last (sq, bs) = false from decide_eq_false (fun e => q3 (by rw [hdf]; exact e.2.2.1))]; rfl)
        have q3i : (c.win : Int) < (df : Int) := by omega
        clear q1 q2 q3 hdf
        go_wp2_with fail
        go_quiet ((go_at_call 55; exact hszq _))
        go_wp2
        go_ret
        rw [HR.out]
        exact LayJ.no HP.out (((HS.out.trans HSr.out).trans (St.alloc' No wr _)).trans (St.drewN No _ _))
      have q3i : decide ((c.win : Int) < (df : Int)) = false := decide_eq_false (by omega)
      have q3n : decide (c.win < df) = false := decide_eq_false (by omega)
      have HQ3 := Lib.hid (show v.delivered < sq ∧ last < df ∧ df ≤ c.win from ⟨q1, q2, q3⟩)
      have hdfm : df ≤ 18446744073709551615 := by omega
      cases hb : sizedB bs.length with
      | false =>
        have HR : Hid (keepB c.win v.delivered 1 E = false) := Lib.hid (by rw [HK2.out, show keepB1 c.win v.delivered last (sq, bs) = false from decide_eq_false (fun e => by have e4 : sizedB bs.length = true := e.2.2.2; rw [hb] at e4; cases e4)]; rfl)
        rw [hb] at hszq
        clear q1 q2 q3 hdf hb
        go_wp2_with fail
        go_quiet ((go_at_call 55; exact hszq _))
        go_wp2
        go_ret
        rw [HR.out]
        exact LayJ.no HP.out (((HS.out.trans HSr.out).trans (St.alloc' No wr _)).trans (St.drewN No _ _))
      | true =>
        have HKN : Hid (keepB c.win v.delivered 1 E = keepB c.win v.delivered df (E.drop (k + 1))) := Lib.hid (by
          rw [HK2.out, show keepB1 c.win v.delivered last (sq, bs) = true from decide_eq_true ⟨q1, by rw [← hdf]; exact q2, by rw [← hdf]; exact q3, hb⟩, hdf]; rfl)
        rw [hb] at hszq
        clear q1 q2 q3 hdf hb
        go_wp2_with fail
        go_quiet ((go_at_call 55; exact hszq _))
        go_wp2
        exact ⟨⟨k + 1, df, by omega, by omega, rfl, by go_num, HKN, Lib.hid ((HSr.out.trans (St.alloc' No wr _)).trans (St.drewN No _ _))⟩, by simp [intOf]; omega⟩
    · obtain rfl : k = E.length := by omega
      have HR : Hid (keepB c.win v.delivered 1 E = true) := Lib.hid (by rw [HK.out, List.drop_length]; rfl)
      clear d0 d1 d2 d3 d4 d5 d6 d7 d8 d9 d10 f0 f1 f2 f3 f4 f5 f6 f7 f8 f9 f10
      go_wp2_with fail
      go_region_held3 (fun w' => w'.cell? ⟨w.heap.size, 4, none⟩ = some (.int .u64 (v.delivered : Int)) ∧ w'.cell? ⟨w.heap.size, 5, none⟩ = some (.slice v.ea E.length v.ec)) (go_keep)
        (first
          | (go_at_call 51
             refine (frames_calls v.ea v.ec E hel _ (((HFF.out.st HS.out).st HSr.out).st (by first | exact (St.drewN No _ _).trans (St.drew No _) | exact St.drew No _ | exact St.drewN No _ _))).mono ?_
             rintro e w5 ⟨V5, es5, rfl, hl5, hm5, hs5⟩
             have hs5' : St No wr (fpL FB.v V5 es5) w5 := by first | exact ((St.drewN No wr _).trans (St.drew No _)).trans hs5 | exact (St.drewN No wr _).trans hs5 | exact (St.drew No wr).trans hs5
             have hbx5 := HBR.out.move (hs5'.block _ HBR.out.lt (fun e => e))
             clear x0 x1 x2 x3 x4 x5
             obtain ⟨x0, x1, x2, x3, x4, x5⟩ := PV.n6 hbx5
             rw [HN.out] at x5
             have hmp5 := HMR.out.st hs5' (Dj.no _)
             obtain ⟨y0, y1, y2, y3, y4, y5, y6, y7, y8, y9, y10, yf0, yf1, yf2, yf3, yf4, yf5, yf6, yf7, yf8, yf9, yf10⟩ := hmp5.ob.n11
             obtain ⟨va5, vc5, rfl, _, _, _, _⟩ := hl5.own.form
             have HL5 := Lib.hid hl5
             have HM5 := Lib.hid hm5
             have HS5 := Lib.hid hs5'
             have HP5 := Lib.hid hmp5
             clear hl5 hm5 hs5 hs5' hbx5 hmp5))
      have HLD := Lib.hid (kept (delivered' := v.delivered) HMR.out.in HP5.out HS5.out HL5.out)
      change Exit.then _ _ Exit.normal _ ((w5.setCell ⟨p, 9, none⟩ (.int .u64 v.delivered)).setCell ⟨p, 10, none⟩ (.slice va5 es5.length vc5))
      generalize ((w5.setCell ⟨p, 9, none⟩ (.int .u64 v.delivered)).setCell ⟨p, 10, none⟩ (.slice va5 es5.length vc5)) = wX at *
      go_wp2
      go_ret
      rw [HR.out]
      exact ⟨_, keepX x v E, rfl, ⟨_, _, _, _, HLD.out.1, HQ.out, HM5.out.symm, rfl⟩, (fun _ => rfl), ((HS.out.trans HSr.out).wide (fun _ e => e.elim) (fun _ e => .inl e)).trans HLD.out.2⟩
end Go.Proofs.Ytjepmckofocdnaa
