
/-
  The walk over the statement CodecReads.
-/
import Derived.Test.YtfhoekcmkbeabaaCwReads2
import Derived.Test.YtfhoekcmkbeabaaCwHand
import Derived.Test.YtfhoekcmkbeabaaWWrites
namespace Go.Proofs.Ytfhoekcmkbeabaa
open Go.RowKit
set_option linter.unusedVariables false
set_option linter.unusedSimpArgs false

theorem rb_nil {w0 W : World} {pr pg : Nat} (ho : Ob W pg 77 #[.bool false, .slice none 0 0, .int .i64 0, .int .i64 0]) (h1 : pr < pg) (h3 : w0.heap.size ≤ pr) (st : St No w0 (Nw w0) W) : RBIn w0 W (.pointer none) false pr pg :=
  ⟨⟨⟨[], 0, 0⟩, No, No, fun _ => rfl, .inl ⟨rfl, rfl⟩, ⟨none, 0, ho, Rd.nil _ _, Nat.le_refl _, by omega, fun _ => rfl, (fun k hk => by obtain ⟨x, hx, _⟩ := hk; cases hx), Nat.le_refl _, by simp⟩, by omega, fun h => h, fun h => h, fun h => h, fun _ h => h.elim, Nat.lt_trans h1 ho.lt, h3, by omega, st⟩⟩
theorem rb_full {w0 W : World} {p pg : Nat} {D : Nat → Prop} {va : Option Addr} {vc : Nat} {bs : List B8} (hr : Rh W (.pointer (some ⟨p, 0, none⟩)) true p D ⟨bs, 0⟩) (ho : Ob W pg 77 #[.bool true, .slice va bs.length vc, .int .i64 0, .int .i64 0]) (hb : Bs W va bs) (hl : bs.length ≤ 16777216) (h1 : bs.length ≤ vc) (h2 : vc ≤ 9223372036854775807) (h3 : va = none → vc = 0)
    (hD : ∀ k, D k → k < pg) (hp : p < pg) (hG : ∀ k, fpA va k → p < k ∧ k < pg) (l1 : w0.heap.size ≤ p) (st : St No w0 (Nw w0) W) : RBIn w0 W (.pointer (some ⟨p, 0, none⟩)) true p pg :=
  ⟨⟨⟨bs, 0, 0⟩, D, fpA va, (fun h => by cases h), hr, ⟨va, vc, ho, hb, h1, h2, h3, fun _ h => h, Nat.zero_le _, hl⟩, by omega, (fun h => by have := hD _ h; omega), (fun h => by have := (hG _ h).1; omega), (fun h => by have := (hG _ h).2; omega), (fun k hk => Nat.lt_trans (hD k hk) ho.lt), Nat.lt_trans hp ho.lt, l1, by omega, st⟩⟩
theorem St.then' {G H : Nat → Prop} {w a b : World} (h : St No w G a) (k : St No a H b) : St No w (Nw w) b := h.then k
theorem St.thn {H : Nat → Prop} {w a b : World} (h : St No w (Nw w) a) (k : St No a H b) : St No w (Nw w) b := h.then k
theorem St.thn' {H : Nat → Prop} {w a b : World} (h : St No w (Nw w) a) (k : St (Nw w) a H b) : St No w (Nw w) b :=
  ⟨k.os.trans h.os, k.tape.trans h.tape, k.output.trans h.output, Nat.le_trans h.size k.size, fun i hi hn => (k.block i (Nat.lt_of_lt_of_le hi h.size) (fun h => absurd hi (Nat.not_lt.2 h))).trans (h.block i hi hn), fun i hi => .inr hi⟩
set_option maxRecDepth 100000 in
set_option maxHeartbeats 4000000 in
theorem reads_fit_there (a0 : Option Addr) (c0 : Nat) (bs : List B8) (hb0 : bs.length ≤ 140737488351232) (hle : bs.length ≤ 16777216) (a : Option Addr) (c : Nat) (ts : List Th) (hn : ts.length ≤ 140737488351232) (w : World) (hb : Bs w a0 bs) (hs : StepsIn w a ts) :
    Calls Try.prog 11 #[.slice a0 bs.length c0, .bool false, .slice a ts.length c] w fun e w' => e = .returned (.bool true) ∧ Below w.heap.size w w' := by
  have HB := Lib.hid hb
  have HSI := Lib.hid hs
  have HLE := Lib.hid hle
  clear hb hs hle
  go_enter Try.func11, Try.ntmps11
  go_wp2_with fail
  refine (handed_calls a0 c0 bs hb0 w HB.out).mono ?_
  rintro e w1 ⟨v1, rfl, hh1, hs1⟩
  obtain ⟨a1, c1, rfl, hb1, hn1, hfp1⟩ := hh1.form
  have HH1 := Lib.hid hh1
  have HS1 := Lib.hid hs1
  have HB1 := Lib.hid hb1
  have HA1 : Hid (Bs w1 a0 bs) := Lib.hid (HB.out.st hs1 (Dj.no _))
  have HI1 := Lib.hid hh1.in
  clear hh1 hs1 hb1 hn1 hfp1
  go_wp2_with fail
  refine (newReader_calls a1 c1 bs w1 HB1.out).mono ?_
  rintro e w2 ⟨v, p, D, rfl, hr2, hlo2, hin2, hp2, hs2⟩
  rw [decide_eq_true HLE.out] at hr2
  obtain rfl : v = .pointer (some ⟨p, 0, none⟩) := by rcases hr2 with ⟨h, _⟩ | ⟨_, h, _⟩; cases h; exact h
  rw [if_pos HLE.out]
  have hpl : p < w2.heap.size := by rcases hr2 with ⟨h, _⟩ | ⟨_, _, hrr, _⟩; cases h; obtain ⟨_, _, ho, _⟩ := hrr; exact ho.lt
  have HPL := Lib.hid hpl
  clear hpl
  have HR2 := Lib.hid hr2
  have HS2 := Lib.hid hs2
  have HIN2 := Lib.hid hin2
  have HP2 := Lib.hid hp2
  have HA2 : Hid (Bs w2 a0 bs) := Lib.hid (HA1.out.st hs2 (Dj.no _))
  clear hr2 hs2 hlo2 hin2 hp2
  go_wp2_with fail
  refine (newReading_calls a0 c0 bs hb0 w2 HA2.out).mono ?_
  rintro e w3 ⟨hlt3, ⟨_, V, rfl, ho3, hs3⟩ | ⟨hl, _⟩⟩
  rotate_left
  · exact absurd HLE.out hl
  obtain ⟨va, vc, rfl, hv1, hv2, hv3, hv4⟩ := ho3.form
  have HO3 := Lib.hid ho3
  have HV1 := Lib.hid hv1
  have HV2 := Lib.hid hv2
  have HV3 := Lib.hid hv3
  have HV4 := Lib.hid hv4
  clear ho3 hv1 hv2 hv3 hv4
  have HS3 := Lib.hid hs3
  have HL3 := Lib.hid hlt3
  have hst3 : St No w (Nw w) w3 := (HS1.out.then (HS2.out)).then' HS3.out
  have HST3 := Lib.hid hst3
  have HH3 : Hid (∀ W, St No w3 No W → Hand W a0 bs (.slice a1 bs.length c1) ∧ Bs W a0 bs) := Lib.hid (fun W h => ⟨((HH1.out.st HS2.out (Dj.no _)).st HS3.out (Dj.no _)).st h (Dj.no _), (HA2.out.st HS3.out (Dj.no _)).st h (Dj.no _)⟩)
  clear hs3 hlt3 hst3
  go_wp2_with (first
    | (go_at_call 32; refine (num_calls _ _).mono ?_; rintro e w4 ⟨rfl, rfl⟩)
    | (go_at_call 24; refine (kept_calls _ a0 c0 bs hb0 _ (HH3.out _ (St.alloc' No w3 _)).1 (HH3.out _ (St.alloc' No w3 _)).2).mono ?_; rintro e w5 ⟨rfl, hd5⟩; have hob5 : Ob w5 w3.heap.size 77 #[.bool true, .slice va bs.length vc, .int .i64 0, .int .i64 0] := by { have := heap_alloc_new w3 (.cells #[.bool true, .slice va bs.length vc, .int .i64 0, .int .i64 0] 77); rw [← hd5.heap] at this; exact this }; have HOB5 := Lib.hid hob5; have HD5 := Lib.hid hd5; obtain ⟨k0, k1, k2, k3, f0, f1, f2, f3⟩ := hob5.four; clear hd5 hob5))
  have HST5 : Hid (St No w (Nw w) w5) := Lib.hid (HST3.out.thn ((St.alloc' No w3 _).trans (HD5.out.st No)))
  go_loopw [12] (fun i wr => ∃ k : Nat, k ≤ ts.length ∧ i = .int .i64 k ∧ Hid (RBIn w wr (.pointer (some ⟨p, 0, none⟩)) true p w3.heap.size)) (fun i _ => ts.length - (intOf i).toNat)
  case atStart => exact ⟨0, by omega, rfl, Lib.hid (rb_full (((HR2.out.st HS3.out (fun h => h) (Dj.no _)).st (St.alloc' No w3 _) (fun h => h) (Dj.no _)).st (HD5.out.st No) (fun h => h) (Dj.no _)) HOB5.out ((HO3.out.bs.st (St.alloc' No w3 _) (Dj.no _)).st (HD5.out.st No) (Dj.no _)) HLE.out HV1.out (by have := HV2.out; unfold maxLen at this; omega) (fun h => (HV4.out h).2) (fun k hk => Nat.lt_trans (HIN2.out k hk) HL3.out) (Nat.lt_trans HPL.out HL3.out) (fun k hk => ⟨Nat.lt_of_lt_of_le HPL.out ((HS3.out.new k ((HV3.out k).2 hk)).elim (fun h => h.elim) id), HO3.out.in k ((HV3.out k).2 hk)⟩) (Nat.le_trans HS1.out.size HP2.out) HST5.out)⟩
  case round =>
    obtain ⟨k, hk, rfl, HBI⟩ := hrel
    by_cases hlt : k < ts.length
    · obtain ⟨t, ht⟩ : ∃ t, ts[k]? = some t := ⟨_, List.getElem?_eq_getElem hlt⟩
      obtain ⟨b⟩ := HBI.out
      obtain ⟨x, rfl, hc, hok⟩ := (HSI.out.st b.st) k t ht
      have HRC := Lib.hid (reads_calls t w wr (.pointer (some ⟨p, 0, none⟩)) true p w3.heap.size HBI.out)
      clear hok ht b
      obtain ⟨kind, n, i, f, ta, tc, tb⟩ := t
      have c0 : wr.cell? (x.add (k * 5)) = some (.int .i64 kind) := hc 0 _ rfl
      have c1 : wr.cell? ⟨(x.add (k * 5)).block, (x.add (k * 5)).off + 1, none⟩ = some (.int .u64 (n.toNat : Int)) := hc 1 _ rfl
      have c2 : wr.cell? ⟨(x.add (k * 5)).block, (x.add (k * 5)).off + 2, none⟩ = some (.int .i64 i) := hc 2 _ rfl
      have c3 : wr.cell? ⟨(x.add (k * 5)).block, (x.add (k * 5)).off + 3, none⟩ = some (.bool f) := hc 3 _ rfl
      have c4 : wr.cell? ⟨(x.add (k * 5)).block, (x.add (k * 5)).off + 4, none⟩ = some (.slice ta tb.length tc) := hc 4 _ rfl
      simp only [Th.cells] at HRC
      clear hc
      go_wp2_with (go_at_call 46; refine HRC.out.mono ?_; rintro e w6 ⟨rfl, hb6⟩; have HB6 := Lib.hid hb6; clear hb6)
      go_roundw
      case rel => exact ⟨k + 1, by omega, by go_num, HB6⟩
      case measure => simp [intOf]; omega
    · obtain rfl : k = ts.length := by omega
      go_wp2
      go_ret
      obtain ⟨b⟩ := HBI.out
      exact ⟨rfl, b.st.below⟩
set_option maxRecDepth 100000 in
set_option maxHeartbeats 4000000 in
theorem reads_fit_absent (a0 : Option Addr) (c0 : Nat) (bs : List B8) (hb0 : bs.length ≤ 140737488351232) (hle : bs.length ≤ 16777216) (a : Option Addr) (c : Nat) (ts : List Th) (hn : ts.length ≤ 140737488351232) (w : World) (hb : Bs w a0 bs) (hs : StepsIn w a ts) :
    Calls Try.prog 11 #[.slice a0 bs.length c0, .bool true, .slice a ts.length c] w fun e w' => e = .returned (.bool true) ∧ Below w.heap.size w w' := by
  have HB := Lib.hid hb
  have HSI := Lib.hid hs
  have HLE := Lib.hid hle
  clear hb hs hle
  go_enter Try.func11, Try.ntmps11
  go_wp2_with fail
  refine (handed_calls a0 c0 bs hb0 w HB.out).mono ?_
  rintro e w1 ⟨v1, rfl, hh1, hs1⟩
  obtain ⟨a1, c1, rfl, hb1, hn1, hfp1⟩ := hh1.form
  have HH1 := Lib.hid hh1
  have HS1 := Lib.hid hs1
  have HB1 := Lib.hid hb1
  have HA1 : Hid (Bs w1 a0 bs) := Lib.hid (HB.out.st hs1 (Dj.no _))
  have HI1 := Lib.hid hh1.in
  clear hh1 hs1 hb1 hn1 hfp1
  go_wp2_with fail
  refine (newReader_calls a1 c1 bs w1 HB1.out).mono ?_
  rintro e w2 ⟨v, p, D, rfl, hr2, hlo2, hin2, hp2, hs2⟩
  rw [decide_eq_true HLE.out] at hr2
  obtain rfl : v = .pointer (some ⟨p, 0, none⟩) := by rcases hr2 with ⟨h, _⟩ | ⟨_, h, _⟩; cases h; exact h
  rw [if_pos HLE.out]
  have hpl : p < w2.heap.size := by rcases hr2 with ⟨h, _⟩ | ⟨_, _, hrr, _⟩; cases h; obtain ⟨_, _, ho, _⟩ := hrr; exact ho.lt
  have HPL := Lib.hid hpl
  clear hpl
  have HR2 := Lib.hid hr2
  have HS2 := Lib.hid hs2
  have HIN2 := Lib.hid hin2
  have HP2 := Lib.hid hp2
  have HA2 : Hid (Bs w2 a0 bs) := Lib.hid (HA1.out.st hs2 (Dj.no _))
  clear hr2 hs2 hlo2 hin2 hp2
  go_wp2_with fail
  refine (newReading_calls a0 c0 bs hb0 w2 HA2.out).mono ?_
  rintro e w3 ⟨hlt3, ⟨_, V, rfl, ho3, hs3⟩ | ⟨hl, _⟩⟩
  rotate_left
  · exact absurd HLE.out hl
  obtain ⟨va, vc, rfl, hv1, hv2, hv3, hv4⟩ := ho3.form
  have HO3 := Lib.hid ho3
  have HV1 := Lib.hid hv1
  have HV2 := Lib.hid hv2
  have HV3 := Lib.hid hv3
  have HV4 := Lib.hid hv4
  clear ho3 hv1 hv2 hv3 hv4
  have HS3 := Lib.hid hs3
  have HL3 := Lib.hid hlt3
  have hst3 : St No w (Nw w) w3 := (HS1.out.then (HS2.out)).then' HS3.out
  have HST3 := Lib.hid hst3
  have HH3 : Hid (∀ W, St No w3 No W → Hand W a0 bs (.slice a1 bs.length c1) ∧ Bs W a0 bs) := Lib.hid (fun W h => ⟨((HH1.out.st HS2.out (Dj.no _)).st HS3.out (Dj.no _)).st h (Dj.no _), (HA2.out.st HS3.out (Dj.no _)).st h (Dj.no _)⟩)
  clear hs3 hlt3 hst3
  go_wp2_with (first
    | (go_at_call 32; refine (num_calls _ _).mono ?_; rintro e w4 ⟨rfl, rfl⟩)
    | (go_at_call 24; refine (kept_calls _ a0 c0 bs hb0 _ (HH3.out _ (St.alloc' No w3 _)).1 (HH3.out _ (St.alloc' No w3 _)).2).mono ?_; rintro e w5 ⟨rfl, hd5⟩; have hob5 : Ob w5 w3.heap.size 77 #[.bool true, .slice va bs.length vc, .int .i64 0, .int .i64 0] := by { have := heap_alloc_new w3 (.cells #[.bool true, .slice va bs.length vc, .int .i64 0, .int .i64 0] 77); rw [← hd5.heap] at this; exact this }; have HOB5 := Lib.hid hob5; have HD5 := Lib.hid hd5; obtain ⟨k0, k1, k2, k3, f0, f1, f2, f3⟩ := hob5.four; clear hd5 hob5))
  have HST5 : Hid (St No w (Nw w) w5) := Lib.hid (HST3.out.thn ((St.alloc' No w3 _).trans (HD5.out.st No)))
  go_loopw [12] (fun i wr => ∃ k : Nat, k ≤ ts.length ∧ i = .int .i64 k ∧ Hid (RBIn w wr (.pointer none) false w2.heap.size w3.heap.size)) (fun i _ => ts.length - (intOf i).toNat)
  case atStart => exact ⟨0, by omega, rfl, Lib.hid (rb_nil ((((HOB5.out.set 0 _).set 1 _).set 2 _).set 3 _) HL3.out (Nat.le_trans HS1.out.size HS2.out.size) (HST5.out.thn' ((((St.setCell (F := Nw w) w5 ⟨w3.heap.size, 0, none⟩ _ HST3.out.size).trans (St.setCell _ ⟨w3.heap.size, 1, none⟩ _ HST3.out.size)).trans (St.setCell _ ⟨w3.heap.size, 2, none⟩ _ HST3.out.size)).trans (St.setCell _ ⟨w3.heap.size, 3, none⟩ _ HST3.out.size))))⟩
  case round =>
    obtain ⟨k, hk, rfl, HBI⟩ := hrel
    by_cases hlt : k < ts.length
    · obtain ⟨t, ht⟩ : ∃ t, ts[k]? = some t := ⟨_, List.getElem?_eq_getElem hlt⟩
      obtain ⟨b⟩ := HBI.out
      obtain ⟨x, rfl, hc, hok⟩ := (HSI.out.st b.st) k t ht
      have HRC := Lib.hid (reads_calls t w wr (.pointer none) false w2.heap.size w3.heap.size HBI.out)
      clear hok ht b
      obtain ⟨kind, n, i, f, ta, tc, tb⟩ := t
      have c0 : wr.cell? (x.add (k * 5)) = some (.int .i64 kind) := hc 0 _ rfl
      have c1 : wr.cell? ⟨(x.add (k * 5)).block, (x.add (k * 5)).off + 1, none⟩ = some (.int .u64 (n.toNat : Int)) := hc 1 _ rfl
      have c2 : wr.cell? ⟨(x.add (k * 5)).block, (x.add (k * 5)).off + 2, none⟩ = some (.int .i64 i) := hc 2 _ rfl
      have c3 : wr.cell? ⟨(x.add (k * 5)).block, (x.add (k * 5)).off + 3, none⟩ = some (.bool f) := hc 3 _ rfl
      have c4 : wr.cell? ⟨(x.add (k * 5)).block, (x.add (k * 5)).off + 4, none⟩ = some (.slice ta tb.length tc) := hc 4 _ rfl
      simp only [Th.cells] at HRC
      clear hc
      go_wp2_with (go_at_call 46; refine HRC.out.mono ?_; rintro e w6 ⟨rfl, hb6⟩; have HB6 := Lib.hid hb6; clear hb6)
      go_roundw
      case rel => exact ⟨k + 1, by omega, by go_num, HB6⟩
      case measure => simp [intOf]; omega
    · obtain rfl : k = ts.length := by omega
      go_wp2
      go_ret
      obtain ⟨b⟩ := HBI.out
      exact ⟨rfl, b.st.below⟩
set_option maxRecDepth 100000 in
set_option maxHeartbeats 4000000 in
theorem reads_big_there (a0 : Option Addr) (c0 : Nat) (bs : List B8) (hb0 : bs.length ≤ 140737488351232) (hle : ¬ bs.length ≤ 16777216) (a : Option Addr) (c : Nat) (ts : List Th) (hn : ts.length ≤ 140737488351232) (w : World) (hb : Bs w a0 bs) (hs : StepsIn w a ts) :
    Calls Try.prog 11 #[.slice a0 bs.length c0, .bool false, .slice a ts.length c] w fun e w' => e = .returned (.bool true) ∧ Below w.heap.size w w' := by
  have HB := Lib.hid hb
  have HSI := Lib.hid hs
  have HLE := Lib.hid hle
  clear hb hs hle
  go_enter Try.func11, Try.ntmps11
  go_wp2_with fail
  refine (handed_calls a0 c0 bs hb0 w HB.out).mono ?_
  rintro e w1 ⟨v1, rfl, hh1, hs1⟩
  obtain ⟨a1, c1, rfl, hb1, hn1, hfp1⟩ := hh1.form
  have HH1 := Lib.hid hh1
  have HS1 := Lib.hid hs1
  have HB1 := Lib.hid hb1
  have HA1 : Hid (Bs w1 a0 bs) := Lib.hid (HB.out.st hs1 (Dj.no _))
  have HI1 := Lib.hid hh1.in
  clear hh1 hs1 hb1 hn1 hfp1
  go_wp2_with fail
  refine (newReader_calls a1 c1 bs w1 HB1.out).mono ?_
  rintro e w2 ⟨v, p, D, rfl, hr2, hlo2, hin2, hp2, hs2⟩
  rw [decide_eq_false HLE.out] at hr2
  obtain rfl : v = .pointer none := by rcases hr2 with ⟨_, h⟩ | ⟨h, _⟩; exact h; cases h
  rw [if_neg HLE.out]
  have HR2 := Lib.hid hr2
  have HS2 := Lib.hid hs2
  have HIN2 := Lib.hid hin2
  have HP2 := Lib.hid hp2
  have HA2 : Hid (Bs w2 a0 bs) := Lib.hid (HA1.out.st hs2 (Dj.no _))
  clear hr2 hs2 hlo2 hin2 hp2
  go_wp2_with fail
  refine (newReading_calls a0 c0 bs hb0 w2 HA2.out).mono ?_
  rintro e w3 ⟨hlt3, ⟨hl, _⟩ | ⟨_, rfl, hs3⟩⟩
  · exact absurd hl HLE.out
  have HS3 := Lib.hid hs3
  have HL3 := Lib.hid hlt3
  have hst3 : St No w (Nw w) w3 := (HS1.out.then (HS2.out)).then' HS3.out
  have HST3 := Lib.hid hst3
  have HH3 : Hid (∀ W, St No w3 No W → Hand W a0 bs (.slice a1 bs.length c1) ∧ Bs W a0 bs) := Lib.hid (fun W h => ⟨((HH1.out.st HS2.out (Dj.no _)).st HS3.out (Dj.no _)).st h (Dj.no _), (HA2.out.st HS3.out (Dj.no _)).st h (Dj.no _)⟩)
  clear hs3 hlt3 hst3
  go_wp2_with (first
    | (go_at_call 32; refine (num_calls _ _).mono ?_; rintro e w4 ⟨rfl, rfl⟩)
    | (go_at_call 24; refine (kept_calls _ a0 c0 bs hb0 _ (HH3.out _ (St.alloc' No w3 _)).1 (HH3.out _ (St.alloc' No w3 _)).2).mono ?_; rintro e w5 ⟨rfl, hd5⟩; have hob5 : Ob w5 w3.heap.size 77 #[.bool false, .slice none 0 0, .int .i64 0, .int .i64 0] := by { have := heap_alloc_new w3 (.cells #[.bool false, .slice none 0 0, .int .i64 0, .int .i64 0] 77); rw [← hd5.heap] at this; exact this }; have HOB5 := Lib.hid hob5; have HD5 := Lib.hid hd5; obtain ⟨k0, k1, k2, k3, f0, f1, f2, f3⟩ := hob5.four; clear hd5 hob5))
  have HST5 : Hid (St No w (Nw w) w5) := Lib.hid (HST3.out.thn ((St.alloc' No w3 _).trans (HD5.out.st No)))
  go_loopw [12] (fun i wr => ∃ k : Nat, k ≤ ts.length ∧ i = .int .i64 k ∧ Hid (RBIn w wr (.pointer none) false w2.heap.size w3.heap.size)) (fun i _ => ts.length - (intOf i).toNat)
  case atStart => exact ⟨0, by omega, rfl, Lib.hid (rb_nil HOB5.out HL3.out (Nat.le_trans HS1.out.size HS2.out.size) HST5.out)⟩
  case round =>
    obtain ⟨k, hk, rfl, HBI⟩ := hrel
    by_cases hlt : k < ts.length
    · obtain ⟨t, ht⟩ : ∃ t, ts[k]? = some t := ⟨_, List.getElem?_eq_getElem hlt⟩
      obtain ⟨b⟩ := HBI.out
      obtain ⟨x, rfl, hc, hok⟩ := (HSI.out.st b.st) k t ht
      have HRC := Lib.hid (reads_calls t w wr (.pointer none) false w2.heap.size w3.heap.size HBI.out)
      clear hok ht b
      obtain ⟨kind, n, i, f, ta, tc, tb⟩ := t
      have c0 : wr.cell? (x.add (k * 5)) = some (.int .i64 kind) := hc 0 _ rfl
      have c1 : wr.cell? ⟨(x.add (k * 5)).block, (x.add (k * 5)).off + 1, none⟩ = some (.int .u64 (n.toNat : Int)) := hc 1 _ rfl
      have c2 : wr.cell? ⟨(x.add (k * 5)).block, (x.add (k * 5)).off + 2, none⟩ = some (.int .i64 i) := hc 2 _ rfl
      have c3 : wr.cell? ⟨(x.add (k * 5)).block, (x.add (k * 5)).off + 3, none⟩ = some (.bool f) := hc 3 _ rfl
      have c4 : wr.cell? ⟨(x.add (k * 5)).block, (x.add (k * 5)).off + 4, none⟩ = some (.slice ta tb.length tc) := hc 4 _ rfl
      simp only [Th.cells] at HRC
      clear hc
      go_wp2_with (go_at_call 46; refine HRC.out.mono ?_; rintro e w6 ⟨rfl, hb6⟩; have HB6 := Lib.hid hb6; clear hb6)
      go_roundw
      case rel => exact ⟨k + 1, by omega, by go_num, HB6⟩
      case measure => simp [intOf]; omega
    · obtain rfl : k = ts.length := by omega
      go_wp2
      go_ret
      obtain ⟨b⟩ := HBI.out
      exact ⟨rfl, b.st.below⟩
set_option maxRecDepth 100000 in
set_option maxHeartbeats 4000000 in
theorem reads_big_absent (a0 : Option Addr) (c0 : Nat) (bs : List B8) (hb0 : bs.length ≤ 140737488351232) (hle : ¬ bs.length ≤ 16777216) (a : Option Addr) (c : Nat) (ts : List Th) (hn : ts.length ≤ 140737488351232) (w : World) (hb : Bs w a0 bs) (hs : StepsIn w a ts) :
    Calls Try.prog 11 #[.slice a0 bs.length c0, .bool true, .slice a ts.length c] w fun e w' => e = .returned (.bool true) ∧ Below w.heap.size w w' := by
  have HB := Lib.hid hb
  have HSI := Lib.hid hs
  have HLE := Lib.hid hle
  clear hb hs hle
  go_enter Try.func11, Try.ntmps11
  go_wp2_with fail
  refine (handed_calls a0 c0 bs hb0 w HB.out).mono ?_
  rintro e w1 ⟨v1, rfl, hh1, hs1⟩
  obtain ⟨a1, c1, rfl, hb1, hn1, hfp1⟩ := hh1.form
  have HH1 := Lib.hid hh1
  have HS1 := Lib.hid hs1
  have HB1 := Lib.hid hb1
  have HA1 : Hid (Bs w1 a0 bs) := Lib.hid (HB.out.st hs1 (Dj.no _))
  have HI1 := Lib.hid hh1.in
  clear hh1 hs1 hb1 hn1 hfp1
  go_wp2_with fail
  refine (newReader_calls a1 c1 bs w1 HB1.out).mono ?_
  rintro e w2 ⟨v, p, D, rfl, hr2, hlo2, hin2, hp2, hs2⟩
  rw [decide_eq_false HLE.out] at hr2
  obtain rfl : v = .pointer none := by rcases hr2 with ⟨_, h⟩ | ⟨h, _⟩; exact h; cases h
  rw [if_neg HLE.out]
  have HR2 := Lib.hid hr2
  have HS2 := Lib.hid hs2
  have HIN2 := Lib.hid hin2
  have HP2 := Lib.hid hp2
  have HA2 : Hid (Bs w2 a0 bs) := Lib.hid (HA1.out.st hs2 (Dj.no _))
  clear hr2 hs2 hlo2 hin2 hp2
  go_wp2_with fail
  refine (newReading_calls a0 c0 bs hb0 w2 HA2.out).mono ?_
  rintro e w3 ⟨hlt3, ⟨hl, _⟩ | ⟨_, rfl, hs3⟩⟩
  · exact absurd hl HLE.out
  have HS3 := Lib.hid hs3
  have HL3 := Lib.hid hlt3
  have hst3 : St No w (Nw w) w3 := (HS1.out.then (HS2.out)).then' HS3.out
  have HST3 := Lib.hid hst3
  have HH3 : Hid (∀ W, St No w3 No W → Hand W a0 bs (.slice a1 bs.length c1) ∧ Bs W a0 bs) := Lib.hid (fun W h => ⟨((HH1.out.st HS2.out (Dj.no _)).st HS3.out (Dj.no _)).st h (Dj.no _), (HA2.out.st HS3.out (Dj.no _)).st h (Dj.no _)⟩)
  clear hs3 hlt3 hst3
  go_wp2_with (first
    | (go_at_call 32; refine (num_calls _ _).mono ?_; rintro e w4 ⟨rfl, rfl⟩)
    | (go_at_call 24; refine (kept_calls _ a0 c0 bs hb0 _ (HH3.out _ (St.alloc' No w3 _)).1 (HH3.out _ (St.alloc' No w3 _)).2).mono ?_; rintro e w5 ⟨rfl, hd5⟩; have hob5 : Ob w5 w3.heap.size 77 #[.bool false, .slice none 0 0, .int .i64 0, .int .i64 0] := by { have := heap_alloc_new w3 (.cells #[.bool false, .slice none 0 0, .int .i64 0, .int .i64 0] 77); rw [← hd5.heap] at this; exact this }; have HOB5 := Lib.hid hob5; have HD5 := Lib.hid hd5; obtain ⟨k0, k1, k2, k3, f0, f1, f2, f3⟩ := hob5.four; clear hd5 hob5))
  have HST5 : Hid (St No w (Nw w) w5) := Lib.hid (HST3.out.thn ((St.alloc' No w3 _).trans (HD5.out.st No)))
  go_loopw [12] (fun i wr => ∃ k : Nat, k ≤ ts.length ∧ i = .int .i64 k ∧ Hid (RBIn w wr (.pointer none) false w2.heap.size w3.heap.size)) (fun i _ => ts.length - (intOf i).toNat)
  case atStart => exact ⟨0, by omega, rfl, Lib.hid (rb_nil ((((HOB5.out.set 0 _).set 1 _).set 2 _).set 3 _) HL3.out (Nat.le_trans HS1.out.size HS2.out.size) (HST5.out.thn' ((((St.setCell (F := Nw w) w5 ⟨w3.heap.size, 0, none⟩ _ HST3.out.size).trans (St.setCell _ ⟨w3.heap.size, 1, none⟩ _ HST3.out.size)).trans (St.setCell _ ⟨w3.heap.size, 2, none⟩ _ HST3.out.size)).trans (St.setCell _ ⟨w3.heap.size, 3, none⟩ _ HST3.out.size))))⟩
  case round =>
    obtain ⟨k, hk, rfl, HBI⟩ := hrel
    by_cases hlt : k < ts.length
    · obtain ⟨t, ht⟩ : ∃ t, ts[k]? = some t := ⟨_, List.getElem?_eq_getElem hlt⟩
      obtain ⟨b⟩ := HBI.out
      obtain ⟨x, rfl, hc, hok⟩ := (HSI.out.st b.st) k t ht
      have HRC := Lib.hid (reads_calls t w wr (.pointer none) false w2.heap.size w3.heap.size HBI.out)
      clear hok ht b
      obtain ⟨kind, n, i, f, ta, tc, tb⟩ := t
      have c0 : wr.cell? (x.add (k * 5)) = some (.int .i64 kind) := hc 0 _ rfl
      have c1 : wr.cell? ⟨(x.add (k * 5)).block, (x.add (k * 5)).off + 1, none⟩ = some (.int .u64 (n.toNat : Int)) := hc 1 _ rfl
      have c2 : wr.cell? ⟨(x.add (k * 5)).block, (x.add (k * 5)).off + 2, none⟩ = some (.int .i64 i) := hc 2 _ rfl
      have c3 : wr.cell? ⟨(x.add (k * 5)).block, (x.add (k * 5)).off + 3, none⟩ = some (.bool f) := hc 3 _ rfl
      have c4 : wr.cell? ⟨(x.add (k * 5)).block, (x.add (k * 5)).off + 4, none⟩ = some (.slice ta tb.length tc) := hc 4 _ rfl
      simp only [Th.cells] at HRC
      clear hc
      go_wp2_with (go_at_call 46; refine HRC.out.mono ?_; rintro e w6 ⟨rfl, hb6⟩; have HB6 := Lib.hid hb6; clear hb6)
      go_roundw
      case rel => exact ⟨k + 1, by omega, by go_num, HB6⟩
      case measure => simp [intOf]; omega
    · obtain rfl : k = ts.length := by omega
      go_wp2
      go_ret
      obtain ⟨b⟩ := HBI.out
      exact ⟨rfl, b.st.below⟩
theorem reads_walk (a0 : Option Addr) (c0 : Nat) (bs : List B8) (hb0 : bs.length ≤ 140737488351232) (absent : Bool) (a : Option Addr) (c : Nat) (ts : List Th) (hn : ts.length ≤ 140737488351232) (w : World) (hb : Bs w a0 bs) (hs : StepsIn w a ts) :
    Calls Try.prog 11 #[.slice a0 bs.length c0, .bool absent, .slice a ts.length c] w fun e w' => e = .returned (.bool true) ∧ Below w.heap.size w w' := by
  by_cases hle : bs.length ≤ 16777216
  · cases absent
    · exact reads_fit_there a0 c0 bs hb0 hle a c ts hn w hb hs
    · exact reads_fit_absent a0 c0 bs hb0 hle a c ts hn w hb hs
  · cases absent
    · exact reads_big_there a0 c0 bs hb0 hle a c ts hn w hb hs
    · exact reads_big_absent a0 c0 bs hb0 hle a c ts hn w hb hs
end Go.Proofs.Ytfhoekcmkbeabaa
