
/-
  The walk over the statement CodecWrites.
-/
import Derived.Test.YtfhoekcmkbeabaaCwAsked
namespace Go.Proofs.Ytfhoekcmkbeabaa
open Go.RowKit
set_option linter.unusedVariables false
set_option linter.unusedSimpArgs false

/-- a list of steps that can be read -/
def StepsIn (w : World) (a : Option Addr) (ts : List Th) : Prop :=
  ∀ i t, ts[i]? = some t → ∃ x, a = some x ∧ (∀ j v, t.cells[j]? = some v → w.cell? ((x.add (i * 5)).add j) = some v) ∧ t.ok w
theorem StepsIn.st {w w' : World} {a : Option Addr} {ts : List Th} {G : Nat → Prop} (h : StepsIn w a ts) (s : St No w G w') : StepsIn w' a ts := by
  intro i t ht
  obtain ⟨x, ha, hc, hok⟩ := h i t ht
  exact ⟨x, ha, fun j v hv => (World.cell?_of_block (s.block _ (World.block_lt_of_cell? w _ (hc j v hv)) (fun h => h))).trans (hc j v hv), hok.st s (.inr (Dj.no _))⟩
theorem Bs.apart {w : World} {a : Option Addr} {bs : List B8} {F : Nat → Prop} (h : Bs w a bs) (hF : Lo w.heap.size F) : Apart F a bs := by
  cases bs with
  | nil => exact .inl rfl
  | cons b bs =>
    obtain ⟨x, rfl, hx⟩ := h.at 0 (by simp)
    have hl := World.block_lt_of_cell? w _ hx
    rw [addr_block] at hl
    refine .inr ?_
    rintro k hk ⟨y, hy, rfl⟩
    cases hy
    exact absurd (hF _ hk) (Nat.not_le.2 hl)
theorem putT_ok {th : Bool} {s : WS} (h : s.ok) (bs : List B8) : (putT th s bs).ok := by
  unfold putT; split
  · exact WS.put_ok h bs
  · exact h
/-- both writers, of one state, apart -/
structure Both (w0 : World) (wr : World) (v : Value) (p : Nat) (th : Bool) where
  s : WS
  F : Nat → Prop
  G : Nat → Prop
  ok : s.ok
  none : th = false → s.out = []
  wh : Wh wr F v th s
  rw : Rw wr G p th s
  dj : Dj F G
  lf : Lo w0.heap.size F
  lg : Lo w0.heap.size G
  st : St No w0 (Nw w0) wr
def BothIn (w0 wr : World) (v : Value) (p : Nat) (th : Bool) : Prop := Nonempty (Both w0 wr v p th)
theorem BothIn.st {w0 wr w' : World} {v : Value} {p : Nat} {th : Bool} {G : Nat → Prop} (h : BothIn w0 wr v p th) (t : St No wr G w') : BothIn w0 w' v p th := by
  obtain ⟨b⟩ := h
  exact ⟨⟨b.s, b.F, b.G, b.ok, b.none, b.wh.st t (Dj.no _), b.rw.st t (Dj.no _), b.dj, b.lf, b.lg, b.st.then (t.drop (fun k hk => .inl hk) |>.wide (fun _ h => h) (fun k h => .inr h))⟩⟩
theorem both_next {w w3 w4 w5 : World} {v : Value} {p : Nat} {th : Bool} {o : Obj} {bs : List B8} {F' G' : Nat → Prop} (b : Both w w3 v p th) (s4 : St b.G (w3.alloc o) G' w4) (hr : Rw w4 G' p th (putT th b.s bs))
    (hw : Wh w5 F' v th (putT th b.s bs)) (s5 : St b.F w4 F' w5) : BothIn w w5 v p th := by
  have hF : In b.F (w3.alloc o) := b.wh.in.st (St.alloc' No w3 o)
  have hF4 : Dj b.F G' := (Dj.st b.dj.symm hF s4).symm
  have h5 : Dj F' G' := Dj.st hF4 hr.in s5
  refine ⟨⟨putT th b.s bs, F', G', putT_ok b.ok bs, ?_, hw, hr.st s5 hF4, h5, b.lf.st ?_ s5, b.lg.st ?_ s4, ?_⟩⟩
  · intro h; subst h; unfold putT; exact b.none rfl
  · exact Nat.le_trans b.st.size (Nat.le_trans (by simp) s4.size)
  · exact Nat.le_trans b.st.size (by simp)
  · exact b.st.trans (((St.alloc' (Nw w) w3 o).trans (s4.wide (fun k hk => b.lg k hk) (fun k hk => .inl hk))).trans (s5.wide (fun k hk => b.lf k hk) (fun k hk => .inl hk)))
theorem both_start (w W : World) (l0 : Int) (s0 : WS) (h0 : s0 = ⟨l0, [], 0⟩) (hok : s0.ok) (hW : St No w No W) :
    BothIn w (W.alloc (.cells #[.bool false, .int .i64 l0, .slice none 0 0, .int .i64 0] 44)) (.pointer none) W.heap.size false := by
  subst h0
  exact ⟨⟨⟨l0, [], 0⟩, No, fun k => k = W.heap.size ∨ fpV (.slice none 0 0) k, hok, fun _ => rfl, .inl ⟨rfl, rfl, rfl⟩, ⟨_, Ob.alloc W _ _, Own.nil _ _ _, (by simp [fpV, Value.ownBlock]), fun k => Iff.rfl⟩, Dj.no _, (fun k hk => hk.elim),
    (by rintro k (rfl | hk); exact hW.size; simp [fpV, Value.ownBlock] at hk), hW.then (St.alloc' No W _)⟩⟩
theorem both_start2 (w w1 W : World) (F : Nat → Prop) (p : Nat) (l0 : Int) (s0 : WS) (h0 : s0 = ⟨l0, [], 0⟩) (hok : s0.ok) (hw : Wr w1 F p s0) (h1 : St No w F w1) (hW : St No w1 No W) :
    BothIn w (W.alloc (.cells #[.bool true, .int .i64 l0, .slice none 0 0, .int .i64 0] 44)) (.pointer (some ⟨p, 0, none⟩)) W.heap.size true := by
  subst h0
  refine ⟨⟨⟨l0, [], 0⟩, F, fun k => k = W.heap.size ∨ fpV (.slice none 0 0) k, hok, fun _ => rfl, .inr ⟨rfl, hok, p, rfl, (hw.st hW (Dj.no _)).st (St.alloc' No W _) (Dj.no _)⟩, ⟨_, Ob.alloc W _ _, Own.nil _ _ _, (by simp [fpV, Value.ownBlock]), fun k => Iff.rfl⟩, ?_, (fun k hk => (h1.new k hk).elim (fun h => h.elim) (fun h => h)),
    (by rintro k (rfl | hk); exact Nat.le_trans h1.size hW.size; simp [fpV, Value.ownBlock] at hk), (h1.then hW).drop (fun k hk => .inr hk) |>.trans ((St.alloc' No W _).wide (fun _ h => h.elim) (fun k hk => .inl hk)) |>.wide (fun _ h => h) (fun k hk => .inr hk)⟩⟩
  rintro k hk (rfl | h2)
  · exact absurd (hw.in _ hk) (Nat.not_lt.2 hW.size)
  · simp [fpV, Value.ownBlock] at h2

set_option maxRecDepth 100000 in
set_option maxHeartbeats 4000000 in
theorem writes_false (lim : Int) (hlim : limOk lim = false) (a : Option Addr) (c : Nat) (ts : List Th) (hn : ts.length ≤ 140737488351232) (w : World) (hs : StepsIn w a ts) :
    Calls Try.prog 7 #[.int .i64 lim, .slice a ts.length c] w fun e w' => e = .returned (.bool true) ∧ Below w.heap.size w w' := by
  have HSI := Lib.hid hs
  have HLIM := Lib.hid hlim
  have HNW := Lib.hid (newWriting_calls lim)
  have hlm : (newWs lim).ok := newWs_ok lim
  have HOK := Lib.hid hlm
  have hns : newWs lim = ⟨(newWs lim).lim, [], 0⟩ := rfl
  have HNS := Lib.hid hns
  have HLL : Hid (limOk lim = true → (newWs lim).lim = lim) := Lib.hid (fun h => by unfold newWs; rw [if_pos h])
  unfold NewRPost at HNW
  rw [hlim] at HNW
  clear hs hlim hlm hns
  generalize newWs lim = s0 at *
  obtain ⟨l0, hl0⟩ : ∃ l0, s0.lim = l0 := ⟨_, rfl⟩
  rw [hl0] at HNW HNS HLL
  have HL0 := Lib.hid hl0
  clear hl0
  go_enter Try.func7, Try.ntmps7
  go_wp2_with fail
  refine (newWriter_calls lim w).mono ?_
  rintro e w1 (⟨hl, rfl, rfl⟩ | ⟨hl, p0, F0, rfl, hw0, hs0⟩)
  · have HB0 : Hid (∀ W, St No w No W → BothIn w (W.alloc (.cells #[.bool false, .int .i64 l0, .slice none 0 0, .int .i64 0] 44)) (.pointer none) W.heap.size false) := Lib.hid (fun W hW => both_start w W l0 s0 HNS.out HOK.out hW)
    go_wp2_with (first
      | (go_at_call 31; refine (HNW.out _).mono ?_; rintro e w2 ⟨rfl, hs2⟩; have HS2 := Lib.hid hs2; clear hs2)
      | (go_at_call 32; refine (num_calls _ _).mono ?_; rintro e w3 ⟨rfl, rfl⟩))
    go_loopw [9] (fun i wr => ∃ k : Nat, k ≤ ts.length ∧ i = .int .i64 k ∧ Hid (BothIn w wr (.pointer none) w2.heap.size false)) (fun i _ => ts.length - (intOf i).toNat)
    case atStart => exact ⟨0, by omega, rfl, Lib.hid (HB0.out _ HS2.out)⟩
    case round =>
      obtain ⟨k, hk, rfl, HB⟩ := hrel
      by_cases hlt : k < ts.length
      · obtain ⟨t, ht⟩ : ∃ t, ts[k]? = some t := ⟨_, List.getElem?_eq_getElem hlt⟩
        obtain ⟨b⟩ := HB.out
        have HKW : Hid (Th.ok w t) := Lib.hid (by obtain ⟨_, _, _, h⟩ := HSI.out k t ht; exact h)
        obtain ⟨x, rfl, hc, hok⟩ := (HSI.out.st b.st) k t ht
        have HK := Lib.hid hok
        have HBB := Lib.hid b.st
        clear hok ht b
        obtain ⟨kind, n, i, f, ta, tc, bs⟩ := t
        have c0 : wr.cell? (x.add (k * 5)) = some (.int .i64 kind) := hc 0 _ rfl
        have c1 : wr.cell? ⟨(x.add (k * 5)).block, (x.add (k * 5)).off + 1, none⟩ = some (.int .u64 (n.toNat : Int)) := hc 1 _ rfl
        have c2 : wr.cell? ⟨(x.add (k * 5)).block, (x.add (k * 5)).off + 2, none⟩ = some (.int .i64 i) := hc 2 _ rfl
        have c3 : wr.cell? ⟨(x.add (k * 5)).block, (x.add (k * 5)).off + 3, none⟩ = some (.bool f) := hc 3 _ rfl
        have c4 : wr.cell? ⟨(x.add (k * 5)).block, (x.add (k * 5)).off + 4, none⟩ = some (.slice ta bs.length tc) := hc 4 _ rfl
        clear hc
        by_cases hk19 : 1 ≤ kind ∧ kind ≤ 9
        · have HIS : Hid (∀ W, Calls Try.prog 33 #[.int .i64 kind] W fun e w' => e = .returned (.bool true) ∧ W = w') := Lib.hid (fun W => (isThing_calls kind W).mono fun e w' h => by rw [decide_eq_true hk19.1, decide_eq_true hk19.2] at h; exact h)
          have HTC := Lib.hid (thing_calls ⟨kind, n, i, f, ta, tc, bs⟩ hk19.1 hk19.2)
          have HT0 : Hid ((Th.norm ⟨kind, n, i, f, ta, tc, bs⟩).ok wr) := Lib.hid (Th.norm_ok HK.out)
          have HKN : Hid (1 ≤ (Th.norm ⟨kind, n, i, f, ta, tc, bs⟩).kind ∧ (Th.norm ⟨kind, n, i, f, ta, tc, bs⟩).kind ≤ 9) := Lib.hid hk19
          have HTW : Hid ((Th.norm ⟨kind, n, i, f, ta, tc, bs⟩).ok w) := Lib.hid (Th.norm_ok HKW.out)
          generalize Th.norm ⟨kind, n, i, f, ta, tc, bs⟩ = t' at HTC HT0 HKN HTW
          obtain ⟨kind', n', i', f', ta', tc', bs'⟩ := t'
          have HTC2 : Hid (∀ W, Calls Try.prog 34 #[.agg #[.int .i64 kind, .int .u64 (n.toNat : Int), .int .i64 i, .bool f, .slice ta bs.length tc]] W fun e w' => e = .returned (.agg #[.int .i64 kind', .int .u64 (n'.toNat : Int), .int .i64 i', .bool f', .slice ta' bs'.length tc']) ∧ St No W No w') := Lib.hid HTC.out
          clear HTC
          go_wp2_with (first
            | (go_at_call 33; refine (HIS.out _).mono ?_; rintro e w1 ⟨rfl, rfl⟩)
            | (go_at_call 34; refine (HTC2.out _).mono ?_; rintro e w3 ⟨rfl, hs3⟩; have HS3 := Lib.hid hs3; have HB3 : Hid (BothIn w w3 (.pointer none) w2.heap.size false) := Lib.hid ((HB.out.st (St.alloc' No wr _)).st HS3.out); have HT3 : Hid (Th.ok w3 ⟨kind', n', i', f', ta', tc', bs'⟩) := Lib.hid ((HT0.out.st (St.alloc' No wr _) (.inr (Dj.no _))).st HS3.out (.inr (Dj.no _))); obtain ⟨b⟩ := HB3.out; have HAF : Hid (Apart b.F ta' bs') := Lib.hid (HTW.out.rd.apart b.lf); have HAG : Hid (Apart b.G ta' bs') := Lib.hid (HTW.out.rd.apart b.lg); clear hs3)
            | (go_at_call 35; refine (rLay_calls ⟨kind', n', i', f', ta', tc', bs'⟩ _ b.G w2.heap.size false b.s b.ok (b.rw.st (St.alloc' No w3 _) (Dj.no _)) (HT3.out.st (St.alloc' No w3 _) (.inr (Dj.no _))) HAG.out).mono ?_; rintro e w4 ⟨rfl, G', hr4, st4⟩; have hg4 := st4.block w3.heap.size (by simp) (fun hf => Nat.lt_irrefl _ (b.rw.in _ hf)); have j0 := World.cell?_of_block (a := ⟨w3.heap.size, 0, none⟩) hg4; have j1 := World.cell?_of_block (a := ⟨w3.heap.size, 1, none⟩) hg4; have j2 := World.cell?_of_block (a := ⟨w3.heap.size, 2, none⟩) hg4; have j3 := World.cell?_of_block (a := ⟨w3.heap.size, 3, none⟩) hg4; have j4 := World.cell?_of_block (a := ⟨w3.heap.size, 4, none⟩) hg4; clear hg4; simp at j0 j1 j2 j3 j4; have HR4 := Lib.hid hr4; have HS4 := Lib.hid st4; clear hr4 st4; have HW4 : Hid (Wh w4 b.F (.pointer none) false b.s) := Lib.hid ((b.wh.st (St.alloc' No w3 _) (Dj.no _)).st HS4.out b.dj.symm); have HT4 : Hid (Th.ok w4 ⟨kind', n', i', f', ta', tc', bs'⟩) := Lib.hid ((HT3.out.st (St.alloc' No w3 _) (.inr (Dj.no _))).st HS4.out HAG.out))
            | (go_at_call 36; refine (lawLay_calls ⟨kind', n', i', f', ta', tc', bs'⟩ HKN.out.1 HKN.out.2 w4 b.F (.pointer none) false b.s HW4.out HT4.out HAF.out).mono ?_; rintro e w5 ⟨rfl, F', hw5, st5⟩; have HB5 : Hid (BothIn w w5 (.pointer none) w2.heap.size false) := Lib.hid (both_next b HS4.out HR4.out hw5 st5); clear hw5 st5))
          go_roundw
          case rel => exact ⟨k + 1, by omega, by go_num, HB5⟩
          case measure => simp [intOf]; omega
        · have HIS : Hid (∀ W, Calls Try.prog 33 #[.int .i64 kind] W fun e w' => e = .returned (.bool false) ∧ W = w') := Lib.hid (fun W => (isThing_calls kind W).mono fun e w' h => by
            have hd : (decide (1 ≤ kind) && decide (kind ≤ 9)) = false := by simp; omega
            rw [hd] at h; exact h)
          clear hk19
          go_wp2_with (first
            | (go_at_call 33; refine (HIS.out _).mono ?_; rintro e w1 ⟨rfl, rfl⟩)
            | (go_at_call 37; obtain ⟨b⟩ := (HB.out.st (St.alloc' No wr (.cells #[.int .i64 kind, .int .u64 (n.toNat : Int), .int .i64 i, .bool f, .slice ta bs.length tc] 49))); refine (asked_calls kind _ b.F b.G _ _ _ b.s b.wh b.rw b.ok b.none).mono ?_; clear b; rintro e w5 ⟨rfl, hs5⟩; have HB5 : Hid (BothIn w w5 (.pointer none) w2.heap.size false) := Lib.hid ((HB.out.st (St.alloc' No wr _)).st hs5); clear hs5))
          go_roundw
          case rel => exact ⟨k + 1, by omega, by go_num, HB5⟩
          case measure => simp [intOf]; omega
      · obtain rfl : k = ts.length := by omega
        go_wp2
        go_ret
        obtain ⟨b⟩ := HB.out
        exact ⟨rfl, b.st.below⟩
  · exact absurd HLIM.out (by simp [limOk]; omega)


set_option maxRecDepth 100000 in
set_option maxHeartbeats 4000000 in
theorem writes_true (lim : Int) (hlim : limOk lim = true) (a : Option Addr) (c : Nat) (ts : List Th) (hn : ts.length ≤ 140737488351232) (w : World) (hs : StepsIn w a ts) :
    Calls Try.prog 7 #[.int .i64 lim, .slice a ts.length c] w fun e w' => e = .returned (.bool true) ∧ Below w.heap.size w w' := by
  have HSI := Lib.hid hs
  have HLIM := Lib.hid hlim
  have HNW := Lib.hid (newWriting_calls lim)
  have hlm : (newWs lim).ok := newWs_ok lim
  have HOK := Lib.hid hlm
  have hns : newWs lim = ⟨(newWs lim).lim, [], 0⟩ := rfl
  have HNS := Lib.hid hns
  have HLL : Hid (limOk lim = true → (newWs lim).lim = lim) := Lib.hid (fun h => by unfold newWs; rw [if_pos h])
  unfold NewRPost at HNW
  rw [hlim] at HNW
  clear hs hlim hlm hns
  generalize newWs lim = s0 at *
  obtain ⟨l0, hl0⟩ : ∃ l0, s0.lim = l0 := ⟨_, rfl⟩
  rw [hl0] at HNW HNS HLL
  have HL0 := Lib.hid hl0
  clear hl0
  go_enter Try.func7, Try.ntmps7
  go_wp2_with fail
  refine (newWriter_calls lim w).mono ?_
  rintro e w1 (⟨hl, rfl, rfl⟩ | ⟨hl, p0, F0, rfl, hw0, hs0⟩)
  · exact absurd HLIM.out (by simp [limOk]; omega)
  · have HWR := Lib.hid hw0
    have HS0 := Lib.hid hs0
    have HB0 : Hid (∀ W, St No w1 No W → BothIn w (W.alloc (.cells #[.bool true, .int .i64 l0, .slice none 0 0, .int .i64 0] 44)) (.pointer (some ⟨p0, 0, none⟩)) W.heap.size true) := Lib.hid (fun W hW => both_start2 w w1 W F0 p0 l0 s0 HNS.out HOK.out (by rw [HNS.out, HLL.out HLIM.out]; exact HWR.out) HS0.out hW)
    clear hw0 hs0
    go_wp2_with (first
      | (go_at_call 31; refine (HNW.out _).mono ?_; rintro e w2 ⟨rfl, hs2⟩; have HS2 := Lib.hid hs2; clear hs2)
      | (go_at_call 32; refine (num_calls _ _).mono ?_; rintro e w3 ⟨rfl, rfl⟩))
    go_loopw [9] (fun i wr => ∃ k : Nat, k ≤ ts.length ∧ i = .int .i64 k ∧ Hid (BothIn w wr (.pointer (some ⟨p0, 0, none⟩)) w2.heap.size true)) (fun i _ => ts.length - (intOf i).toNat)
    case atStart => exact ⟨0, by omega, rfl, Lib.hid (HB0.out _ HS2.out)⟩
    case round =>
      obtain ⟨k, hk, rfl, HB⟩ := hrel
      by_cases hlt : k < ts.length
      · obtain ⟨t, ht⟩ : ∃ t, ts[k]? = some t := ⟨_, List.getElem?_eq_getElem hlt⟩
        obtain ⟨b⟩ := HB.out
        have HKW : Hid (Th.ok w t) := Lib.hid (by obtain ⟨_, _, _, h⟩ := HSI.out k t ht; exact h)
        obtain ⟨x, rfl, hc, hok⟩ := (HSI.out.st b.st) k t ht
        have HK := Lib.hid hok
        have HBB := Lib.hid b.st
        clear hok ht b
        obtain ⟨kind, n, i, f, ta, tc, bs⟩ := t
        have c0 : wr.cell? (x.add (k * 5)) = some (.int .i64 kind) := hc 0 _ rfl
        have c1 : wr.cell? ⟨(x.add (k * 5)).block, (x.add (k * 5)).off + 1, none⟩ = some (.int .u64 (n.toNat : Int)) := hc 1 _ rfl
        have c2 : wr.cell? ⟨(x.add (k * 5)).block, (x.add (k * 5)).off + 2, none⟩ = some (.int .i64 i) := hc 2 _ rfl
        have c3 : wr.cell? ⟨(x.add (k * 5)).block, (x.add (k * 5)).off + 3, none⟩ = some (.bool f) := hc 3 _ rfl
        have c4 : wr.cell? ⟨(x.add (k * 5)).block, (x.add (k * 5)).off + 4, none⟩ = some (.slice ta bs.length tc) := hc 4 _ rfl
        clear hc
        by_cases hk19 : 1 ≤ kind ∧ kind ≤ 9
        · have HIS : Hid (∀ W, Calls Try.prog 33 #[.int .i64 kind] W fun e w' => e = .returned (.bool true) ∧ W = w') := Lib.hid (fun W => (isThing_calls kind W).mono fun e w' h => by rw [decide_eq_true hk19.1, decide_eq_true hk19.2] at h; exact h)
          have HTC := Lib.hid (thing_calls ⟨kind, n, i, f, ta, tc, bs⟩ hk19.1 hk19.2)
          have HT0 : Hid ((Th.norm ⟨kind, n, i, f, ta, tc, bs⟩).ok wr) := Lib.hid (Th.norm_ok HK.out)
          have HKN : Hid (1 ≤ (Th.norm ⟨kind, n, i, f, ta, tc, bs⟩).kind ∧ (Th.norm ⟨kind, n, i, f, ta, tc, bs⟩).kind ≤ 9) := Lib.hid hk19
          have HTW : Hid ((Th.norm ⟨kind, n, i, f, ta, tc, bs⟩).ok w) := Lib.hid (Th.norm_ok HKW.out)
          generalize Th.norm ⟨kind, n, i, f, ta, tc, bs⟩ = t' at HTC HT0 HKN HTW
          obtain ⟨kind', n', i', f', ta', tc', bs'⟩ := t'
          have HTC2 : Hid (∀ W, Calls Try.prog 34 #[.agg #[.int .i64 kind, .int .u64 (n.toNat : Int), .int .i64 i, .bool f, .slice ta bs.length tc]] W fun e w' => e = .returned (.agg #[.int .i64 kind', .int .u64 (n'.toNat : Int), .int .i64 i', .bool f', .slice ta' bs'.length tc']) ∧ St No W No w') := Lib.hid HTC.out
          clear HTC
          go_wp2_with (first
            | (go_at_call 33; refine (HIS.out _).mono ?_; rintro e w1 ⟨rfl, rfl⟩)
            | (go_at_call 34; refine (HTC2.out _).mono ?_; rintro e w3 ⟨rfl, hs3⟩; have HS3 := Lib.hid hs3; have HB3 : Hid (BothIn w w3 (.pointer (some ⟨p0, 0, none⟩)) w2.heap.size true) := Lib.hid ((HB.out.st (St.alloc' No wr _)).st HS3.out); have HT3 : Hid (Th.ok w3 ⟨kind', n', i', f', ta', tc', bs'⟩) := Lib.hid ((HT0.out.st (St.alloc' No wr _) (.inr (Dj.no _))).st HS3.out (.inr (Dj.no _))); obtain ⟨b⟩ := HB3.out; have HAF : Hid (Apart b.F ta' bs') := Lib.hid (HTW.out.rd.apart b.lf); have HAG : Hid (Apart b.G ta' bs') := Lib.hid (HTW.out.rd.apart b.lg); clear hs3)
            | (go_at_call 35; refine (rLay_calls ⟨kind', n', i', f', ta', tc', bs'⟩ _ b.G w2.heap.size true b.s b.ok (b.rw.st (St.alloc' No w3 _) (Dj.no _)) (HT3.out.st (St.alloc' No w3 _) (.inr (Dj.no _))) HAG.out).mono ?_; rintro e w4 ⟨rfl, G', hr4, st4⟩; have hg4 := st4.block w3.heap.size (by simp) (fun hf => Nat.lt_irrefl _ (b.rw.in _ hf)); have j0 := World.cell?_of_block (a := ⟨w3.heap.size, 0, none⟩) hg4; have j1 := World.cell?_of_block (a := ⟨w3.heap.size, 1, none⟩) hg4; have j2 := World.cell?_of_block (a := ⟨w3.heap.size, 2, none⟩) hg4; have j3 := World.cell?_of_block (a := ⟨w3.heap.size, 3, none⟩) hg4; have j4 := World.cell?_of_block (a := ⟨w3.heap.size, 4, none⟩) hg4; clear hg4; simp at j0 j1 j2 j3 j4; have HR4 := Lib.hid hr4; have HS4 := Lib.hid st4; clear hr4 st4; have HW4 : Hid (Wh w4 b.F (.pointer (some ⟨p0, 0, none⟩)) true b.s) := Lib.hid ((b.wh.st (St.alloc' No w3 _) (Dj.no _)).st HS4.out b.dj.symm); have HT4 : Hid (Th.ok w4 ⟨kind', n', i', f', ta', tc', bs'⟩) := Lib.hid ((HT3.out.st (St.alloc' No w3 _) (.inr (Dj.no _))).st HS4.out HAG.out))
            | (go_at_call 36; refine (lawLay_calls ⟨kind', n', i', f', ta', tc', bs'⟩ HKN.out.1 HKN.out.2 w4 b.F (.pointer (some ⟨p0, 0, none⟩)) true b.s HW4.out HT4.out HAF.out).mono ?_; rintro e w5 ⟨rfl, F', hw5, st5⟩; have HB5 : Hid (BothIn w w5 (.pointer (some ⟨p0, 0, none⟩)) w2.heap.size true) := Lib.hid (both_next b HS4.out HR4.out hw5 st5); clear hw5 st5))
          go_roundw
          case rel => exact ⟨k + 1, by omega, by go_num, HB5⟩
          case measure => simp [intOf]; omega
        · have HIS : Hid (∀ W, Calls Try.prog 33 #[.int .i64 kind] W fun e w' => e = .returned (.bool false) ∧ W = w') := Lib.hid (fun W => (isThing_calls kind W).mono fun e w' h => by
            have hd : (decide (1 ≤ kind) && decide (kind ≤ 9)) = false := by simp; omega
            rw [hd] at h; exact h)
          clear hk19
          go_wp2_with (first
            | (go_at_call 33; refine (HIS.out _).mono ?_; rintro e w1 ⟨rfl, rfl⟩)
            | (go_at_call 37; obtain ⟨b⟩ := (HB.out.st (St.alloc' No wr (.cells #[.int .i64 kind, .int .u64 (n.toNat : Int), .int .i64 i, .bool f, .slice ta bs.length tc] 49))); refine (asked_calls kind _ b.F b.G _ _ _ b.s b.wh b.rw b.ok b.none).mono ?_; clear b; rintro e w5 ⟨rfl, hs5⟩; have HB5 : Hid (BothIn w w5 (.pointer (some ⟨p0, 0, none⟩)) w2.heap.size true) := Lib.hid ((HB.out.st (St.alloc' No wr _)).st hs5); clear hs5))
          go_roundw
          case rel => exact ⟨k + 1, by omega, by go_num, HB5⟩
          case measure => simp [intOf]; omega
      · obtain rfl : k = ts.length := by omega
        go_wp2
        go_ret
        obtain ⟨b⟩ := HB.out
        exact ⟨rfl, b.st.below⟩

theorem writes_walk (lim : Int) (a : Option Addr) (c : Nat) (ts : List Th) (hn : ts.length ≤ 140737488351232) (w : World) (hs : StepsIn w a ts) :
    Calls Try.prog 7 #[.int .i64 lim, .slice a ts.length c] w fun e w' => e = .returned (.bool true) ∧ Below w.heap.size w w' := by
  cases h : limOk lim
  · exact writes_false lim h a c ts hn w hs
  · exact writes_true lim h a c ts hn w hs
end Go.Proofs.Ytfhoekcmkbeabaa
