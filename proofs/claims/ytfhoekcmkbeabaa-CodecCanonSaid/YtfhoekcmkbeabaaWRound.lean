
/-
  The walk over the statement CodecRound.
-/
import Derived.Test.YtfhoekcmkbeabaaCwWritten
namespace Go.Proofs.Ytfhoekcmkbeabaa
open Go.RowKit
set_option linter.unusedVariables false
set_option linter.unusedSimpArgs false

/-- a reader that the call itself made -/
def RdOn (w0 wr : World) (p : Nat) (s : RS) : Prop := ∃ D, Rh wr (.pointer (some ⟨p, 0, none⟩)) true p D s ∧ In D wr ∧ p < wr.heap.size ∧ w0.heap.size ≤ p ∧ St No w0 (Nw w0) wr
theorem RdOn.still {w0 wr w1 : World} {p : Nat} {s : RS} {X : Nat → Prop} (h : RdOn w0 wr p s) (t : St No wr X w1) : RdOn w0 w1 p s := by
  obtain ⟨D, h1, h2, h3, h4, h5⟩ := h
  exact ⟨D, h1.st t (fun h => h) (Dj.no _), h2.st t, Nat.lt_of_lt_of_le h3 t.size, h4, h5.then t⟩
theorem RdOn.lt {w0 wr : World} {p : Nat} {s : RS} (h : RdOn w0 wr p s) : p < wr.heap.size := by obtain ⟨_, _, _, h, _⟩ := h; exact h
theorem RdOn.base {w0 wr : World} {p : Nat} {s : RS} (h : RdOn w0 wr p s) : St No w0 (Nw w0) wr := by obtain ⟨_, _, _, _, _, h⟩ := h; exact h
theorem RdOn.step {w0 wr w1 : World} {p : Nat} {s s' : RS} {D X : Nat → Prop} (h : w0.heap.size ≤ p ∧ St No w0 (Nw w0) wr ∧ In D wr) (hr : Rh w1 (.pointer (some ⟨p, 0, none⟩)) true p D s') (t : St (fpP p) wr X w1) (hl : p < wr.heap.size) : RdOn w0 w1 p s' := by
  obtain ⟨h4, h5, h2⟩ := h
  refine ⟨D, hr, h2.st t, Nat.lt_of_lt_of_le hl t.size, h4, ?_⟩
  exact ⟨t.os.trans h5.os, t.tape.trans h5.tape, t.output.trans h5.output, Nat.le_trans h5.size t.size, fun k hk hn => (t.block k (Nat.lt_of_lt_of_le hk h5.size) (fun hf => by have e : k = p := hf; omega)).trans (h5.block k hk hn), fun k hk => .inr hk⟩
/-- a thing of the script, taken where it was laid down -/
theorem take_on (t : Th) (h1 : 1 ≤ t.kind) (h9 : t.kind ≤ 9) (hlo : -9223372036854775808 ≤ t.i) (hhi : t.i ≤ 9223372036854775807) (hl : t.bs.length ≤ 140737488351232) (rest : List B8) (hrl : (t.norm.bytes ++ rest).length ≤ 16777216) (w0 w : World) (p : Nat) (h : RdOn w0 w p ⟨t.norm.bytes ++ rest, 0⟩) :
    Calls Try.prog 47 #[.pointer (some ⟨p, 0, none⟩), .int .i64 t.kind, .int .i64 ((t.norm.bs.length : Nat) : Int)] w fun e w' =>
      ∃ a c, e = .returned (.agg #[.int .i64 t.kind, .int .u64 (t.norm.n.toNat : Int), .int .i64 t.norm.i, .bool t.norm.f, .slice a t.norm.bs.length c]) ∧ Bs w' a t.norm.bs ∧ RdOn w0 w' p ⟨rest, 0⟩ ∧ ∃ X, St (fpP p) w X w' := by
  obtain ⟨D, hr, hin, hp, hw0, hst⟩ := h
  have hnl : t.norm.bs.length ≤ 140737488351232 := by
    unfold Th.norm
    show (ite _ _ _ : List B8).length ≤ _
    split
    · exact hl
    · simp
  obtain ⟨e1, e2⟩ := read_back t h1 h9 hlo hhi hl rest
  refine (grab_calls t.kind (t.norm.bs.length : Int) h1 h9 (by omega) w _ true p D hin hp _ (by show (t.norm.bytes ++ rest).length ≤ _; omega) hr).mono ?_
  rintro e w' ⟨V, rfl, ho, hr', hs, hn⟩
  rw [e1] at ho ⊢
  rw [e2] at hr'
  obtain ⟨a, c, rfl, _, _, _, _⟩ := ho.form
  exact ⟨a, c, rfl, ho.bs, RdOn.step (s := ⟨rest, 0⟩) ⟨hw0, hst, hin⟩ hr' hs hp, _, hs⟩
theorem err_on (w0 w : World) (p : Nat) (rest : List B8) (h : RdOn w0 w p ⟨rest, 0⟩) : Calls Try.prog 48 #[.pointer (some ⟨p, 0, none⟩)] w fun e w' => e = .returned (.int .i64 0) ∧ w = w' := by
  obtain ⟨D, hr, _⟩ := h
  exact rErr2_calls w _ true p D _ hr
set_option maxRecDepth 100000 in
set_option maxHeartbeats 4000000 in
theorem round_walk (a : Option Addr) (c : Nat) (ts : List Th) (hn : ts.length ≤ 140737488351232) (w : World) (hs : StepsIn w a ts) :
    Calls Try.prog 13 #[.slice a ts.length c] w fun e w' => e = .returned (.bool true) ∧ Below w.heap.size w w' := by
  have HSI := Lib.hid hs
  have HRM := Lib.hid (room_calls a c ts hn w hs)
  clear hs
  by_cases hbig : (16777216 : Int) < (roomF 0 ts : Int)
  · generalize roomF 0 ts = R at *
    go_enter Try.func13, Try.ntmps13
    go_wp2_with (go_at_call 53; refine HRM.out.mono ?_; rintro e w1 ⟨rfl, rfl⟩)
    go_ret
    exact ⟨rfl, (St.refl No w).below⟩
  · have hfit := roomF_le ts 0 (by omega) (by omega)
    have hfit' : (thAll ts).length ≤ 16777216 := by omega
    have HFT := Lib.hid hfit'
    have HWT := Lib.hid (written_calls a c ts hn hfit' w HSI.out)
    generalize roomF 0 ts = R at *
    clear hfit hfit'
    go_enter Try.func13, Try.ntmps13
    go_wp2_with (first
      | (go_at_call 53; refine HRM.out.mono ?_; rintro e w1 ⟨rfl, rfl⟩)
      | (go_at_call 54; refine HWT.out.mono ?_; rintro e w1 ⟨g, rfl, ho1, hg1, hs1⟩; have HO1 := Lib.hid ho1; have HS1 := Lib.hid hs1; clear ho1 hs1 hg1)
      | (go_at_call 32; refine (num_calls _ _).mono ?_; rintro e w3 ⟨rfl, rfl⟩)
      | fail)
    refine (newReader_calls _ _ (thAll ts) w1 HO1.out.bs).mono ?_
    rintro e w2 ⟨v, p, D, rfl, hr2, hlo2, hin2, hp2, hs2⟩
    rw [decide_eq_true HFT.out] at hr2
    obtain rfl : v = .pointer (some ⟨p, 0, none⟩) := by rcases hr2 with ⟨h, _⟩ | ⟨_, h, _⟩; cases h; exact h
    rw [if_pos HFT.out]
    have hpl : p < w2.heap.size := by rcases hr2 with ⟨h, _⟩ | ⟨_, _, hrr, _⟩; cases h; obtain ⟨_, _, ho, _⟩ := hrr; exact ho.lt
    have HR0 : Hid (RdOn w w2 p ⟨thAll ts, 0⟩) := Lib.hid ⟨D, hr2, hin2, hpl, Nat.le_trans HS1.out.size hp2, HS1.out.then hs2⟩
    clear hr2 hlo2 hin2 hp2 hs2 hpl
    go_wp2_with (go_at_call 32; refine (num_calls _ _).mono ?_; rintro e w3 ⟨rfl, rfl⟩)
    go_loopw [7] (fun i wr => ∃ k : Nat, k ≤ ts.length ∧ i = .int .i64 k ∧ Hid (RdOn w wr p ⟨thAll (ts.drop k), 0⟩)) (fun i _ => ts.length - (intOf i).toNat)
    case atStart => exact ⟨0, by omega, rfl, HR0⟩
    case round =>
      clear HR0
      obtain ⟨k, hk, rfl, HR⟩ := hrel
      by_cases hlt : k < ts.length
      · obtain ⟨t, ht⟩ : ∃ t, ts[k] = t := ⟨_, rfl⟩
        obtain ⟨x, rfl, hc, hok⟩ := (HSI.out.st HR.out.base) k t (by rw [List.getElem?_eq_getElem hlt, ht])
        have hdr := thAll_drop ts k hlt
        rw [ht] at hdr
        have hll : (thAll (ts.drop k)).length ≤ 16777216 := by
          have e : thAll ts = thAll (ts.take k) ++ thAll (ts.drop k) := by unfold thAll; rw [← List.flatMap_append, List.take_append_drop]
          have := HFT.out
          rw [e, List.length_append] at this
          omega
        rw [hdr] at HR hll
        have HTC := Lib.hid (thing_all t)
        unfold ThPost at HTC
        by_cases hk19 : 1 ≤ t.kind ∧ t.kind ≤ 9
        · have hb : thB t = t.norm.bytes := if_pos hk19
          rw [hb] at HR hll
          have HIS : Hid (∀ W, Calls Try.prog 33 #[.int .i64 t.kind] W fun e w' => e = .returned (.bool true) ∧ W = w') := Lib.hid (fun W => (isThing_calls t.kind W).mono fun e w' h => by rw [decide_eq_true hk19.1, decide_eq_true hk19.2] at h; exact h)
          have HTK : Hid (∀ W, RdOn w W p ⟨t.norm.bytes ++ thAll (ts.drop (k + 1)), 0⟩ → Calls Try.prog 47 #[.pointer (some ⟨p, 0, none⟩), .int .i64 t.kind, .int .i64 ((t.norm.bs.length : Nat) : Int)] W fun e w' =>
            ∃ a c, e = .returned (.agg #[.int .i64 t.kind, .int .u64 (t.norm.n.toNat : Int), .int .i64 t.norm.i, .bool t.norm.f, .slice a t.norm.bs.length c]) ∧ Bs w' a t.norm.bs ∧ RdOn w w' p ⟨thAll (ts.drop (k + 1)), 0⟩ ∧ ∃ X, St (fpP p) W X w') := Lib.hid (fun W h =>
            take_on t hk19.1 hk19.2 hok.ilo hok.ihi hok.len _ hll w W p h)
          have HNO := Lib.hid (Th.norm_ok hok)
          have hpw : w.heap.size ≤ p := by obtain ⟨_, _, _, _, h, _⟩ := HR.out; exact h
          have HAP : Hid (Apart (fpP p) t.norm.a t.norm.bs) := Lib.hid (by
            obtain ⟨_, _, _, h⟩ := HSI.out k t (by rw [List.getElem?_eq_getElem hlt, ht])
            exact (Th.norm_ok h).rd.apart (fun q hq => by have e : q = p := hq; omega))
          have HNK : t.norm.kind = t.kind := rfl
          have hnl := (Th.norm_ok hok).len
          obtain ⟨rest, hrest⟩ : ∃ rest, thAll (ts.drop (k + 1)) = rest := ⟨_, rfl⟩
          have HRE := Lib.hid hrest
          rw [hrest] at HR HTK hll
          clear hrest
          generalize t.norm.bytes = tby at *
          obtain ⟨tn, hN⟩ : ∃ tn, t.norm = tn := ⟨_, rfl⟩
          rw [hN] at HTC HTK HNO HNK hnl HAP
          clear hN
          obtain ⟨kind', n', i', f', ta', tc', bs'⟩ := tn
          obtain ⟨kind, n, i, f, ta, tc, bs⟩ := t
          simp only at HNK hk19 HIS HTK hnl
          subst HNK
          simp only [Th.cells] at HTC
          have c0 : wr.cell? (x.add (k * 5)) = some (.int .i64 kind') := hc 0 _ rfl
          have c1 : wr.cell? ⟨(x.add (k * 5)).block, (x.add (k * 5)).off + 1, none⟩ = some (.int .u64 (n.toNat : Int)) := hc 1 _ rfl
          have c2 : wr.cell? ⟨(x.add (k * 5)).block, (x.add (k * 5)).off + 2, none⟩ = some (.int .i64 i) := hc 2 _ rfl
          have c3 : wr.cell? ⟨(x.add (k * 5)).block, (x.add (k * 5)).off + 3, none⟩ = some (.bool f) := hc 3 _ rfl
          have c4 : wr.cell? ⟨(x.add (k * 5)).block, (x.add (k * 5)).off + 4, none⟩ = some (.slice ta bs.length tc) := hc 4 _ rfl
          clear hc hok hb hdr ht hll
          go_wp2_with (first
            | (go_at_call 33; refine (HIS.out _).mono ?_; rintro e w1 ⟨rfl, rfl⟩)
            | (go_at_call 34; refine (HTC.out _).mono ?_; rintro e w3 ⟨rfl, hs3⟩; have HS3 := Lib.hid hs3; have HR3 : Hid (∀ o, RdOn w (w3.alloc o) p ⟨tby ++ rest, 0⟩) := Lib.hid (fun o => (HR.out.still HS3.out).still (St.alloc' No w3 o)); have hp3 : p < w3.heap.size := (HR.out.still HS3.out).lt; clear hs3)
            | fail)
          refine (HTK.out _ (HR3.out _)).mono ?_
          rintro e w4 ⟨ga, gc, rfl, hb4, hr4, X4, hs4⟩
          have hT : Ob w4 w3.heap.size 51 #[.int .i64 kind', .int .u64 (n'.toNat : Int), .int .i64 i', .bool f', .slice ta' bs'.length tc'] := (hs4.block w3.heap.size (by simp) (fun hf => by have e : w3.heap.size = p := hf; omega)).trans (heap_alloc_new w3 _)
          obtain ⟨j0, j1, j2, j3, j4, _, _, _, _, _⟩ := hT.five
          have HB4 := Lib.hid hb4
          have HR4 := Lib.hid hr4
          have HBT : Hid (Bs w4 ta' bs') := Lib.hid (((HNO.out.rd.st HS3.out (Dj.no _)).st (St.alloc' No w3 _) (Dj.no _)).stA hs4 HAP.out)
          have hlt34 : w3.heap.size < w4.heap.size := hT.lt
          have n34 : w3.heap.size ≠ w4.heap.size := by omega
          have n43 : w4.heap.size ≠ w3.heap.size := by omega
          have HSM : Hid (∀ W, St No w4 No W → Calls Try.prog 17 #[.slice ga bs'.length gc, .slice ta' bs'.length tc'] W fun e w' => e = .returned (.bool true) ∧ Dr W w') := Lib.hid (fun W st =>
            (same_calls ga gc bs' ta' tc' bs' (by unfold maxLen; omega) (by unfold maxLen; omega) W (HB4.out.st st (Dj.no _)) (HBT.out.st st (Dj.no _))).mono fun e w' h => by rw [decide_eq_true rfl] at h; exact h)
          have HER : Hid (∀ W, RdOn w W p ⟨rest, 0⟩ → Calls Try.prog 48 #[.pointer (some ⟨p, 0, none⟩)] W fun e w' => e = .returned (.int .i64 0) ∧ W = w') := Lib.hid (fun W h => err_on w W p rest h)
          have HR5 : Hid (∀ o, RdOn w (w4.alloc o) p ⟨rest, 0⟩) := Lib.hid (fun o => hr4.still (St.alloc' No w4 o))
          clear hs4 hb4 hr4 hT
          have hk5 : (kind' ≤ 5 ∧ (kind' == 6) = false ∧ (kind' == 7) = false ∧ ¬ 8 ≤ kind') ∨ kind' = 6 ∨ kind' = 7 ∨ (¬ kind' ≤ 5 ∧ (kind' == 6) = false ∧ (kind' == 7) = false ∧ 8 ≤ kind') := by
            by_cases h5 : kind' ≤ 5
            · exact .inl ⟨h5, beq_eq_false_iff_ne.2 (by omega), beq_eq_false_iff_ne.2 (by omega), by omega⟩
            · by_cases h6 : kind' = 6
              · exact .inr (.inl h6)
              · by_cases h7 : kind' = 7
                · exact .inr (.inr (.inl h7))
                · exact .inr (.inr (.inr ⟨h5, beq_eq_false_iff_ne.2 h6, beq_eq_false_iff_ne.2 h7, by omega⟩))
          rcases hk5 with ⟨h5, h6, h7, h8⟩ | rfl | rfl | ⟨h5, h6, h7, h8⟩
          · go_wp2_with (first
              | (go_at_call 48; refine (HER.out _ (HR5.out _)).mono ?_; rintro e w6 ⟨rfl, rfl⟩)
              | (go_at_call 32; refine (num_calls _ _).mono ?_; rintro e w7 ⟨rfl, rfl⟩))
            go_roundw
            case rel => exact ⟨k + 1, by omega, by go_num, Lib.hid (by rw [HRE.out]; exact HR5.out _)⟩
            case measure => simp [intOf]; omega
          · go_wp2_with (first
              | (go_at_call 48; refine (HER.out _ (HR5.out _)).mono ?_; rintro e w6 ⟨rfl, rfl⟩)
              | (go_at_call 32; refine (num_calls _ _).mono ?_; rintro e w7 ⟨rfl, rfl⟩))
            go_roundw
            case rel => exact ⟨k + 1, by omega, by go_num, Lib.hid (by rw [HRE.out]; exact HR5.out _)⟩
            case measure => simp [intOf]; omega
          · cases f'
            all_goals go_wp2_with (first
              | (go_at_call 48; refine (HER.out _ (HR5.out _)).mono ?_; rintro e w6 ⟨rfl, rfl⟩)
              | (go_at_call 32; refine (num_calls _ _).mono ?_; rintro e w7 ⟨rfl, rfl⟩))
            · go_roundw
              case rel => exact ⟨k + 1, by omega, by go_num, Lib.hid (by rw [HRE.out]; exact HR5.out _)⟩
              case measure => simp [intOf]; omega
            · go_roundw
              case rel => exact ⟨k + 1, by omega, by go_num, Lib.hid (by rw [HRE.out]; exact HR5.out _)⟩
              case measure => simp [intOf]; omega
          · go_wp2_with (first
              | (go_at_call 17; refine (HSM.out _ (St.alloc' No w4 _)).mono ?_; rintro e w6 ⟨rfl, hd6⟩; have HR6 : Hid (RdOn w w6 p ⟨rest, 0⟩) := Lib.hid ((HR5.out _).still (hd6.st No)); clear hd6)
              | (go_at_call 48; refine (HER.out _ HR6.out).mono ?_; rintro e w7 ⟨rfl, rfl⟩)
              | (go_at_call 32; refine (num_calls _ _).mono ?_; rintro e w8 ⟨rfl, rfl⟩))
            go_roundw
            case rel => exact ⟨k + 1, by omega, by go_num, Lib.hid (by rw [HRE.out]; exact HR6.out)⟩
            case measure => simp [intOf]; omega
        · have hb : thB t = [] := if_neg hk19
          rw [hb, List.nil_append] at HR
          have HIS : Hid (∀ W, Calls Try.prog 33 #[.int .i64 t.kind] W fun e w' => e = .returned (.bool false) ∧ W = w') := Lib.hid (fun W => (isThing_calls t.kind W).mono fun e w' h => by
            have hd : (decide (1 ≤ t.kind) && decide (t.kind ≤ 9)) = false := by simp; omega
            rw [hd] at h; exact h)
          rw [norm_other hk19] at HTC
          obtain ⟨kind, n, i, f, ta, tc, bs⟩ := t
          simp only [Th.cells] at HTC HIS
          have c0 : wr.cell? (x.add (k * 5)) = some (.int .i64 kind) := hc 0 _ rfl
          have c1 : wr.cell? ⟨(x.add (k * 5)).block, (x.add (k * 5)).off + 1, none⟩ = some (.int .u64 (n.toNat : Int)) := hc 1 _ rfl
          have c2 : wr.cell? ⟨(x.add (k * 5)).block, (x.add (k * 5)).off + 2, none⟩ = some (.int .i64 i) := hc 2 _ rfl
          have c3 : wr.cell? ⟨(x.add (k * 5)).block, (x.add (k * 5)).off + 3, none⟩ = some (.bool f) := hc 3 _ rfl
          have c4 : wr.cell? ⟨(x.add (k * 5)).block, (x.add (k * 5)).off + 4, none⟩ = some (.slice ta bs.length tc) := hc 4 _ rfl
          clear hc hok hb hdr ht hll hk19
          go_wp2_with (first
            | (go_at_call 33; refine (HIS.out _).mono ?_; rintro e w1 ⟨rfl, rfl⟩)
            | (go_at_call 34; refine (HTC.out _).mono ?_; rintro e w3 ⟨rfl, hs3⟩; have HS3 := Lib.hid hs3; clear hs3))
          go_roundw
          case rel => exact ⟨k + 1, by omega, by go_num, Lib.hid ((HR.out.still HS3.out).still (St.alloc' No w3 _))⟩
          case measure => simp [intOf]; omega
      · obtain rfl : k = ts.length := by omega
        have HEN : Hid (thAll (ts.drop ts.length) = []) := Lib.hid (by rw [List.drop_length]; rfl)
        rw [HEN.out] at HR
        obtain ⟨D, hr, _, _, _, hst⟩ := HR.out
        have HLF := Lib.hid (rLeft2_calls wr _ true p D _ hr)
        have HDN := Lib.hid (rDone2_calls wr _ true p D _ hr)
        have HST := Lib.hid hst
        have HL2 : Hid (Calls Try.prog 50 #[.pointer (some ⟨p, 0, none⟩)] wr fun e w' => e = .returned (.int .i64 0) ∧ wr = w') := Lib.hid HLF.out
        have HD2 : Hid (Calls Try.prog 55 #[.pointer (some ⟨p, 0, none⟩)] wr fun e w' => e = .returned (.int .i64 0) ∧ wr = w') := Lib.hid HDN.out
        clear hr hst
        go_wp2_with (first
          | (go_at_call 50; refine HL2.out.mono ?_; rintro e w6 ⟨rfl, rfl⟩)
          | (go_at_call 55; refine HD2.out.mono ?_; rintro e w6 ⟨rfl, rfl⟩)
          | (go_at_call 32; refine (num_calls _ _).mono ?_; rintro e w7 ⟨rfl, rfl⟩))
        go_ret
        exact ⟨rfl, HST.out.below⟩
end Go.Proofs.Ytfhoekcmkbeabaa
