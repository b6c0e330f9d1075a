
/-
  The walk over the statement CodecCanon.
-/
import Derived.Test.YtfhoekcmkbeabaaWRound
namespace Go.Proofs.Ytfhoekcmkbeabaa
open Go.RowKit
set_option linter.unusedVariables false
set_option linter.unusedSimpArgs false

set_option maxRecDepth 100000 in
theorem must_calls (k m left : Int) (w : World) : Calls Try.prog 49 #[.int .i64 k, .int .i64 m, .int .i64 left] w fun e w' => e = .returned (.bool (mustB k m left)) ∧ w = w' := by
  by_cases h1 : k = 1
  · subst h1
    go_enter Try.func49, Try.ntmps49
    go_wp2
    go_ret
    exact ⟨rfl, rfl⟩
  by_cases h2 : k = 2
  · subst h2
    clear h1
    go_enter Try.func49, Try.ntmps49
    go_wp2
    go_ret
    exact ⟨rfl, rfl⟩
  by_cases h3 : k = 3
  · subst h3
    clear h1 h2
    go_enter Try.func49, Try.ntmps49
    go_wp2
    go_ret
    exact ⟨rfl, rfl⟩
  by_cases h4 : k = 4
  · subst h4
    clear h1 h2 h3
    go_enter Try.func49, Try.ntmps49
    go_wp2
    go_ret
    exact ⟨rfl, rfl⟩
  by_cases h8 : k = 8
  · subst h8
    clear h1 h2 h3 h4
    by_cases hm : 0 ≤ m
    · have HE : Hid (mustB 8 m left = decide (m ≤ left)) := Lib.hid (by show (decide (0 ≤ m) && decide (m ≤ left)) = _; rw [decide_eq_true hm]; rfl)
      go_enter Try.func49, Try.ntmps49
      go_wp2
      go_ret
      exact ⟨by rw [HE.out]; rfl, rfl⟩
    · have HE : Hid (mustB 8 m left = false) := Lib.hid (by show (decide (0 ≤ m) && decide (m ≤ left)) = _; rw [decide_eq_false hm]; rfl)
      go_enter Try.func49, Try.ntmps49
      go_wp2
      go_ret
      exact ⟨by rw [HE.out]; rfl, rfl⟩
  · have HE : Hid (mustB k m left = false) := Lib.hid (by unfold mustB; rw [if_neg h1, if_neg h2, if_neg h3, if_neg h4, if_neg h8])
    have e1 : (k == 1) = false := beq_eq_false_iff_ne.2 h1
    have e2 : (k == 2) = false := beq_eq_false_iff_ne.2 h2
    have e3 : (k == 3) = false := beq_eq_false_iff_ne.2 h3
    have e4 : (k == 4) = false := beq_eq_false_iff_ne.2 h4
    have e8 : (k == 8) = false := beq_eq_false_iff_ne.2 h8
    clear h1 h2 h3 h4 h8
    go_enter Try.func49, Try.ntmps49
    go_wp2
    go_ret
    exact ⟨by rw [HE.out]; rfl, rfl⟩
/-- a reader and a writer that the call itself made, apart -/
structure Canon (w0 wr : World) (p : Nat) (pw : Value) (rest : List B8) (lim : Int) (out : List B8) where
  D : Nat → Prop
  F : Nat → Prop
  rh : Rh wr (.pointer (some ⟨p, 0, none⟩)) true p D ⟨rest, 0⟩
  dIn : In D wr
  pl : p < wr.heap.size
  wh : Wh wr F pw true ⟨lim, out, 0⟩
  fp : ¬ F p
  fd : Dj F D
  lo : Lo w0.heap.size F
  lp : w0.heap.size ≤ p
  st : St No w0 (Nw w0) wr
def CanonOn (w0 wr : World) (p : Nat) (pw : Value) (rest : List B8) (lim : Int) (out : List B8) : Prop := Nonempty (Canon w0 wr p pw rest lim out)
theorem CanonOn.still {w0 wr w1 : World} {p : Nat} {pw : Value} {rest : List B8} {lim : Int} {out : List B8} {X : Nat → Prop} (h : CanonOn w0 wr p pw rest lim out) (t : St No wr X w1) : CanonOn w0 w1 p pw rest lim out := by
  obtain ⟨b⟩ := h
  exact ⟨⟨b.D, b.F, b.rh.st t (fun h => h) (Dj.no _), b.dIn.st t, Nat.lt_of_lt_of_le b.pl t.size, b.wh.st t (Dj.no _), b.fp, b.fd, b.lo, b.lp, b.st.then t⟩⟩
def Canon.still {w0 wr w1 : World} {p : Nat} {pw : Value} {rest : List B8} {lim : Int} {out : List B8} {X : Nat → Prop} (b : Canon w0 wr p pw rest lim out) (t : St No wr X w1) : Canon w0 w1 p pw rest lim out :=
  ⟨b.D, b.F, b.rh.st t (fun h => h) (Dj.no _), b.dIn.st t, Nat.lt_of_lt_of_le b.pl t.size, b.wh.st t (Dj.no _), b.fp, b.fd, b.lo, b.lp, b.st.then t⟩
theorem St.low {w0 wr w1 : World} {F X : Nat → Prop} (h : St No w0 (Nw w0) wr) (t : St F wr X w1) (hF : ∀ k, F k → w0.heap.size ≤ k) : St No w0 (Nw w0) w1 :=
  ⟨t.os.trans h.os, t.tape.trans h.tape, t.output.trans h.output, Nat.le_trans h.size t.size, fun k hk hn => (t.block k (Nat.lt_of_lt_of_le hk h.size) (fun hf => absurd (hF k hf) (Nat.not_le.2 hk))).trans (h.block k hk hn), fun k hk => .inr hk⟩
theorem Canon.read {w0 wr w1 : World} {p : Nat} {pw : Value} {rest rest' : List B8} {lim : Int} {out : List B8} {X : Nat → Prop} (b : Canon w0 wr p pw rest lim out) (hr : Rh w1 (.pointer (some ⟨p, 0, none⟩)) true p b.D ⟨rest', 0⟩) (t : St (fpP p) wr X w1) : ∃ c : Canon w0 w1 p pw rest' lim out, c.F = b.F :=
  ⟨⟨b.D, b.F, hr, b.dIn.st t, Nat.lt_of_lt_of_le b.pl t.size, b.wh.st t (fun k hk hf => by obtain rfl : k = p := hk; exact b.fp hf), b.fp, b.fd, b.lo, b.lp, b.st.low t (fun k hk => by have e : k = p := hk; have := b.lp; omega)⟩, rfl⟩
theorem Canon.write {w0 wr w1 : World} {p : Nat} {pw : Value} {rest : List B8} {lim : Int} {out out' : List B8} {F' : Nat → Prop} (b : Canon w0 wr p pw rest lim out) (hw : Wh w1 F' pw true ⟨lim, out', 0⟩) (t : St b.F wr F' w1) : CanonOn w0 w1 p pw rest lim out' :=
  ⟨⟨b.D, F', b.rh.st t b.fp b.fd, b.dIn.st t, Nat.lt_of_lt_of_le b.pl t.size, hw, (fun h => (t.new p h).elim b.fp (fun h2 => absurd b.pl (Nat.not_lt.2 h2))), b.fd.st b.dIn t, b.lo.st b.st.size t, b.lp, b.st.low t (fun k hk => b.lo k hk)⟩⟩
theorem wrap64_w (x : Int) : -9223372036854775808 ≤ wrap64 x ∧ wrap64 x ≤ 9223372036854775807 := by unfold wrap64; omega
theorem tkT_wf (th : Bool) (s : RS) (k m : Int) : -9223372036854775808 ≤ (tkT th s k m).i ∧ (tkT th s k m).i ≤ 9223372036854775807 := by
  have := unzig_wf (varT th s)
  unfold tkT
  repeat' split
  all_goals simp
  all_goals exact this
theorem tkT_len (th : Bool) (s : RS) (k m : Int) : (tkT th s k m).bs.length ≤ s.rest.length := by
  unfold tkT rawB blockB
  repeat' split
  all_goals simp
  all_goals omega
set_option maxRecDepth 100000 in
set_option maxHeartbeats 4000000 in
theorem canon_walk (a0 : Option Addr) (c0 : Nat) (data : List B8) (hb0 : data.length ≤ 140737488351232) (hc0 : data.length ≤ c0) (hc1 : c0 ≤ 9223372036854775807) (a : Option Addr) (c : Nat) (ts : List Th) (hn : ts.length ≤ 140737488351232) (w : World) (hb : Bs w a0 data) (hs : StepsIn w a ts) :
    Calls Try.prog 12 #[.slice a0 data.length c0, .slice a ts.length c] w fun e w' => e = .returned (.bool true) ∧ Below w.heap.size w w' := by
  have HSI := Lib.hid hs
  have HB := Lib.hid hb
  clear hs hb
  by_cases hbig : (16777216 : Int) < (data.length : Int)
  · go_enter Try.func12, Try.ntmps12
    go_wp2
    go_ret
    exact ⟨rfl, (St.refl No w).below⟩
  · have hle : data.length ≤ 16777216 := by omega
    have HLE := Lib.hid hle
    clear hle
    go_enter Try.func12, Try.ntmps12
    go_wp2_with fail
    refine (newReader_calls a0 c0 data w HB.out).mono ?_
    rintro e w1 ⟨v, p, D, rfl, hr1, hlo1, hin1, hp1, hs1⟩
    rw [decide_eq_true HLE.out] at hr1
    obtain rfl : v = .pointer (some ⟨p, 0, none⟩) := by rcases hr1 with ⟨h, _⟩ | ⟨_, h, _⟩; cases h; exact h
    rw [if_pos HLE.out]
    have hpl : p < w1.heap.size := by rcases hr1 with ⟨h, _⟩ | ⟨_, _, hrr, _⟩; cases h; obtain ⟨_, _, ho, _⟩ := hrr; exact ho.lt
    have HR1 := Lib.hid hr1
    have HS1 := Lib.hid hs1
    have HIN1 := Lib.hid hin1
    have HPL := Lib.hid hpl
    have HP1 := Lib.hid hp1
    clear hr1 hlo1 hin1 hp1 hs1 hpl
    go_wp2_with fail
    refine (newWriter_calls (data.length : Int) w1).mono ?_
    rintro e w2 (⟨hl, rfl, rfl⟩ | ⟨_, pw, F0, rfl, hw2, hs2⟩)
    · exact absurd ⟨by omega, by have := HLE.out; omega⟩ hl
    have HC2 : Hid (CanonOn w w2 p (.pointer (some ⟨pw, 0, none⟩)) data (data.length : Int) []) := Lib.hid (by
      have hF : ∀ k, F0 k → w1.heap.size ≤ k := fun k hk => (hs2.new k hk).elim (fun h => h.elim) id
      exact ⟨⟨D, F0, HR1.out.st hs2 (fun h => h) (Dj.no _), HIN1.out.st hs2, Nat.lt_of_lt_of_le HPL.out hs2.size, .inr ⟨rfl, ⟨by simp, by have := HLE.out; simp; omega, by simp⟩, pw, rfl, hw2⟩, (fun h => absurd HPL.out (Nat.not_lt.2 (hF p h))), (fun k hk hd => absurd (HIN1.out k hd) (Nat.not_lt.2 (hF k hk))), (fun k hk => Nat.le_trans HS1.out.size (hF k hk)), HP1.out, HS1.out.then hs2⟩⟩)
    clear hw2 hs2
    go_wp2_with (go_at_call 32; refine (num_calls _ _).mono ?_; rintro e w3 ⟨rfl, rfl⟩)
    go_loopw [9, 10] (fun x i wr => ∃ (k : Nat) (out rest : List B8), k ≤ ts.length ∧ i = .int .i64 k ∧ x = .int .i64 (out.length : Int) ∧ Hid (out ++ rest = data) ∧ Hid (CanonOn w wr p (.pointer (some ⟨pw, 0, none⟩)) rest (data.length : Int) out)) (fun _ i _ => ts.length - (intOf i).toNat)
    case atStart => exact ⟨0, [], data, by omega, rfl, rfl, Lib.hid rfl, HC2⟩
    case round =>
      clear HC2 HR1 HS1 HIN1 HPL HP1
      obtain ⟨k, out, rest, hk, rfl, rfl, HOR, HC⟩ := hrel
      have hol : out.length + rest.length = data.length := by rw [← HOR.out, List.length_append]
      by_cases hlt : k < ts.length
      · obtain ⟨t, ht⟩ : ∃ t, ts[k]? = some t := ⟨_, List.getElem?_eq_getElem hlt⟩
        obtain ⟨b⟩ := HC.out
        obtain ⟨x, rfl, hc, hok⟩ := (HSI.out.st b.st) k t ht
        have HBD : Hid (∀ W, St No wr No W → Bs W a0 data) := Lib.hid (fun W st => (HB.out.st b.st (Dj.no _)).st st (Dj.no _))
        clear hok ht
        obtain ⟨kind, n, i, f, ta, tc, bs⟩ := t
        have c0' : wr.cell? (x.add (k * 5)) = some (.int .i64 kind) := hc 0 _ rfl
        have c1' : wr.cell? ⟨(x.add (k * 5)).block, (x.add (k * 5)).off + 1, none⟩ = some (.int .u64 (n.toNat : Int)) := hc 1 _ rfl
        have c2' : wr.cell? ⟨(x.add (k * 5)).block, (x.add (k * 5)).off + 2, none⟩ = some (.int .i64 i) := hc 2 _ rfl
        have c3' : wr.cell? ⟨(x.add (k * 5)).block, (x.add (k * 5)).off + 3, none⟩ = some (.bool f) := hc 3 _ rfl
        have c4' : wr.cell? ⟨(x.add (k * 5)).block, (x.add (k * 5)).off + 4, none⟩ = some (.slice ta bs.length tc) := hc 4 _ rfl
        clear hc
        by_cases hk19 : 1 ≤ kind ∧ kind ≤ 9
        · have HIS : Hid (∀ W, Calls Try.prog 33 #[.int .i64 kind] W fun e w' => e = .returned (.bool true) ∧ W = w') := Lib.hid (fun W => (isThing_calls kind W).mono fun e w' h => by rw [decide_eq_true hk19.1, decide_eq_true hk19.2] at h; exact h)
          have hrl : rest.length ≤ 140737488351232 := by omega
          have HTK : Hid (∀ o M, M ≤ 9223372036854775807 → Calls Try.prog 47 #[.pointer (some ⟨p, 0, none⟩), .int .i64 kind, .int .i64 M] (wr.alloc o) (GrabPost (wr.alloc o) (.pointer (some ⟨p, 0, none⟩)) true p b.D ⟨rest, 0⟩ kind M)) := Lib.hid (fun o M hM =>
            grab_calls kind M hk19.1 hk19.2 hM _ _ true p b.D (b.dIn.st (St.alloc' No wr o)) (Nat.lt_of_lt_of_le b.pl (St.alloc' No wr o).size) _ hrl (b.rh.st (St.alloc' No wr o) (fun h => h) (Dj.no _)))
          have hpl := b.pl
          go_wp2_with (first
            | (go_at_call 33; refine (HIS.out _).mono ?_; rintro e w1 ⟨rfl, rfl⟩)
            | fail)
          have hMb := wrap64_w (n.toNat : Int)
          generalize wrap64 (n.toNat : Int) = M at *
          refine (HTK.out _ M hMb.2).mono ?_
          rintro e w2 ⟨V, rfl, ho2, hr2, hs2, hn2⟩
          have HCN := Lib.hid (read_canon rest kind M hk19.1 hk19.2)
          have HSTP := Lib.hid (read_stop rest kind M hk19.1 hk19.2)
          have hwf := tkT_wf true ⟨rest, 0⟩ kind M
          have htl := tkT_len true ⟨rest, 0⟩ kind M
          have hsT : Ob w2 wr.heap.size 49 #[.int .i64 kind, .int .u64 (n.toNat : Int), .int .i64 i, .bool f, .slice ta bs.length tc] := (hs2.block wr.heap.size (by simp) (fun hf => by have e : wr.heap.size = p := hf; omega)).trans (heap_alloc_new wr _)
          obtain ⟨j0, j1, j2, j3, j4, _, _, _, _, _⟩ := hsT.five
          have hlt2 : wr.heap.size < w2.heap.size := hsT.lt
          have n34 : wr.heap.size ≠ w2.heap.size := by omega
          have n43 : w2.heap.size ≠ wr.heap.size := by omega
          obtain ⟨T, hT⟩ : ∃ T, tkT true ⟨rest, 0⟩ kind M = T := ⟨_, rfl⟩
          obtain ⟨S, hS⟩ : ∃ S, RS.tk ⟨rest, 0⟩ kind M = S := ⟨_, rfl⟩
          rw [hT] at ho2 HCN hwf htl
          rw [hS] at hr2 HCN HSTP
          rw [hT]
          obtain ⟨tn, ti, tf, tb⟩ := T
          simp only at ho2 HCN hwf htl
          obtain ⟨va, vc, rfl, hv1, hv2, hv3, hv4⟩ := ho2.form
          simp only [Tk.cells]
          have HER : Hid (∀ o, Calls Try.prog 48 #[.pointer (some ⟨p, 0, none⟩)] (w2.alloc o) fun e w' => e = .returned (.int .i64 S.err) ∧ (w2.alloc o) = w') := Lib.hid (fun o => rErr2_calls _ _ true p b.D S (hr2.st (St.alloc' No w2 o) (fun h => h) (Dj.no _)))
          have hsw : St (fpP p) wr (fun q => fpP p q ∨ fpV (.slice va tb.length vc) q) w2 := (St.alloc' (fpP p) wr _).trans hs2
          obtain ⟨rest', err'⟩ := S
          clear hT hS
          by_cases herr : err' = 0
          · subst herr
            have hcn := HCN.out rfl va vc
            simp only at hcn
            obtain ⟨c2, hcF⟩ := b.read hr2 hsw
            have HBF : Hid (∀ q, b.F q → ¬ fpV (.slice va tb.length vc) q) := Lib.hid (fun q hq hf => by
              have h1 := b.wh.in q hq
              have h2 := hn2 q hf
              simp at h2
              omega)
            have HOK : Hid (∀ W, St No w2 No W → Th.ok W ⟨kind, tn, ti, tf, va, vc, tb⟩) := Lib.hid (fun W st => ⟨hwf.1, hwf.2, by show tb.length ≤ _; omega, (fun h => (hv4 h).2), ho2.bs.st st (Dj.no _)⟩)
            obtain ⟨by_, hby⟩ : ∃ by_, Th.bytes ⟨kind, tn, ti, tf, va, vc, tb⟩ = by_ := ⟨_, rfl⟩
            rw [hby] at hcn
            have hcl : by_.length + rest'.length = rest.length := by rw [← hcn, List.length_append]
            have HLY : Hid (∀ o, Calls Try.prog 36 #[.pointer (some ⟨pw, 0, none⟩), .agg #[.int .i64 kind, .int .u64 (tn.toNat : Int), .int .i64 ti, .bool tf, .slice va tb.length vc]] (w2.alloc o) fun e w' => e = .returned (.bool true) ∧ CanonOn w w' p (.pointer (some ⟨pw, 0, none⟩)) rest' (data.length : Int) (out ++ by_) ∧ ∃ X, St (c2.still (St.alloc' No w2 o)).F (w2.alloc o) X w') := Lib.hid (fun o => by
              have st := St.alloc' No w2 o
              refine (lawLay_calls ⟨kind, tn, ti, tf, va, vc, tb⟩ hk19.1 hk19.2 (w2.alloc o) c2.F _ true _ (c2.wh.st st (Dj.no _)) (HOK.out _ st) (.inr (fun q hq hf => HBF.out q (by rw [← hcF]; exact hq) ((hv3 q).2 hf)))).mono ?_
              rintro e w' ⟨rfl, F', hw', hst'⟩
              have hput : putT true ⟨(data.length : Int), out, 0⟩ (Th.bytes ⟨kind, tn, ti, tf, va, vc, tb⟩) = ⟨(data.length : Int), out ++ by_, 0⟩ := by
                rw [hby]
                show WS.put ⟨(data.length : Int), out, 0⟩ by_ = _
                exact WS.put_eq _ _ rfl (by show (by_.length : Int) ≤ (data.length : Int) - (out.length : Int); omega)
              rw [hput] at hw'
              exact ⟨rfl, (c2.still st).write hw' hst', _, hst'⟩)
            have HBD2 : Hid (∀ W, (∃ o X, St (c2.still (St.alloc' No w2 o)).F (w2.alloc o) X W) → Bs W a0 (out ++ by_)) := Lib.hid (by
              rintro W ⟨o, X, st⟩
              have hcur : Bs (w2.alloc o) a0 data := (HB.out.st (b.st.low hsw (fun q hq => by have e : q = p := hq; have := b.lp; omega)) (Dj.no _)).st (St.alloc' No w2 o) (Dj.no _)
              have hap : Apart c2.F a0 data := HB.out.apart c2.lo
              have h := (hcur.stA st hap).take (out ++ by_).length
              have e : data.take (out ++ by_).length = out ++ by_ := by rw [← HOR.out, ← hcn, ← List.append_assoc, List.take_left]
              rw [e] at h
              exact h)
            have HOR2 : Hid ((out ++ by_) ++ rest' = data) := Lib.hid (by rw [List.append_assoc, hcn, HOR.out])
            clear hby hcn HCN HSTP hwf htl hr2 hs2 hn2 ho2 hv1 hv2 hv3 hv4 hsT hol
            obtain ⟨o2, ho2⟩ : ∃ o2, out ++ by_ = o2 := ⟨_, rfl⟩
            rw [ho2] at HLY HBD2 HOR2
            have hol2 : o2.length + rest'.length = data.length := by rw [← HOR2.out, List.length_append]
            have hneq : ((rest'.length : Int) != (data.length : Int) - (o2.length : Int)) = false := by rw [bne_eq_false_iff_eq]; omega
            have hole : (o2.length : Int) ≤ (data.length : Int) := by omega
            clear ho2 hcl
            go_wp2_with (first
              | (go_at_call 48; refine (HER.out _).mono ?_; rintro e w6 ⟨rfl, rfl⟩)
              | (go_at_call 32; refine (num_calls _ _).mono ?_; rintro e w7 ⟨rfl, rfl⟩)
              | (go_at_call 36; refine (HLY.out _).mono ?_; rintro e w3 ⟨rfl, hc3, X3, hs3⟩; have HC3 := Lib.hid hc3; have HB3 : Hid (Bs w3 a0 o2) := Lib.hid (HBD2.out w3 ⟨_, X3, hs3⟩); clear hs3; obtain ⟨b3⟩ := hc3; have HLN : Hid (Calls Try.prog 51 #[.pointer (some ⟨pw, 0, none⟩)] w3 fun e w' => e = .returned (.int .i64 (o2.length : Int)) ∧ w3 = w') := Lib.hid (wLen_calls w3 b3.F _ true ⟨(data.length : Int), o2, 0⟩ (fun h => by cases h) b3.wh); have HOU := Lib.hid (wOut_calls w3 b3.F _ true ⟨(data.length : Int), o2, 0⟩ b3.wh); clear b3)
              | (go_at_call 51; refine HLN.out.mono ?_; rintro e w8 ⟨rfl, rfl⟩)
              | fail)
            refine HOU.out.mono ?_
            rintro e w4 (⟨h, _⟩ | ⟨_, g, rfl, ho4, hg4, hs4⟩)
            · exact absurd rfl h
            simp only at ho4
            have HC4 : Hid (CanonOn w w4 p (.pointer (some ⟨pw, 0, none⟩)) rest' (data.length : Int) o2) := Lib.hid (HC3.out.still hs4)
            have HSM : Hid (Calls Try.prog 17 #[.slice (some ⟨g, 0, none⟩) o2.length o2.length, .slice a0 o2.length c0] w4 fun e w' => e = .returned (.bool true) ∧ Dr w4 w') := Lib.hid (
              (same_calls (some ⟨g, 0, none⟩) o2.length o2 a0 c0 o2 (by unfold maxLen; omega) (by unfold maxLen; omega) w4 ho4.bs (HB3.out.st hs4 (Dj.no _))).mono fun e w' h => by rw [decide_eq_true rfl] at h; exact h)
            have HLF : Hid (∀ W, CanonOn w W p (.pointer (some ⟨pw, 0, none⟩)) rest' (data.length : Int) o2 → Calls Try.prog 50 #[.pointer (some ⟨p, 0, none⟩)] W fun e w' => e = .returned (.int .i64 (rest'.length : Int)) ∧ W = w') := Lib.hid (fun W ⟨b5⟩ => rLeft2_calls W _ true p b5.D _ b5.rh)
            clear ho4 hs4 hg4
            go_wp2_with (first
              | (go_at_call 32; refine (num_calls _ _).mono ?_; rintro e w7 ⟨rfl, rfl⟩)
              | (go_at_call 17; refine HSM.out.mono ?_; rintro e w5 ⟨rfl, hd5⟩; have HC5 : Hid (CanonOn w w5 p (.pointer (some ⟨pw, 0, none⟩)) rest' (data.length : Int) o2) := Lib.hid (HC4.out.still (hd5.st No)); clear hd5)
              | (go_at_call 50; refine (HLF.out _ HC5.out).mono ?_; rintro e w8 ⟨rfl, rfl⟩))
            go_roundw
            case rel => exact ⟨k + 1, o2, rest', by omega, by go_num, rfl, HOR2, HC5⟩
            case measure => simp [intOf]; omega
          · have hst := HSTP.out herr
            simp only at hst
            obtain ⟨hmu, hre⟩ := hst
            subst hre
            have heb : (err' != 0) = true := by rw [bne_iff_ne]; exact herr
            have hlq : ((rest'.length : Int) == (data.length : Int) - (out.length : Int)) = true := by rw [beq_iff_eq]; omega
            have HMU : Hid (∀ W, Calls Try.prog 49 #[.int .i64 kind, .int .i64 M, .int .i64 ((data.length : Int) - (out.length : Int))] W fun e w' => e = .returned (.bool false) ∧ W = w') := Lib.hid (fun W => by
              have h := must_calls kind M ((data.length : Int) - (out.length : Int)) W
              rw [show (data.length : Int) - (out.length : Int) = (rest'.length : Int) by omega, hmu] at h
              rw [show (data.length : Int) - (out.length : Int) = (rest'.length : Int) by omega]
              exact h)
            have HLF : Hid (∀ o, Calls Try.prog 50 #[.pointer (some ⟨p, 0, none⟩)] (w2.alloc o) fun e w' => e = .returned (.int .i64 (rest'.length : Int)) ∧ (w2.alloc o) = w') := Lib.hid (fun o => rLeft2_calls _ _ true p b.D ⟨rest', err'⟩ (hr2.st (St.alloc' No w2 o) (fun h => h) (Dj.no _)))
            have HST : Hid (∀ o, St No w (Nw w) (w2.alloc o)) := Lib.hid (fun o => (b.st.low hsw (fun q hq => by have e : q = p := hq; have := b.lp; omega)).then (St.alloc' No w2 o))
            have hoc : (out.length : Int) ≤ (data.length : Int) := by omega
            clear herr HCN HSTP hwf htl hr2 hs2 hn2 ho2 hv1 hv2 hv3 hv4 hsT hol hmu
            go_wp2_with (first
              | (go_at_call 48; refine (HER.out _).mono ?_; rintro e w6 ⟨rfl, rfl⟩)
              | (go_at_call 32; refine (num_calls _ _).mono ?_; rintro e w7 ⟨rfl, rfl⟩)
              | (go_at_call 49; refine (HMU.out _).mono ?_; rintro e w7 ⟨rfl, rfl⟩)
              | (go_at_call 50; refine (HLF.out _).mono ?_; rintro e w8 ⟨rfl, rfl⟩))
            go_ret
            exact ⟨rfl, (HST.out _).below⟩
        · have HIS : Hid (∀ W, Calls Try.prog 33 #[.int .i64 kind] W fun e w' => e = .returned (.bool false) ∧ W = w') := Lib.hid (fun W => (isThing_calls kind W).mono fun e w' h => by
            have hd : (decide (1 ≤ kind) && decide (kind ≤ 9)) = false := by simp; omega
            rw [hd] at h; exact h)
          clear hk19
          go_wp2_with (go_at_call 33; refine (HIS.out _).mono ?_; rintro e w1 ⟨rfl, rfl⟩)
          go_roundw
          case rel => exact ⟨k + 1, out, rest, by omega, by go_num, rfl, HOR, Lib.hid (HC.out.still (St.alloc' No wr _))⟩
          case measure => simp [intOf]; omega
      · obtain rfl : k = ts.length := by omega
        obtain ⟨b⟩ := HC.out
        have HST := Lib.hid b.st
        clear b
        go_wp2
        go_ret
        exact ⟨rfl, HST.out.below⟩
end Go.Proofs.Ytfhoekcmkbeabaa
