
/-
  The walks over the reference's take of every kind; its reader's Take.
-/
import Derived.Test.YtfhoekcmkbeabaaCwRBlock
namespace Go.Proofs.Ytfhoekcmkbeabaa
open Go.RowKit
set_option linter.unusedVariables false
set_option linter.unusedSimpArgs false

set_option maxRecDepth 100000 in
set_option maxHeartbeats 1000000 in
theorem rtake9 (a : Option Addr) (c : Nat) (bs : List B8) (hn : bs.length ≤ 16777216) (hcl : bs.length ≤ c) (hcm : c ≤ 9223372036854775807) (at_ : Nat) (hat : at_ ≤ bs.length) (m : Int) (hm1 : -9223372036854775808 ≤ m) (hm : m ≤ 9223372036854775807) (w : World) (hb : Bs w a bs) :
    Calls Try.prog 109 #[.slice a bs.length c, .int .i64 (at_ : Int), .int .i64 9, .int .i64 m] w (RTakePost w (bs.drop at_) 9 m) := by
  have HC : Hid (∀ W, St No w No W → Calls Try.prog 116 #[.slice a bs.length c, .int .i64 (at_ : Int), .int .i64 m] W (RTakePost W (bs.drop at_) 9 m)) := Lib.hid (fun W h => rblock a c bs hn hcl hcm at_ hat m hm1 hm W (hb.st h (Dj.no _)))
  have hu := Try.underlying51
  have HS0 : Hid (∀ o1 o2, St No w No ((w.alloc o1).alloc o2)) := Lib.hid (fun o1 o2 => (St.alloc' No w _).trans (St.alloc' No _ _))
  clear hb
  unfold RTakePost at HC
  unfold RTakePost
  generalize tkT true ⟨bs.drop at_, 0⟩ 9 m = T at *
  obtain ⟨tn, ti, tf, tb⟩ := T
  generalize RS.tk ⟨bs.drop at_, 0⟩ 9 m = S at *
  simp only [Tk.cells] at HC ⊢
  go_enter Try.func109, Try.ntmps109
  go_wp2_with fail
  refine (HC.out _ (HS0.out _ _)).mono ?_
  rintro e w1 ⟨K, V, adv, E, rfl, ho1, hs1, ht, hadv⟩
  obtain ⟨va, vc, rfl, _, _, _, _⟩ := ho1.form
  have hR : Ob w1 w.heap.size 51 #[.int .i64 0, .int .u64 0, .int .i64 0, .bool false, .slice none 0 0] := (hs1.block _ (by simp; omega) (fun h => h)).trans (mid2 w _ _)
  obtain ⟨r0, r1, r2, r3, r4, s0, s1, s2, s3, s4⟩ := hR.five
  have HR := Lib.hid hR
  have HS1 := Lib.hid hs1
  have HO1 := Lib.hid ho1
  have HT := Lib.hid ht
  have hnw : ∀ k, fpV (.slice va tb.length vc) k → w.heap.size + 2 ≤ k := fun k hk => (hs1.new k hk).elim (fun h => h.elim) (fun h => by simpa using h)
  have HNW := Lib.hid hnw
  have HAD := Lib.hid hadv
  clear hR hs1 ho1 ht hnw hadv
  go_wp2
  refine bodyPost_ret (results_cell_row_tmp2 rfl _ _ w.heap.size _ _ _ _ rfl (((((HR.out.set 0 _).set 1 _).set 2 _).set 3 _).set 4 _) hu rfl thInfo) rfl ?_
  have t1 := fun v0 v1 v2 v3 v4 => ((((St.setCell (F := RT w) w1 ⟨w.heap.size, 0, none⟩ v0 (.inl rfl)).trans (St.setCell _ ⟨w.heap.size, 1, none⟩ v1 (.inl rfl))).trans (St.setCell _ ⟨w.heap.size, 2, none⟩ v2 (.inl rfl))).trans (St.setCell _ ⟨w.heap.size, 3, none⟩ v3 (.inl rfl))).trans (St.setCell _ ⟨w.heap.size, 4, none⟩ v4 (.inl rfl))
  exact ⟨K, _, adv, E, rfl, HO1.out.st (t1 _ _ _ _ _) (by rintro k (rfl | rfl) hk <;> have := HNW.out _ hk <;> omega), (rst (HS0.out _ _) HS1.out (t1 _ _ _ _ _)).drop (fun k hk => .inr (.inl hk)), HT.out, HAD.out⟩
theorem rtake_calls (k : Int) (hk1 : 1 ≤ k) (hk9 : k ≤ 9) (a : Option Addr) (c : Nat) (bs : List B8) (hn : bs.length ≤ 16777216) (hcl : bs.length ≤ c) (hcm : c ≤ 9223372036854775807) (at_ : Nat) (hat : at_ ≤ bs.length) (m : Int) (hm1 : -9223372036854775808 ≤ m) (hm : m ≤ 9223372036854775807) (w : World) (hb : Bs w a bs) :
    Calls Try.prog 109 #[.slice a bs.length c, .int .i64 (at_ : Int), .int .i64 k, .int .i64 m] w (RTakePost w (bs.drop at_) k m) := by
  rcases (by omega : k = 1 ∨ k = 2 ∨ k = 3 ∨ k = 4 ∨ k = 5 ∨ k = 6 ∨ k = 7 ∨ k = 8 ∨ k = 9) with rfl | rfl | rfl | rfl | rfl | rfl | rfl | rfl | rfl
  · exact rtake1 a c bs hn hcl hcm at_ hat m hm1 hm w hb
  · exact rtake2 a c bs hn hcl hcm at_ hat m hm1 hm w hb
  · exact rtake3 a c bs hn hcl hcm at_ hat m hm1 hm w hb
  · exact rtake4 a c bs hn hcl hcm at_ hat m hm1 hm w hb
  · exact rtake5 a c bs hn hcl hcm at_ hat m hm1 hm w hb
  · exact rtake6 a c bs hn hcl hcm at_ hat m hm1 hm w hb
  · exact rtake7 a c bs hn hcl hcm at_ hat m hm1 hm w hb
  · exact rtake8 a c bs hn hcl hcm at_ hat m hm1 hm w hb
  · exact rtake9 a c bs hn hcl hcm at_ hat m hm1 hm w hb
/-- what the reference's reader takes -/
def GetP (w : World) (p : Nat) (th : Bool) (D : Nat → Prop) (dat : List B8) (T : Tk) (S : RS) (e : Ending) (w' : World) : Prop :=
  ∃ K V g', e = .returned (.agg (T.cells K V)) ∧ OwB w' V T.bs ∧ Rg w' p th D g' ∧ (g'.rs = S ∧ g'.data = dat) ∧ St (fpP p) w (fun q => fpP p q ∨ fpV V q) w' ∧ (∀ q, fpV V q → w.heap.size ≤ q)
def GetPost (w : World) (p : Nat) (th : Bool) (D : Nat → Prop) (g : RG) (k m : Int) : Ending → World → Prop := GetP w p th D g.data (tkT th g.rs k m) (if th then g.rs.tk k m else g.rs)
def FT (w : World) (p : Nat) : Nat → Prop := fun k => k = p ∨ w.heap.size ≤ k
theorem Ob.five_move {w : World} {p r : Nat} {T : TypeId} {cs : Array Value} {a b c d e : Value} (h : Ob w p T cs) (hr : p ≠ r) : Ob (((((w.setCell ⟨r, 0, none⟩ a).setCell ⟨r, 1, none⟩ b).setCell ⟨r, 2, none⟩ c).setCell ⟨r, 3, none⟩ d).setCell ⟨r, 4, none⟩ e) p T cs :=
  ((((h.move (Below.heap_setCell _ _ _ _ hr)).move (Below.heap_setCell _ _ _ _ hr)).move (Below.heap_setCell _ _ _ _ hr)).move (Below.heap_setCell _ _ _ _ hr)).move (Below.heap_setCell _ _ _ _ hr)
theorem St.five {F : Nat → Prop} (w : World) (r : Nat) (a b c d e : Value) (h : F r) : St F w F (((((w.setCell ⟨r, 0, none⟩ a).setCell ⟨r, 1, none⟩ b).setCell ⟨r, 2, none⟩ c).setCell ⟨r, 3, none⟩ d).setCell ⟨r, 4, none⟩ e) :=
  ((((St.setCell _ _ _ h).trans (St.setCell _ _ _ h)).trans (St.setCell _ _ _ h)).trans (St.setCell _ _ _ h)).trans (St.setCell _ _ _ h)
theorem get_end {w w1 w2 wf : World} {p : Nat} {D : Nat → Prop} {T : Tk} {S : RS} {K : Int} {va : Option Addr} {vc : Nat} {data : List B8} {pos adv : Nat} {E : Int} {a : Option Addr} {c : Nat}
    (hH : Bs w a data) (h1 : data.length ≤ c) (h2 : c ≤ 9223372036854775807) (h3 : a = none → c = 0) (h4 : ∀ k, fpA a k → D k) (h6 : data.length ≤ 16777216) (hd : ¬ D p) (hw : St No w (fpV (.slice va T.bs.length vc)) w1)
    (hs : St No w1 No w2) (t : St (FT w p) w2 (FT w p) wf) (hob : Ob wf p 77 #[.bool true, .slice a data.length c, .int .i64 ((pos : Int) + (adv : Int)), .int .i64 E])
    (ho : OwB wf (.slice va T.bs.length vc) T.bs) (ht : S = ⟨(data.drop pos).drop adv, E⟩) (hadv : adv ≤ (data.drop pos).length) (hpos : pos ≤ data.length) {e : Ending} (he : e = .returned (.agg (T.cells K (.slice va T.bs.length vc)))) (hnw : ∀ q, fpV (.slice va T.bs.length vc) q → w.heap.size ≤ q) : GetP w p true D data T S e wf := by
  have h12 := hw.trans (hs.wide (F' := fpV (.slice va T.bs.length vc)) (G' := fpV (.slice va T.bs.length vc)) (fun _ h => h.elim) (fun _ h => .inl h))
  have hst : St (fpP p) w (fun q => fpP p q ∨ fpV (.slice va T.bs.length vc) q) wf := by
    refine ⟨t.os.trans h12.os, t.tape.trans h12.tape, t.output.trans h12.output, Nat.le_trans h12.size t.size, fun k hk hn => ?_, fun k hk => ?_⟩
    · rw [t.block k (Nat.lt_of_lt_of_le hk h12.size) (by rintro (h | h); exact hn h; omega)]
      exact h12.block k hk (fun h => h)
    · rcases hk with hk | hk
      · exact .inl hk
      · exact .inr (hnw k hk)
  have hl : pos + adv ≤ data.length := by simp at hadv; omega
  refine ⟨K, _, ⟨data, pos + adv, E⟩, he, ho, ⟨a, c, ?_, hH.st hst ?_, h1, h2, h3, h4, hl, h6⟩, ⟨?_, rfl⟩, hst, hnw⟩
  · simp only [Int.natCast_add]; exact hob
  · rintro k hk hf
    have e : k = p := hk
    subst e
    exact hd (h4 _ hf)
  · unfold RG.rs
    rw [ht, List.drop_drop]
set_option maxRecDepth 100000 in
set_option maxHeartbeats 2000000 in
theorem get_open (k m : Int) (hk1 : 1 ≤ k) (hk9 : k ≤ 9) (hm1 : -9223372036854775808 ≤ m) (hm : m ≤ 9223372036854775807) (w : World) (p : Nat) (D : Nat → Prop) (hdp : ¬ D p) (data : List B8) (pos : Nat) (h : Rg w p true D ⟨data, pos, 0⟩) :
    Calls Try.prog 91 #[.pointer (some ⟨p, 0, none⟩), .int .i64 k, .int .i64 m] w (GetP w p true D data (tkT true ⟨data.drop pos, 0⟩ k m) (RS.tk ⟨data.drop pos, 0⟩ k m)) := by
  obtain ⟨a, c, hob, hb, h1, h2, h3, h4, h5, h6⟩ := h
  simp only at hob hb h1 h5 h6
  have HC : Hid (∀ W, St No w No W → Calls Try.prog 109 #[.slice a data.length c, .int .i64 (pos : Int), .int .i64 k, .int .i64 m] W (RTakePost W (data.drop pos) k m)) := Lib.hid (fun W h => rtake_calls k hk1 hk9 a c data h6 h1 h2 pos h5 m hm1 hm W (hb.st h (Dj.no _)))
  have k0 : w.cell? ⟨p, 0, none⟩ = some (.bool true) := by rw [hob.cell 0]; rfl
  have k1 : w.cell? ⟨p, 1, none⟩ = some (.slice a data.length c) := by rw [hob.cell 1]; rfl
  have k2 : w.cell? ⟨p, 2, none⟩ = some (.int .i64 (pos : Int)) := by rw [hob.cell 2]; rfl
  have k3 : w.cell? ⟨p, 3, none⟩ = some (.int .i64 0) := by rw [hob.cell 3]; rfl
  have f2 := hob.free 2
  have f3 := hob.free 3
  have hpl := hob.lt
  have hn0 : p ≠ w.heap.size := by omega
  have hn1 : p ≠ w.heap.size + 1 := by omega
  have hn2 : w.heap.size ≠ p := by omega
  have hn3 : w.heap.size + 1 ≠ p := by omega
  have HOB := Lib.hid hob
  have HDP := Lib.hid hdp
  have HB := Lib.hid hb
  have H3 := Lib.hid h3
  have H4 := Lib.hid h4
  have hu := Try.underlying51
  have HS0 : Hid (∀ o1, St No w No (w.alloc o1)) := Lib.hid (fun o1 => St.alloc' No w _)
  clear hb h3 h4 hob hdp
  unfold RTakePost at HC
  generalize tkT true ⟨data.drop pos, 0⟩ k m = T at *
  obtain ⟨tn, ti, tf, tb⟩ := T
  generalize RS.tk ⟨data.drop pos, 0⟩ k m = S at *
  simp only [Tk.cells] at HC
  go_enter Try.func91, Try.ntmps91
  go_wp2
  go_region_held3 (fun w' => w'.cell? ⟨p, 1, none⟩ = some (.slice a data.length c) ∧ w'.cell? ⟨p, 2, none⟩ = some (.int .i64 (pos : Int))) (go_keep)
    (first
      | (go_at_call 109
         refine (HC.out _ (((HS0.out _).trans (St.alloc' No _ _)).trans (St.drew No _))).mono ?_
         rintro e w1 ⟨K, V, adv, E, rfl, ho1, hs1, ht, hadv⟩
         obtain ⟨va, vc, rfl, _, _, _, _⟩ := ho1.form
         have hw := (((HS0.out _).trans (St.alloc' No _ _)).trans (St.drew No _)).trans hs1
         have hob1 := HOB.out.move (hw.block p hpl (fun h => h))
         have k1' : w1.cell? ⟨p, 1, none⟩ = some (.slice a data.length c) := by rw [hob1.cell 1]; rfl
         have k2' : w1.cell? ⟨p, 2, none⟩ = some (.int .i64 (pos : Int)) := by rw [hob1.cell 2]; rfl
         have hadl : (adv : Int) ≤ 16777216 := by have := hadv; simp at this; omega
         have hwl := hw.size
         have q0 : p ≠ w1.heap.size := by omega
         have q1 : w1.heap.size ≠ p := by omega
         have q2 : w.heap.size ≠ w1.heap.size := by have := hs1.size; simp at this; omega
         have q3 : w1.heap.size ≠ w.heap.size := Ne.symm q2
         have f2' := hob1.free 2
         have f3' := hob1.free 3
         have k3' : w1.cell? ⟨p, 3, none⟩ = some (.int .i64 0) := by rw [hob1.cell 3]; rfl
         have hR : Ob w1 w.heap.size 51 #[.int .i64 0, .int .u64 0, .int .i64 0, .bool false, .slice none 0 0] := (hs1.block _ (by simp; try omega) (fun h => h)).trans (mid2 w _ _)
         obtain ⟨r0, r1, r2, r3, r4, s0, s1, s2, s3, s4⟩ := hR.five
         have hT : Ob w1 (w.heap.size + 1) 51 #[.int .i64 0, .int .u64 0, .int .i64 0, .bool false, .slice none 0 0] := (hs1.block _ (by simp) (fun h => h)).trans (new2 w _ _)
         obtain ⟨c0, c1, c2, c3, c4, e0, e1, e2, e3, e4⟩ := hT.five
         have HTT := Lib.hid hT
         clear hT
         have hnw : ∀ q, fpV (.slice va tb.length vc) q → w.heap.size + 2 ≤ q := fun q hq => (hs1.new q hq).elim (fun h => h.elim) (fun h => by simpa using h)
         have HNW := Lib.hid hnw
         have HIV := Lib.hid ho1.in
         have HOB1 := Lib.hid hob1
         have HR := Lib.hid hR
         have HO1 := Lib.hid ho1
         have HW1 := Lib.hid hw
         have HT := Lib.hid ht
         have HAD := Lib.hid hadv
         clear ho1 hs1 ht hadv hw hob1 hR hwl hnw)
      | (go_at_call 109
         refine (HC.out _ ((HS0.out _).trans (St.drew No _))).mono ?_
         rintro e w1 ⟨K, V, adv, E, rfl, ho1, hs1, ht, hadv⟩
         obtain ⟨va, vc, rfl, _, _, _, _⟩ := ho1.form
         have hw := ((HS0.out _).trans (St.drew No _)).trans hs1
         have hob1 := HOB.out.move (hw.block p hpl (fun h => h))
         have k1' : w1.cell? ⟨p, 1, none⟩ = some (.slice a data.length c) := by rw [hob1.cell 1]; rfl
         have k2' : w1.cell? ⟨p, 2, none⟩ = some (.int .i64 (pos : Int)) := by rw [hob1.cell 2]; rfl
         have hadl : (adv : Int) ≤ 16777216 := by have := hadv; simp at this; omega
         have hwl := hw.size
         have q0 : p ≠ w1.heap.size := by omega
         have q1 : w1.heap.size ≠ p := by omega
         have q2 : w.heap.size ≠ w1.heap.size := by have := hs1.size; simp at this; omega
         have q3 : w1.heap.size ≠ w.heap.size := Ne.symm q2
         have f2' := hob1.free 2
         have f3' := hob1.free 3
         have k3' : w1.cell? ⟨p, 3, none⟩ = some (.int .i64 0) := by rw [hob1.cell 3]; rfl
         have hR : Ob w1 w.heap.size 51 #[.int .i64 0, .int .u64 0, .int .i64 0, .bool false, .slice none 0 0] := (hs1.block _ (by simp; try omega) (fun h => h)).trans (heap_alloc_new w _)
         obtain ⟨r0, r1, r2, r3, r4, s0, s1, s2, s3, s4⟩ := hR.five
         have hnw : ∀ q, fpV (.slice va tb.length vc) q → w.heap.size + 1 ≤ q := fun q hq => (hs1.new q hq).elim (fun h => h.elim) (fun h => by simpa using h)
         have HNW := Lib.hid hnw
         have HIV := Lib.hid ho1.in
         have HOB1 := Lib.hid hob1
         have HR := Lib.hid hR
         have HO1 := Lib.hid ho1
         have HW1 := Lib.hid hw
         have HT := Lib.hid ht
         have HAD := Lib.hid hadv
         clear ho1 hs1 ht hadv hw hob1 hR hwl hnw))
  · generalize hw2 : w1.alloc (.cells #[.int .i64 K, .int .u64 (tn.toNat : Int), .int .i64 ti, .bool tf, .slice va tb.length vc] 51) = w2
    have s12 : St No w1 No w2 := hw2 ▸ St.alloc' No w1 _
    have hT2 : Ob w2 w1.heap.size 51 #[.int .i64 K, .int .u64 (tn.toNat : Int), .int .i64 ti, .bool tf, .slice va tb.length vc] := hw2 ▸ heap_alloc_new w1 _
    have hR2 := HR.out.move (s12.block _ HR.out.lt (fun h => h))
    have hob2 := HOB1.out.move (s12.block _ HOB1.out.lt (fun h => h))
    obtain ⟨c0, c1, c2, c3, c4, e0, e1, e2, e3, e4⟩ := hT2.five
    obtain ⟨r0, r1, r2, r3, r4, s0, s1, s2, s3, s4⟩ := hR2.five
    have k2w : w2.cell? ⟨p, 2, none⟩ = some (.int .i64 (pos : Int)) := by rw [hob2.cell 2]; rfl
    have k3w : w2.cell? ⟨p, 3, none⟩ = some (.int .i64 0) := by rw [hob2.cell 3]; rfl
    have f2w := hob2.free 2
    have f3w := hob2.free 3
    have HR2 := Lib.hid hR2
    have HOB2 := Lib.hid hob2
    have S12 := Lib.hid s12
    clear hw2 hT2 hR2 hob2 s12
    go_wp2
    refine bodyPost_ret (results_cell_row rfl _ _ w.heap.size _ _ _ _ rfl ((((((((HR2.out.move (Below.heap_setCell w2 ⟨p, 2, none⟩ _ _ hn2)).move (Below.heap_setCell _ ⟨p, 3, none⟩ _ _ hn2)).set 0 _).set 1 _).set 2 _).set 3 _).set 4 _)) hu rfl thInfo) rfl ?_
    refine get_end (w1 := w1) (w2 := w2) HB.out h1 h2 H3.out H4.out h6 HDP.out HW1.out S12.out (((St.setCell (F := FT w p) w2 ⟨p, 2, none⟩ _ (.inl rfl)).trans (St.setCell _ ⟨p, 3, none⟩ _ (.inl rfl))).trans (St.five _ w.heap.size _ _ _ _ _ (.inr (Nat.le_refl _)))) (Ob.five_move ((HOB2.out.set 2 _).set 3 _) hn0) ?_ HT.out HAD.out h5 rfl (fun q hq => by have := HNW.out q hq; omega)
    exact (HO1.out.st S12.out (Dj.no _)).st (F := fun k => k = p ∨ k = w.heap.size) (F' := fun k => k = p ∨ k = w.heap.size) (((St.setCell (F := fun k => k = p ∨ k = w.heap.size) w2 ⟨p, 2, none⟩ _ (.inl rfl)).trans (St.setCell _ ⟨p, 3, none⟩ _ (.inl rfl))).trans (St.five _ w.heap.size _ _ _ _ _ (.inr rfl))) (by rintro k (rfl | rfl) hk <;> have := HNW.out _ hk <;> omega)
  · go_wp2
    refine bodyPost_ret (results_cell_row rfl _ _ w.heap.size _ _ _ _ rfl ((((((((HR.out.five_move (by omega : w.heap.size ≠ w.heap.size + 1)).move (Below.heap_setCell _ ⟨p, 2, none⟩ _ _ hn2)).move (Below.heap_setCell _ ⟨p, 3, none⟩ _ _ hn2)).set 0 _).set 1 _).set 2 _).set 3 _).set 4 _) hu rfl thInfo) rfl ?_
    refine get_end (w1 := w1) (w2 := w1) HB.out h1 h2 H3.out H4.out h6 HDP.out HW1.out (St.refl No w1) ((((St.five (F := FT w p) w1 (w.heap.size + 1) _ _ _ _ _ (.inr (Nat.le_succ _))).trans (St.setCell _ ⟨p, 2, none⟩ _ (.inl rfl))).trans (St.setCell _ ⟨p, 3, none⟩ _ (.inl rfl))).trans (St.five _ w.heap.size _ _ _ _ _ (.inr (Nat.le_refl _)))) (Ob.five_move (((HOB1.out.five_move hn1).set 2 _).set 3 _) hn0) ?_ HT.out HAD.out h5 rfl (fun q hq => by have := HNW.out q hq; omega)
    exact HO1.out.st (F := fun k => k = p ∨ k = w.heap.size ∨ k = w.heap.size + 1) (F' := fun k => k = p ∨ k = w.heap.size ∨ k = w.heap.size + 1) ((((St.five (F := fun k => k = p ∨ k = w.heap.size ∨ k = w.heap.size + 1) w1 (w.heap.size + 1) _ _ _ _ _ (.inr (.inr rfl))).trans (St.setCell _ ⟨p, 2, none⟩ _ (.inl rfl))).trans (St.setCell _ ⟨p, 3, none⟩ _ (.inl rfl))).trans (St.five _ w.heap.size _ _ _ _ _ (.inr (.inl rfl)))) (by rintro k (rfl | rfl | rfl) hk <;> have := HNW.out _ hk <;> omega)
end Go.Proofs.Ytfhoekcmkbeabaa
