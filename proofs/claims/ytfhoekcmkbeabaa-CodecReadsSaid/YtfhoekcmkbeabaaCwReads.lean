
/-
  The walks over the reference's reader (Take in every state, Done, NewReading) and the statements' alike.
-/
import Derived.Test.YtfhoekcmkbeabaaCwRGet
import Derived.Test.YtfhoekcmkbeabaaCwLists
import Derived.Test.YtfhoekcmkbeabaaCwSteps
namespace Go.Proofs.Ytfhoekcmkbeabaa
open Go.RowKit
set_option linter.unusedVariables false
set_option linter.unusedSimpArgs false

theorem tk_shut {th : Bool} {s : RS} {k m : Int} (h : opens th s = false) : tkT th s k m = ⟨0, 0, false, []⟩ := by
  have h1 : ∀ n, numT th s n = 0 := fun n => by unfold numT takes; rw [h]; rfl
  have h2 : varT th s = 0 := by unfold varT; rw [if_neg (by rw [h]; simp)]
  have h3 : flagT th s = false := by unfold flagT; rw [h]; rfl
  have h4 : rawB th s m = [] := by unfold rawB takes; rw [h]; simp
  have h5 : blockB th s m = [] := by unfold blockB; rw [if_neg (by rw [h]; simp)]
  unfold tkT
  rw [h1, h1, h1, h1, h2, h3, h4, h5]
  repeat' split
  all_goals rfl
theorem RS.tk_shut {s : RS} {k m : Int} (h : ¬ s.err = 0) : s.tk k m = s := by
  unfold RS.tk RS.took RS.var RS.flag RS.raw RS.block RS.fail RS.took
  simp only [if_neg h]
  repeat' split
  all_goals rfl
theorem opens_iff {th : Bool} {s : RS} : opens th s = true ↔ th = true ∧ s.err = 0 := by unfold opens; simp
set_option maxRecDepth 100000 in
set_option maxHeartbeats 1000000 in
theorem get_shut (k m : Int) (w : World) (p : Nat) (th : Bool) (D : Nat → Prop) (g : RG) (hg : opens th g.rs = false) (h : Rg w p th D g) :
    Calls Try.prog 91 #[.pointer (some ⟨p, 0, none⟩), .int .i64 k, .int .i64 m] w (GetPost w p th D g k m) := by
  have HH := Lib.hid h
  obtain ⟨a, c, k0, k1, k2, k3, f2, f3, hb, h5, h6⟩ := h.open
  have hu := Try.underlying51
  have hpl := (by obtain ⟨_, _, ho, _⟩ := h; exact ho.lt : p < w.heap.size)
  have hT := tk_shut (k := k) (m := m) hg
  have hS : (if th then g.rs.tk k m else g.rs) = g.rs := by
    cases th with
    | false => rfl
    | true =>
      rw [if_pos rfl]
      exact RS.tk_shut (fun e => by rw [opens_iff.2 ⟨rfl, e⟩] at hg; cases hg)
  unfold GetPost
  rw [hT, hS]
  have HEND : Hid (∀ e w', e = .returned (.agg #[.int .i64 0, .int .u64 0, .int .i64 0, .bool false, .slice none 0 0]) → St No w No w' → GetP w p th D g.data ⟨0, 0, false, []⟩ g.rs e w') := Lib.hid (fun e w' he st =>
    ⟨0, .slice none 0 0, g, he, OwB.nil _, HH.out.st st (fun h => h) (Dj.no _), ⟨rfl, rfl⟩, st.wide (fun _ h => h.elim) (fun q hq => hq.elim (fun h => .inl h) (fun h => absurd h (no_nil _))), fun q hq => absurd hq (no_nil _)⟩)
  cases th with
  | false =>
    clear h hb f2 f3 hT hS hg
    go_enter Try.func91, Try.ntmps91
    go_wp2
    refine bodyPost_ret (results_cell_row rfl _ _ w.heap.size _ _ _ _ rfl (heap_alloc_new w _) hu rfl rfl) rfl ?_
    exact HEND.out _ _ rfl (St.alloc' No w _)
  | true =>
    have he : ¬ g.err = 0 := fun e => by rw [opens_iff.2 ⟨rfl, e⟩] at hg; cases hg
    have hb2 : (g.err != 0) = true := by rw [bne_iff_ne]; exact he
    clear h hb f2 f3 hT hS hg he
    go_enter Try.func91, Try.ntmps91
    go_wp2
    refine bodyPost_ret (results_cell_row rfl _ _ w.heap.size _ _ _ _ rfl (heap_alloc_new w _) hu rfl rfl) rfl ?_
    exact HEND.out _ _ rfl (St.alloc' No w _)
theorem get_calls (k m : Int) (hk1 : 1 ≤ k) (hk9 : k ≤ 9) (hm1 : -9223372036854775808 ≤ m) (hm : m ≤ 9223372036854775807) (w : World) (p : Nat) (th : Bool) (D : Nat → Prop) (hdp : ¬ D p) (g : RG) (h : Rg w p th D g) :
    Calls Try.prog 91 #[.pointer (some ⟨p, 0, none⟩), .int .i64 k, .int .i64 m] w (GetPost w p th D g k m) := by
  cases ho : opens th g.rs with
  | false => exact get_shut k m w p th D g ho h
  | true =>
    obtain ⟨rfl, he⟩ := opens_iff.1 ho
    obtain ⟨data, pos, err⟩ := g
    have e0 : err = 0 := he
    subst e0
    exact get_open k m hk1 hk9 hm1 hm w p D hdp data pos h
set_option maxRecDepth 100000 in
set_option maxHeartbeats 1000000 in
theorem gDone_calls (w : World) (p : Nat) (th : Bool) (D : Nat → Prop) (g : RG) (h : Rg w p th D g) :
    Calls Try.prog 87 #[.pointer (some ⟨p, 0, none⟩)] w fun e w' => e = .returned (.int .i64 (doneR th g.rs)) ∧ ∃ n, w' = w.drewN n := by
  have HE := Lib.hid (gErr_calls w p th D g h)
  obtain ⟨a, c, k0, k1, k2, k3, f2, f3, hb, h5, h6⟩ := h.open
  have HLL : Hid (g.rs.rest.length = g.data.length - g.pos) := Lib.hid (by unfold RG.rs; simp)
  clear hb f2 f3 h
  by_cases he : errR th g.rs = 0
  · rw [he] at HE
    by_cases hl : (g.pos : Int) < (g.data.length : Int)
    · have HD : Hid (doneR th g.rs = 26) := Lib.hid (by unfold doneR; rw [if_pos he, if_neg (by rw [HLL.out]; omega)])
      clear he
      go_enter Try.func87, Try.ntmps87
      go_wp2_with (go_at_call 86; refine HE.out.mono ?_; rintro e w1 ⟨rfl, rfl⟩)
      go_quiet (fail)
      go_wp2
      go_ret
      exact ⟨by rw [HD.out]; rfl, _, rfl⟩
    · have HD : Hid (doneR th g.rs = 0) := Lib.hid (by unfold doneR; rw [if_pos he, if_pos (by rw [HLL.out]; omega)])
      clear he
      go_enter Try.func87, Try.ntmps87
      go_wp2_with (go_at_call 86; refine HE.out.mono ?_; rintro e w1 ⟨rfl, rfl⟩)
      go_quiet (fail)
      go_wp2
      go_ret
      exact ⟨by rw [HD.out]; rfl, _, rfl⟩
  · have HD : Hid (doneR th g.rs = errR th g.rs) := Lib.hid (by unfold doneR; rw [if_neg he])
    have hb : (errR th g.rs == 0) = false := beq_eq_false_iff_ne.2 he
    generalize errR th g.rs = x at *
    clear he
    go_enter Try.func87, Try.ntmps87
    go_wp2_with (go_at_call 86; refine HE.out.mono ?_; rintro e w1 ⟨rfl, rfl⟩)
    go_quiet (fail)
    go_wp2
    go_ret
    exact ⟨by rw [HD.out]; rfl, _, rfl⟩
def NewGPost (w : World) (bs : List B8) (e : Ending) (w' : World) : Prop :=
  w.heap.size < w'.heap.size ∧ ((bs.length ≤ 16777216 ∧ ∃ V, e = .returned (.tuple #[.agg #[.bool true, V, .int .i64 0, .int .i64 0], .int .i64 0]) ∧ OwB w' V bs ∧ St No w (fpV V) w') ∨
   (¬ bs.length ≤ 16777216 ∧ e = .returned (.tuple #[.agg #[.bool false, .slice none 0 0, .int .i64 0, .int .i64 0], .int .i64 28]) ∧ St No w No w'))
theorem Ob.four {w : World} {p : Nat} {T : TypeId} {a b c d : Value} (h : Ob w p T #[a, b, c, d]) : w.cell? ⟨p, 0, none⟩ = some a ∧ w.cell? ⟨p, 1, none⟩ = some b ∧ w.cell? ⟨p, 2, none⟩ = some c ∧ w.cell? ⟨p, 3, none⟩ = some d ∧
    w.frozen? ⟨p, 0, none⟩ = false ∧ w.frozen? ⟨p, 1, none⟩ = false ∧ w.frozen? ⟨p, 2, none⟩ = false ∧ w.frozen? ⟨p, 3, none⟩ = false :=
  ⟨by rw [h.cell 0]; rfl, by rw [h.cell 1]; rfl, by rw [h.cell 2]; rfl, by rw [h.cell 3]; rfl, h.free 0, h.free 1, h.free 2, h.free 3⟩
theorem rdInfo : (Try.prog.info? 77).map (·.size) = some 4 := by kernel_rfl
set_option maxRecDepth 100000 in
set_option maxHeartbeats 1000000 in
theorem newReading_calls (a : Option Addr) (c : Nat) (bs : List B8) (hn : bs.length ≤ 140737488351232) (w : World) (hb : Bs w a bs) :
    Calls Try.prog 45 #[.slice a bs.length c] w (NewGPost w bs) := by
  have hu := Try.underlying77
  by_cases hle : bs.length ≤ 16777216
  · have HLE := Lib.hid hle
    have HJ : Hid (∀ W, St No w No W → Calls Try.prog 82 #[.slice none 0 0, .slice a bs.length c] W fun e w' => ∃ v, e = .returned v ∧ OwB w' v bs ∧ St No W (fpV v) w') := Lib.hid (fun W h => join2_calls none 0 [] a c bs (by simp; omega) W (Rd.nil _ _) (hb.st h (Dj.no _)))
    clear hb
    go_enter Try.func45, Try.ntmps45
    go_wp2_with fail
    refine (HJ.out _ (St.alloc' No w _)).mono ?_
    rintro e w1 ⟨v1, rfl, ho1, hs1⟩
    obtain ⟨va, vc, rfl, _, _, _, _⟩ := ho1.form
    have hR : Ob w1 w.heap.size 77 #[.bool false, .slice none 0 0, .int .i64 0, .int .i64 0] := (hs1.block _ (by simp) (fun h => h)).trans (heap_alloc_new w _)
    obtain ⟨r0, r1, r2, r3, s0, s1, s2, s3⟩ := hR.four
    have hnw : ∀ q, fpV (.slice va bs.length vc) q → w.heap.size + 1 ≤ q := fun q hq => (hs1.new q hq).elim (fun h => h.elim) (fun h => by simpa using h)
    have HNW := Lib.hid hnw
    have HR := Lib.hid hR
    have HS1 := Lib.hid hs1
    have HO1 := Lib.hid ho1
    clear hR hs1 ho1 hnw
    go_wp2
    refine bodyPost_ret (results_cell_row_tmp rfl _ _ w.heap.size _ _ _ _ rfl ((((HR.out.set 0 _).set 1 _).set 2 _).set 3 _) hu rfl rdInfo) rfl ?_
    have t := fun a b c d => (((St.setCell (F := fun k => k = w.heap.size) w1 ⟨w.heap.size, 0, none⟩ a rfl).trans (St.setCell _ ⟨w.heap.size, 1, none⟩ b rfl)).trans (St.setCell _ ⟨w.heap.size, 2, none⟩ c rfl)).trans (St.setCell _ ⟨w.heap.size, 3, none⟩ d rfl)
    have hlt : w.heap.size < w1.heap.size := HR.out.lt
    refine ⟨Nat.lt_of_lt_of_le hlt (t _ _ _ _).size, .inl ⟨HLE.out, _, rfl, HO1.out.st (t _ _ _ _) (by rintro k rfl hk; have := HNW.out _ hk; omega), ?_⟩⟩
    have h0 := (St.alloc' No w _).trans HS1.out
    refine ⟨(t _ _ _ _).os.trans h0.os, (t _ _ _ _).tape.trans h0.tape, (t _ _ _ _).output.trans h0.output, Nat.le_trans h0.size (t _ _ _ _).size, fun k hk hn => ?_, fun k hk => .inr (by have := HNW.out k hk; omega)⟩
    rw [(t _ _ _ _).block k (Nat.lt_of_lt_of_le hk h0.size) (by omega)]
    exact h0.block k hk hn
  · have HLE := Lib.hid hle
    go_enter Try.func45, Try.ntmps45
    go_wp2
    refine bodyPost_ret (results_cell_row_tmp rfl _ _ w.heap.size _ _ _ _ rfl (heap_alloc_new w _) hu rfl rfl) rfl ?_
    exact ⟨by simp, .inr ⟨HLE.out, rfl, St.alloc' No w _⟩⟩
set_option maxRecDepth 100000 in
set_option maxHeartbeats 1000000 in
theorem alike_calls (T : Tk) (K1 K2 : Int) (a1 : Option Addr) (c1 : Nat) (a2 : Option Addr) (c2 : Nat) (hl : T.bs.length ≤ 140737488351232) (w : World) (h1 : Bs w a1 T.bs) (h2 : Bs w a2 T.bs) :
    Calls Try.prog 90 #[.agg (T.cells K1 (.slice a1 T.bs.length c1)), .agg (T.cells K2 (.slice a2 T.bs.length c2))] w fun e w' => e = .returned (.bool true) ∧ St No w No w' := by
  obtain ⟨n, i, f, bs⟩ := T
  have HC : Hid (∀ W, St No w No W → Calls Try.prog 17 #[.slice a1 bs.length c1, .slice a2 bs.length c2] W fun e w' => e = .returned (.bool true) ∧ Dr W w') := Lib.hid (fun W h => by
    have := same_calls a1 c1 bs a2 c2 bs (by unfold maxLen; simp only at hl; omega) (by unfold maxLen; simp only at hl; omega) W (h1.st h (Dj.no _)) (h2.st h (Dj.no _))
    rw [decide_eq_true rfl] at this
    exact this)
  have HS0 : Hid (∀ o1 o2, St No w No ((w.alloc o1).alloc o2)) := Lib.hid (fun o1 o2 => (St.alloc' No w _).trans (St.alloc' No _ _))
  clear h1 h2
  simp only [Tk.cells]
  cases f
  · go_enter Try.func90, Try.ntmps90
    go_wp2_with fail
    refine (HC.out _ (HS0.out _ _)).mono ?_
    rintro e w1 ⟨rfl, hd⟩
    have HD := Lib.hid hd
    clear hd
    go_wp2
    go_ret
    exact ⟨rfl, (HS0.out _ _).trans (HD.out.st No)⟩
  · go_enter Try.func90, Try.ntmps90
    go_wp2_with fail
    refine (HC.out _ (HS0.out _ _)).mono ?_
    rintro e w1 ⟨rfl, hd⟩
    have HD := Lib.hid hd
    clear hd
    go_wp2
    go_ret
    exact ⟨rfl, (HS0.out _ _).trans (HD.out.st No)⟩
end Go.Proofs.Ytfhoekcmkbeabaa
