
/-
  The walk over the statements' reads: one step of a reader, of both sides.
-/
import Derived.Test.YtfhoekcmkbeabaaCwReads
namespace Go.Proofs.Ytfhoekcmkbeabaa
open Go.RowKit
set_option linter.unusedVariables false
set_option linter.unusedSimpArgs false

/-- both readers, of one state, apart -/
structure RBoth (w0 wr : World) (v : Value) (th : Bool) (pr pg : Nat) where
  g : RG
  D : Nat → Prop
  G : Nat → Prop
  nil : th = false → g.data = []
  rh : Rh wr v th pr D g.rs
  rg : Rg wr pg th G g
  ne : pr ≠ pg
  dpg : ¬ D pg
  gpr : ¬ G pr
  gpg : ¬ G pg
  dIn : In D wr
  prl : pr < wr.heap.size
  lr : w0.heap.size ≤ pr
  lg : w0.heap.size ≤ pg
  st : St No w0 (Nw w0) wr
def RBIn (w0 wr : World) (v : Value) (th : Bool) (pr pg : Nat) : Prop := Nonempty (RBoth w0 wr v th pr pg)
theorem Rh.swap {w : World} {v : Value} {th : Bool} {p : Nat} {D : Nat → Prop} {s t : RS} (h : Rh w v th p D s) (e : th = true → s = t) : Rh w v th p D t := by
  rcases h with h | ⟨h1, h2⟩
  · exact .inl h
  · rw [← e h1]
    exact .inr ⟨h1, h2⟩
theorem RBoth.len {w0 wr : World} {v : Value} {th : Bool} {pr pg : Nat} (b : RBoth w0 wr v th pr pg) : b.g.rs.rest.length ≤ 16777216 := by
  obtain ⟨_, _, _, _, _, _, _, _, _, h⟩ := b.rg
  unfold RG.rs
  simp
  omega
theorem RBoth.rg1 {w0 wr w1 : World} {v : Value} {th : Bool} {pr pg : Nat} {X : Nat → Prop} (b : RBoth w0 wr v th pr pg) (s1 : St (fpP pr) wr X w1) : Rg w1 pg th b.G b.g :=
  b.rg.st s1 (fun h => b.ne (Eq.symm h)) (fun k hk hf => by obtain rfl : k = pr := hk; exact b.gpr hf)
theorem RBoth.next {w0 wr w1 w2 : World} {v : Value} {th : Bool} {pr pg : Nat} {X Y : Nat → Prop} (b : RBoth w0 wr v th pr pg) {s' : RS} {g' : RG} (hr : Rh w1 v th pr b.D s') (s1 : St (fpP pr) wr X w1) (hg : Rg w2 pg th b.G g') (s2 : St (fpP pg) w1 Y w2)
    (he : th = true → s' = g'.rs) (hn : th = false → g'.data = []) : RBIn w0 w2 v th pr pg := by
  refine ⟨⟨g', b.D, b.G, hn, (hr.st s2 b.ne (fun k hk hf => by obtain rfl : k = pg := hk; exact b.dpg hf)).swap he, hg, b.ne, b.dpg, b.gpr, b.gpg, (b.dIn.st s1).st s2, Nat.lt_of_lt_of_le b.prl (Nat.le_trans s1.size s2.size), b.lr, b.lg, ?_⟩⟩
  have h := b.st
  refine ⟨s2.os.trans (s1.os.trans h.os), s2.tape.trans (s1.tape.trans h.tape), s2.output.trans (s1.output.trans h.output), Nat.le_trans h.size (Nat.le_trans s1.size s2.size), fun k hk hF => ?_, fun k hk => .inr hk⟩
  have l1 := b.lr
  have l2 := b.lg
  have h1 := h.size
  have h2 := s1.size
  rw [s2.block k (by omega) (fun e => by have e' : k = pg := e; omega), s1.block k (by omega) (fun e => by have e' : k = pr := e; omega)]
  exact h.block k hk hF
theorem RBIn.still {w0 wr w1 : World} {v : Value} {th : Bool} {pr pg : Nat} (b : RBIn w0 wr v th pr pg) {X : Nat → Prop} (s : St No wr X w1) : RBIn w0 w1 v th pr pg := by
  obtain ⟨b⟩ := b
  have s1 : St (fpP pr) wr (fpP pr) w1 := s.wide (fun _ h => h.elim) (fun k hk => .inl hk)
  exact b.next (b.rh.st (s.drop (G' := No) (fun _ h => h.elim)) (fun h => h) (Dj.no _)) s1 (b.rg1 s1) (St.refl _ _) (fun _ => rfl) b.nil
def StepPost (w0 : World) (v : Value) (th : Bool) (pr pg : Nat) (e : Ending) (w' : World) : Prop := e = .returned (.bool true) ∧ RBIn w0 w' v th pr pg
theorem RBoth.left {w0 wr : World} {v : Value} {th : Bool} {pr pg : Nat} (b : RBoth w0 wr v th pr pg) : leftR th b.g.rs = b.g.rs.rest.length := by
  unfold leftR
  cases th with
  | true => rfl
  | false => unfold RG.rs; rw [b.nil rfl]; simp
theorem RBIn.box {w0 w : World} {v : Value} {th : Bool} {pr pg : Nat} (o : Obj) (b : RBIn w0 w v th pr pg) : RBIn w0 (w.alloc o) v th pr pg := b.still (St.alloc' No w o)
theorem wrap64_b (x : Int) : -9223372036854775808 ≤ wrap64 x ∧ wrap64 x ≤ 9223372036854775807 := by unfold wrap64; omega
theorem wrap_i64_lo (x : Int) : -9223372036854775808 ≤ IntKind.i64.wrap x ∧ IntKind.i64.wrap x ≤ 9223372036854775807 := by rw [IntKind.wrap_i64]; omega
set_option maxRecDepth 100000 in
set_option maxHeartbeats 1000000 in
theorem reads_ask (k : Int) (hk : k = 10 ∨ k = 11 ∨ k = 12) (n : BitVec 64) (i : Int) (f : Bool) (a : Option Addr) (c : Nat) (bs : List B8) (w0 w : World) (v : Value) (th : Bool) (pr pg : Nat) (h : RBIn w0 w v th pr pg) :
    Calls Try.prog 46 #[v, .pointer (some ⟨pg, 0, none⟩), .agg #[.int .i64 k, .int .u64 (n.toNat : Int), .int .i64 i, .bool f, .slice a bs.length c]] w (StepPost w0 v th pr pg) := by
  have HBX : Hid (RBIn w0 (w.alloc (.cells #[.int .i64 k, .int .u64 (n.toNat : Int), .int .i64 i, .bool f, .slice a bs.length c] 49)) v th pr pg) := Lib.hid (h.box _)
  obtain ⟨b⟩ := HBX.out
  have HB2 := Lib.hid b.left
  have HRH := Lib.hid b.rh
  have HRG := Lib.hid b.rg
  clear h
  rcases hk with rfl | rfl | rfl
  · go_enter Try.func46, Try.ntmps46
    go_wp2_with (first
      | (go_at_call 50; refine (rLeft2_calls _ v th pr b.D b.g.rs HRH.out).mono ?_; rintro e w1 ⟨rfl, rfl⟩)
      | (go_at_call 85; refine (gLeft_calls _ pg th b.G b.g HRG.out).mono ?_; rintro e w1 ⟨rfl, nn, rfl⟩; rw [HB2.out]))
    go_ret
    refine ⟨by simp, HBX.out.still (St.drewN No _ _)⟩
  · go_enter Try.func46, Try.ntmps46
    go_wp2_with (first
      | (go_at_call 48; refine (rErr2_calls _ v th pr b.D b.g.rs HRH.out).mono ?_; rintro e w1 ⟨rfl, rfl⟩)
      | (go_at_call 32; refine (num_calls _ _).mono ?_; rintro e w1 ⟨rfl, rfl⟩)
      | (go_at_call 86; refine (gErr_calls _ pg th b.G b.g HRG.out).mono ?_; rintro e w1 ⟨rfl, rfl⟩))
    go_ret
    refine ⟨by simp, HBX.out⟩
  · go_enter Try.func46, Try.ntmps46
    go_wp2_with (first
      | (go_at_call 55; refine (rDone2_calls _ v th pr b.D b.g.rs HRH.out).mono ?_; rintro e w1 ⟨rfl, rfl⟩)
      | (go_at_call 32; refine (num_calls _ _).mono ?_; rintro e w1 ⟨rfl, rfl⟩)
      | (go_at_call 87; refine (gDone_calls _ pg th b.G b.g HRG.out).mono ?_; rintro e w1 ⟨rfl, nn, rfl⟩))
    go_ret
    refine ⟨by simp, HBX.out.still (St.drewN No _ _)⟩
set_option maxRecDepth 100000 in
set_option maxHeartbeats 1000000 in
theorem reads_fail (n : BitVec 64) (i : Int) (f : Bool) (a : Option Addr) (c : Nat) (bs : List B8) (w0 w : World) (v : Value) (th : Bool) (pr pg : Nat) (h : RBIn w0 w v th pr pg) :
    Calls Try.prog 46 #[v, .pointer (some ⟨pg, 0, none⟩), .agg #[.int .i64 13, .int .u64 (n.toNat : Int), .int .i64 i, .bool f, .slice a bs.length c]] w (StepPost w0 v th pr pg) := by
  have HBX : Hid (RBIn w0 (w.alloc (.cells #[.int .i64 13, .int .u64 (n.toNat : Int), .int .i64 i, .bool f, .slice a bs.length c] 49)) v th pr pg) := Lib.hid (h.box _)
  obtain ⟨b⟩ := HBX.out
  have HRH := Lib.hid b.rh
  have HRG := Lib.hid b.rg
  clear h
  go_enter Try.func46, Try.ntmps46
  go_wp2_with fail
  refine (rFail2_calls _ _ v th pr b.D b.g.rs HRH.out).mono ?_
  rintro e w1 ⟨rfl, hr1, hs1⟩
  have HR1 := Lib.hid hr1
  have HS1 := Lib.hid hs1
  clear hr1 hs1
  go_wp2_with fail
  refine (gFail_calls _ _ pg th b.G b.g b.gpg (b.rg1 HS1.out)).mono ?_
  rintro e w2 ⟨rfl, hg2, hs2⟩
  have HG2 := Lib.hid hg2
  have HS2 := Lib.hid hs2
  clear hg2 hs2
  go_wp2
  go_ret
  refine ⟨rfl, b.next HR1.out HS1.out HG2.out HS2.out (fun ht => ?_) (fun hf => ?_)⟩
  · subst ht
    unfold RS.fail
    by_cases he : b.g.err = 0
    · rw [if_pos (show b.g.rs.err = 0 from he), if_pos ⟨rfl, he⟩]; rfl
    · rw [if_neg (show ¬ b.g.rs.err = 0 from he), if_neg (fun h => he h.2)]
  · subst hf
    rw [if_neg (by simp)]
    exact b.nil rfl
set_option maxRecDepth 100000 in
set_option maxHeartbeats 1000000 in
theorem reads_other (k : Int) (hk : ¬ (1 ≤ k ∧ k ≤ 13)) (n : BitVec 64) (i : Int) (f : Bool) (a : Option Addr) (c : Nat) (bs : List B8) (w0 w : World) (v : Value) (th : Bool) (pr pg : Nat) (h : RBIn w0 w v th pr pg) :
    Calls Try.prog 46 #[v, .pointer (some ⟨pg, 0, none⟩), .agg #[.int .i64 k, .int .u64 (n.toNat : Int), .int .i64 i, .bool f, .slice a bs.length c]] w (StepPost w0 v th pr pg) := by
  have HBX : Hid (RBIn w0 (w.alloc (.cells #[.int .i64 k, .int .u64 (n.toNat : Int), .int .i64 i, .bool f, .slice a bs.length c] 49)) v th pr pg) := Lib.hid (h.box _)
  have e10 : (k == 10) = false := beq_eq_false_iff_ne.2 (by omega)
  have e11 : (k == 11) = false := beq_eq_false_iff_ne.2 (by omega)
  have e12 : (k == 12) = false := beq_eq_false_iff_ne.2 (by omega)
  have e13 : (k == 13) = false := beq_eq_false_iff_ne.2 (by omega)
  have HIT : Hid ((decide (1 ≤ k) && decide (k ≤ 9)) = false) := Lib.hid (by simp; omega)
  clear h hk
  go_enter Try.func46, Try.ntmps46
  go_wp2_with (go_at_call 33; refine (isThing_calls k _).mono ?_; rintro e w1 ⟨rfl, rfl⟩; rw [HIT.out])
  go_ret
  exact ⟨rfl, HBX.out⟩
set_option maxRecDepth 100000 in
set_option maxHeartbeats 2000000 in
theorem reads_take (k : Int) (hk1 : 1 ≤ k) (hk9 : k ≤ 9) (n : BitVec 64) (i : Int) (f : Bool) (a : Option Addr) (c : Nat) (bs : List B8) (w0 w : World) (v : Value) (th : Bool) (pr pg : Nat) (h : RBIn w0 w v th pr pg) :
    Calls Try.prog 46 #[v, .pointer (some ⟨pg, 0, none⟩), .agg #[.int .i64 k, .int .u64 (n.toNat : Int), .int .i64 i, .bool f, .slice a bs.length c]] w (StepPost w0 v th pr pg) := by
  obtain ⟨b⟩ := h
  have e10 : (k == 10) = false := beq_eq_false_iff_ne.2 (by omega)
  have e11 : (k == 11) = false := beq_eq_false_iff_ne.2 (by omega)
  have e12 : (k == 12) = false := beq_eq_false_iff_ne.2 (by omega)
  have e13 : (k == 13) = false := beq_eq_false_iff_ne.2 (by omega)
  have HIT : Hid ((decide (1 ≤ k) && decide (k ≤ 9)) = true) := Lib.hid (by simp; omega)
  have HC1 : Hid (∀ W M, M ≤ 9223372036854775807 → St No w No W → Calls Try.prog 47 #[v, .int .i64 k, .int .i64 M] W (GrabPost W v th pr b.D b.g.rs k M)) := Lib.hid (fun W M hM st =>
    grab_calls k M hk1 hk9 hM W v th pr b.D (b.dIn.st st) (Nat.lt_of_lt_of_le b.prl st.size) b.g.rs (by have := b.len; omega) (b.rh.st st (fun h => h) (Dj.no _)))
  have HC2 : Hid (∀ W M, -9223372036854775808 ≤ M → M ≤ 9223372036854775807 → (∃ X, St (fpP pr) w X W) → Calls Try.prog 91 #[.pointer (some ⟨pg, 0, none⟩), .int .i64 k, .int .i64 M] W (GetPost W pg th b.G b.g k M)) := Lib.hid (fun W M hM1 hM2 ⟨X, st⟩ =>
    get_calls k M hk1 hk9 hM1 hM2 W pg th b.G b.gpg b.g (b.rg1 st))
  have hprl := b.prl
  have hpgl : pg < w.heap.size := by obtain ⟨_, _, ho, _⟩ := b.rg; exact ho.lt
  have HTL : Hid (∀ M, (tkT th b.g.rs k M).bs.length ≤ 140737488351232) := Lib.hid (fun M => by
    have hl := b.len
    unfold tkT rawB blockB
    repeat' split
    all_goals simp
    all_goals try omega)
  go_enter Try.func46, Try.ntmps46
  go_wp2_with (go_at_call 33; refine (isThing_calls k _).mono ?_; rintro e w1 ⟨rfl, rfl⟩; rw [HIT.out])
  have hMb := wrap64_b (n.toNat : Int)
  generalize wrap64 (n.toNat : Int) = M at *
  have HBOX := Ob.alloc w #[.int .i64 k, .int .u64 (n.toNat : Int), .int .i64 i, .bool f, .slice a bs.length c] 49
  have hpn : pg ≠ w.heap.size := by omega
  have hrn : pr ≠ w.heap.size := by omega
  go_region_held3 (fun w' => w'.cell? ⟨w.heap.size, 0, none⟩ = some (.int .i64 k)) (go_keep)
    (first
      | (go_at_call 47
         refine (HC1.out _ M (by omega) ((St.alloc' No w _).trans (St.drew No _))).mono ?_
         rintro e w1 ⟨V, rfl, ho1, hr1, hs1, hn1⟩
         obtain ⟨va, vc, rfl, _, _, _, _⟩ := ho1.form
         have hc1 : w1.cell? ⟨w.heap.size, 0, none⟩ = some (.int .i64 k) := (World.cell?_of_block (hs1.block w.heap.size (by simp) (fun h => hrn (Eq.symm h)))).trans (by simp)
         have hw1 : St (fpP pr) w (fun q => fpP pr q ∨ fpV (.slice va (tkT th b.g.rs k M).bs.length vc) q) w1 := ((St.alloc' _ w _).trans (St.drew _ _)).trans hs1
         have HO1 := Lib.hid ho1
         have HR1 := Lib.hid hr1
         have HW1 := Lib.hid hw1
         have HV1 : Hid (∀ q, fpV (.slice va (tkT th b.g.rs k M).bs.length vc) q → w.heap.size + 1 ≤ q) := Lib.hid (fun q hq => by have := hn1 q hq; simpa using this)
         clear ho1 hr1 hs1 hn1 hw1)
      | (go_at_call 91
         refine (HC2.out _ M (by omega) (by omega) ⟨_, HW1.out⟩).mono ?_
         rintro e w2 ⟨K2, V2, g', rfl, ho2, hg2, hq2, hs2, hn2⟩
         obtain ⟨va2, vc2, rfl, _, _, _, _⟩ := ho2.form
         have hc2 : w2.cell? ⟨w.heap.size, 0, none⟩ = some (.int .i64 k) := (World.cell?_of_block (hs2.block w.heap.size (World.block_lt_of_cell? w1 _ hc1) (fun h => hpn (Eq.symm h)))).trans hc1
         have HO2 := Lib.hid ho2
         have HG2 := Lib.hid hg2
         have HQ2 := Lib.hid hq2
         have HS2 := Lib.hid hs2
         clear ho2 hg2 hs2 hn2 hq2)
      | (go_at_call 90
         refine (alike_calls (tkT th b.g.rs k M) k K2 va vc va2 vc2 (HTL.out M) w2 (HO1.out.st HS2.out (by
           intro q hq hf
           have e : q = pg := hq
           have := HV1.out q hf
           omega)).bs HO2.out.bs).mono ?_
         rintro e w3 ⟨rfl, hs3⟩
         have hc3 : w3.cell? ⟨w.heap.size, 0, none⟩ = some (.int .i64 k) := (World.cell?_of_block (hs3.block w.heap.size (World.block_lt_of_cell? w2 _ hc2) (fun h => h))).trans hc2
         have HS3 := Lib.hid hs3
         clear hs3))
  all_goals go_wp2
  all_goals go_ret
  all_goals refine ⟨rfl, (b.next HR1.out HW1.out HG2.out HS2.out (fun ht => ?_) (fun hf => ?_)).still HS3.out⟩
  · rw [HQ2.out.1, if_pos ht]
  · rw [HQ2.out.2]; exact b.nil hf
theorem reads_calls (t : Th) (w0 w : World) (v : Value) (th : Bool) (pr pg : Nat) (h : RBIn w0 w v th pr pg) :
    Calls Try.prog 46 #[v, .pointer (some ⟨pg, 0, none⟩), .agg t.cells] w (StepPost w0 v th pr pg) := by
  obtain ⟨k, n, i, f, a, c, bs⟩ := t
  by_cases h9 : 1 ≤ k ∧ k ≤ 9
  · exact reads_take k h9.1 h9.2 n i f a c bs w0 w v th pr pg h
  · by_cases h13 : k = 13
    · subst h13
      exact reads_fail n i f a c bs w0 w v th pr pg h
    · by_cases hq : k = 10 ∨ k = 11 ∨ k = 12
      · exact reads_ask k hq n i f a c bs w0 w v th pr pg h
      · exact reads_other k (by omega) n i f a c bs w0 w v th pr pg h
end Go.Proofs.Ytfhoekcmkbeabaa
