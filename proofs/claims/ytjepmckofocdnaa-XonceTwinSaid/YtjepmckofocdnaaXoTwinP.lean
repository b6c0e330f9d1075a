
/-
  The statements' comparison of mails, where they are alike.
  The statements' comparison of mails: the walk.
  The statements' comparison of what comes up, and of what a Take answers, where they are alike.
  Two ends that hold the same: a step of the law's alike.
  An end's state may be loaded; made, by Load.
-/
import Derived.Test.YtjepmckofocdnaaXoSent
import Derived.Deep.RegionHeld
import Derived.Deep.MidRow
import Derived.Deep.CutRange
import Derived.Test.YtjepmckofocdnaaWRefused
namespace Go.Proofs.Ytjepmckofocdnaa
open Go.RowKit
set_option linter.unusedVariables false
set_option linter.unusedSimpArgs false

/-- a row of cells, wherever it lies -/
def RowIn (w : World) (y : Addr) (cs : List Value) : Prop := ∀ (j : Nat) (v : Value), cs[j]? = some v → w.cell? (y.add j) = some v
theorem RowIn.st {w w' : World} {y : Addr} {cs : List Value} {G : Nat → Prop} (h : RowIn w y cs) (s : St No w G w') : RowIn w' y cs := fun j v hv => s.cellN (h j v hv)
theorem run_loadAt_at {P : Program} (w : World) (y : Addr) (ty : TypeId) (cs : List Value) (d : TypeDesc) (hc : RowIn w y cs)
    (hu : P.underlying ty = some d) (hd : d.isRow = true) (hi : (P.info? ty).map (·.size) = some cs.length) : (Instr.loadAt ty (.pointer (some y))).run P w = .ok (.agg cs.toArray) w := by
  have hl : (loadCells y cs.length).run P w = .ok cs.toArray w := run_loadCells_list (P := P) w y cs hc
  have hr : (loadVar ty y).run P w = .ok (.agg cs.toArray) w := by
    cases hq : P.info? ty with
    | none => simp [hq] at hi
    | some i =>
      have hs : i.size = cs.length := by simpa [hq] using hi
      have hagg : (isAgg ty).run P w = .ok true w := by
        unfold isAgg
        rw [Sem.run_bind, run_underlying hu w]
        cases d <;> simp_all
      simp [loadVar, Sem.run_bind, hagg, sizeOf, typeInfo, hq, hs, hl]
  simp only [Instr.loadAt, Instr.sureAddr, Sem.run_bind, Sem.run_pure, Result.andThen_ok, hr]
/-- the message of a Data or an Ack -/
def msgL (kind : Int) (seq : Nat) (mask : BitVec 64) (V : Value) : List Value :=
  [.int .u8 kind, .int .u64 seq, .int .u64 0, .int .u64 0, .slice none 0 0, .slice none 0 0, .bool false, .int .u8 0, .int .u8 0, .int .u8 0, .int .u32 0, .int .u32 0, .int .u64 (mask.toNat : Int), .int .u8 0, .slice none 0 0, .slice none 0 0, V]
theorem msgLInfo : (Try.prog.info? 60).map (·.size) = some 17 := by kernel_rfl
set_option maxRecDepth 100000 in
set_option maxHeartbeats 1000000 in
theorem bare_calls (w : World) (kind : Int) (seq : Nat) (mask : BitVec 64) (V : Value) : Calls Try.prog 69 #[.agg (msgL kind seq mask V).toArray] w fun e w' => e = .returned (.bool true) ∧ St No w No w' := by
  have HB := Ob.alloc w (msgL kind seq mask V).toArray 60
  have HS := Lib.hid (St.alloc' No w (.cells (msgL kind seq mask V).toArray 60))
  have b2 : (w.alloc (.cells (msgL kind seq mask V).toArray 60)).cell? ⟨w.heap.size, 2, none⟩ = some (.int .u64 0) := by rw [HB.cell 2]; rfl
  have b3 : (w.alloc (.cells (msgL kind seq mask V).toArray 60)).cell? ⟨w.heap.size, 3, none⟩ = some (.int .u64 0) := by rw [HB.cell 3]; rfl
  have b4 : (w.alloc (.cells (msgL kind seq mask V).toArray 60)).cell? ⟨w.heap.size, 4, none⟩ = some (.slice none 0 0) := by rw [HB.cell 4]; rfl
  have b5 : (w.alloc (.cells (msgL kind seq mask V).toArray 60)).cell? ⟨w.heap.size, 5, none⟩ = some (.slice none 0 0) := by rw [HB.cell 5]; rfl
  have b6 : (w.alloc (.cells (msgL kind seq mask V).toArray 60)).cell? ⟨w.heap.size, 6, none⟩ = some (.bool false) := by rw [HB.cell 6]; rfl
  have b7 : (w.alloc (.cells (msgL kind seq mask V).toArray 60)).cell? ⟨w.heap.size, 7, none⟩ = some (.int .u8 0) := by rw [HB.cell 7]; rfl
  have b8 : (w.alloc (.cells (msgL kind seq mask V).toArray 60)).cell? ⟨w.heap.size, 8, none⟩ = some (.int .u8 0) := by rw [HB.cell 8]; rfl
  have b9 : (w.alloc (.cells (msgL kind seq mask V).toArray 60)).cell? ⟨w.heap.size, 9, none⟩ = some (.int .u8 0) := by rw [HB.cell 9]; rfl
  have b10 : (w.alloc (.cells (msgL kind seq mask V).toArray 60)).cell? ⟨w.heap.size, 10, none⟩ = some (.int .u32 0) := by rw [HB.cell 10]; rfl
  have b11 : (w.alloc (.cells (msgL kind seq mask V).toArray 60)).cell? ⟨w.heap.size, 11, none⟩ = some (.int .u32 0) := by rw [HB.cell 11]; rfl
  have b13 : (w.alloc (.cells (msgL kind seq mask V).toArray 60)).cell? ⟨w.heap.size, 13, none⟩ = some (.int .u8 0) := by rw [HB.cell 13]; rfl
  have b14 : (w.alloc (.cells (msgL kind seq mask V).toArray 60)).cell? ⟨w.heap.size, 14, none⟩ = some (.slice none 0 0) := by rw [HB.cell 14]; rfl
  have b15 : (w.alloc (.cells (msgL kind seq mask V).toArray 60)).cell? ⟨w.heap.size, 15, none⟩ = some (.slice none 0 0) := by rw [HB.cell 15]; rfl
  have hsz : (msgL kind seq mask V).toArray.size = 17 := rfl
  clear HB
  generalize (msgL kind seq mask V).toArray = C at *
  go_enter Try.func69, Try.ntmps69
  go_wp2
  go_ret
  exact ⟨rfl, HS.out⟩
/-- mails that can be read -/
def OutsIn (w : World) (a : Option Addr) (os : List OB) : Prop := ∀ (i : Nat) (o : OB), os[i]? = some o → ∃ x pa pc, a = some x ∧ RowIn w (x.add (i * 18)) o.cells ∧ o.v = .slice pa o.b.length pc ∧ Bs w pa o.b ∧ o.b.length ≤ maxLen
theorem OutsIn.st {w w' : World} {a : Option Addr} {os : List OB} {G : Nat → Prop} (h : OutsIn w a os) (s : St No w G w') : OutsIn w' a os := fun i o hi => by
  obtain ⟨x, pa, pc, h1, h2, h3, h4, h5⟩ := h i o hi
  exact ⟨x, pa, pc, h1, h2.st s, h3, h4.st s (Dj.no _), h5⟩
theorem LsG.outs {w : World} {a : Option Addr} {n c : Nat} {os : List OB} (h : LsO w (.slice a n c) os) : n = os.length ∧ OutsIn w a os := by
  have hn : n = os.length := by
    obtain ⟨a', c', e, _⟩ := h.own.form
    cases e; rfl
  subst hn
  refine ⟨rfl, fun i o hi => ?_⟩
  have hil := (List.getElem?_eq_some_iff.1 hi).1
  obtain ⟨y, hy⟩ := rowL_some OB.cells_len (by decide) h.own i hil
  subst hy
  have hel := h.el o (List.mem_of_getElem? hi)
  obtain ⟨pa, pc, hv, h1, h2, _, _⟩ := hel.form
  refine ⟨y, pa, pc, rfl, fun j v hv => ?_, hv, ?_, by omega⟩
  · have hj : j < 18 := by have := (List.getElem?_eq_some_iff.1 hv).1; rwa [OB.cells_len] at this
    exact rowL_elem OB.cells_len h.own i o hi j v hj hv
  · rw [hv] at hel
    exact hel.bs
end Go.Proofs.Ytjepmckofocdnaa
namespace Go.Proofs.Ytjepmckofocdnaa
open Go.RowKit
set_option linter.unusedVariables false
set_option linter.unusedSimpArgs false

theorem RowIn.tail {w : World} {y : Addr} {c : Value} {cs : List Value} (h : RowIn w y (c :: cs)) : RowIn w ⟨y.block, y.off + 1, none⟩ cs := fun j v hv => by
  have h1 := h (j + 1) v hv
  have e : y.add (j + 1) = (⟨y.block, y.off + 1, none⟩ : Addr).add j := by
    unfold Addr.add
    split
    · omega
    · split
      · subst_vars; rfl
      · simp; omega
  rw [← e]; exact h1
theorem yieldsIf_load_at {P : Program} {ops : Array Oper} {S : World → Prop} {op : Oper} {a : Act} (hw : Region.wanted op (yielded ops a.tmps) = true) (ty : TypeId) (x : Operand) (ho : op.op = .load ty x)
    (y : Addr) (hx : a.eval x = .pointer (some y)) (cs : List Value) (d : TypeDesc) (hS : ∀ w, S w → RowIn w y cs)
    (hu : P.underlying ty = some d) (hd : d.isRow = true) (hi : (P.info? ty).map (·.size) = some cs.length) : YieldsIf P ops S op (.agg cs.toArray) a :=
  .inl ⟨hw, fun w hw' => by
    unfold execOp
    simp only [ho, hx, Sem.run_bind, Sem.run_pure, run_loadAt_at w y ty cs d (hS w hw') hu hd hi, Result.andThen_ok]⟩
theorem msgL_one (kind : Int) (seq : Nat) (mask : BitVec 64) (a : Option Addr) (n c : Nat) : (msgL kind seq mask (.slice a n c)).toArray.all (·.oneCell') = true := by
  simp [msgL, Value.oneCell']
theorem Ob.rowIn {w : World} {g : Nat} {T : TypeId} {cs : List Value} (h : Ob w g T cs.toArray) : RowIn w ⟨g, 0, none⟩ cs := fun j v hv => by
  have e : (⟨g, 0, none⟩ : Addr).add j = ⟨g, j, none⟩ := by unfold Addr.add; split <;> simp_all
  rw [e, h.cell j]
  simpa using hv
theorem Ob.stM {w w' : World} {g : Nat} {T : TypeId} {cs : Array Value} {G : Nat → Prop} (h : Ob w g T cs) (s : St No w G w') : Ob w' g T cs := h.move (s.block _ h.lt (fun e => e))
theorem mailsS {w' : World} {y1 y2 : Addr} {adr kind : Int} {seq : Nat} {mask : BitVec 64} {V1 V2 : Value} {pb qb : Nat} (h1 : w'.cell? y1 = some (.int .u8 adr)) (h2 : w'.cell? y2 = some (.int .u8 adr)) (o1 : Ob w' pb 60 (msgL kind seq mask V1).toArray) (o2 : Ob w' qb 60 (msgL kind seq mask V2).toArray) :
    w'.cell? y1 = some (.int .u8 adr) ∧ w'.cell? y2 = some (.int .u8 adr) ∧ Ob w' pb 60 (msgL kind seq mask V1).toArray ∧ Ob w' qb 60 (msgL kind seq mask V2).toArray ∧ w'.cell? ⟨pb, 0, none⟩ = some (.int .u8 kind) ∧ w'.cell? ⟨pb, 1, none⟩ = some (.int .u64 seq) ∧ w'.cell? ⟨pb, 12, none⟩ = some (.int .u64 (mask.toNat : Int)) ∧ w'.cell? ⟨pb, 16, none⟩ = some V1 ∧ w'.cell? ⟨qb, 0, none⟩ = some (.int .u8 kind) ∧ w'.cell? ⟨qb, 1, none⟩ = some (.int .u64 seq) ∧ w'.cell? ⟨qb, 12, none⟩ = some (.int .u64 (mask.toNat : Int)) ∧ w'.cell? ⟨qb, 16, none⟩ = some V2 :=
  ⟨h1, h2, o1, o2, by rw [o1.cell 0]; rfl, by rw [o1.cell 1]; rfl, by rw [o1.cell 12]; rfl, by rw [o1.cell 16]; rfl, by rw [o2.cell 0]; rfl, by rw [o2.cell 1]; rfl, by rw [o2.cell 12]; rfl, by rw [o2.cell 16]; rfl⟩
set_option maxRecDepth 100000 in
set_option maxHeartbeats 2000000 in
theorem mails8_calls (a : Option Addr) (c : Nat) (os : List OB) (b : Option Addr) (d : Nat) (ps : List OB) (hl : os.length ≤ 9223372036854775807) (w : World) (ha : OutsIn w a os) (hb : OutsIn w b ps) (hp : os.map OB.pl = ps.map OB.pl) :
    Calls Try.prog 70 #[.slice a os.length c, .slice b ps.length d] w fun e w' => e = .returned (.bool true) ∧ St No w No w' := by
  have HA := Lib.hid ha
  have HB := Lib.hid hb
  have HP := Lib.hid hp
  have hln : os.length = ps.length := by have := congrArg List.length hp; simpa using this
  have hl1 : ((os.length : Int) != (ps.length : Int)) = false := by rw [bne_eq_false_iff_eq]; omega
  have HL := Lib.hid hln
  clear ha hb hp hln
  go_enter Try.func70, Try.ntmps70
  go_wp2
  clear hl1
  go_loopw [5] (fun i wr => ∃ k : Nat, k ≤ os.length ∧ i = .int .i64 k ∧ Hid (St No w No wr)) (fun i _ => os.length - (intOf i).toNat)
  case atStart => exact ⟨0, Nat.zero_le _, rfl, Lib.hid (St.refl _ _)⟩
  case round =>
    obtain ⟨k, hk, rfl, HD⟩ := hrel
    by_cases hlt : k < os.length
    · have hlt2 : k < ps.length := by have := HL.out; omega
      obtain ⟨o, ho⟩ : ∃ o, os[k]? = some o := ⟨_, List.getElem?_eq_getElem hlt⟩
      obtain ⟨p, hpp⟩ : ∃ p, ps[k]? = some p := ⟨_, List.getElem?_eq_getElem hlt2⟩
      have hpl : o.pl = p.pl := by
        have h := congrArg (fun l => l[k]?) HP.out
        simp only [List.getElem?_map, ho, hpp] at h
        exact Option.some.inj h
      obtain ⟨x, pa, pc, rfl, hr1, hv1, hb1, hn1⟩ := (HA.out.st HD.out) k o ho
      obtain ⟨y, qa, qc, rfl, hr2, hv2, hb2, hn2⟩ := (HB.out.st HD.out) k p hpp
      obtain ⟨adr, kind, seq, mask, V1, bs⟩ := o
      obtain ⟨adr', kind', seq', mask', V2, bs'⟩ := p
      simp only [OB.pl, XM.mk.injEq] at hpl
      obtain ⟨rfl, rfl, rfl, rfl, rfl⟩ := hpl
      simp only at hv1 hb1 hn1 hv2 hb2 hn2
      subst hv1
      subst hv2
      have HR1 := Lib.hid hr1
      have HR2 := Lib.hid hr2
      have HM1 : Hid (RowIn wr ⟨(x.add (k * 18)).block, (x.add (k * 18)).off + 1, none⟩ (msgL kind seq mask (.slice pa bs.length pc))) := Lib.hid hr1.tail
      have HM2 : Hid (RowIn wr ⟨(y.add (k * 18)).block, (y.add (k * 18)).off + 1, none⟩ (msgL kind seq mask (.slice qa bs.length qc))) := Lib.hid hr2.tail
      have r0 : wr.cell? (x.add (k * 18)) = some (.int .u8 adr) := hr1 0 _ rfl
      have q0 : wr.cell? (y.add (k * 18)) = some (.int .u8 adr) := hr2 0 _ rfl
      have HS1 := Lib.hid hb1
      have HS2 := Lib.hid hb2
      have m1 : (k : Int) < (os.length : Int) := by omega
      have m2 : (k : Int) < (ps.length : Int) := by omega
      clear ho hpp hr1 hr2 hb1 hb2
      go_wp2_with fail
      go_cut [6, 7] from 13 to 78 (fun v u wx => ∃ pb qb : Nat, v = .pointer (some ⟨pb, 0, none⟩) ∧ u = .pointer (some ⟨qb, 0, none⟩) ∧ Hid (Ob wx pb 60 (msgL kind seq mask (.slice pa bs.length pc)).toArray) ∧ Hid (Ob wx qb 60 (msgL kind seq mask (.slice qa bs.length qc)).toArray) ∧ Hid (St No wr No wx))
      case first =>
        --R6
        refine wp_region_held_drew (S := fun w' => RowIn w' ⟨(x.add (k * 18)).block, (x.add (k * 18)).off + 1, none⟩ (msgL kind seq mask (.slice pa bs.length pc)) ∧ RowIn w' ⟨(y.add (k * 18)).block, (y.add (k * 18)).off + 1, none⟩ (msgL kind seq mask (.slice qa bs.length qc))) (by kernel_rfl) ⟨HM1.out.st (by repeat (first | exact St.refl No _ | refine St.trans ?_ (St.drew No _) | refine St.trans ?_ (St.alloc' No _ _))), HM2.out.st (by repeat (first | exact St.refl No _ | refine St.trans ?_ (St.drew No _) | refine St.trans ?_ (St.alloc' No _ _)))⟩ (fun hHeld => ?_)
        refine wpAnyH_take (i := 0) (oi := { dst := some 19, op := Go.Op.move (Go.Operand.tmp 0), type := 49, pos := "exact.go:94", after := #[], guard := none }) (v := .slice (some x) os.length c) rfl (by kernel_rfl) (by kernel_rfl) (by kernel_rfl) (fun _ _ _ h => h) (Or.inl ⟨by rfl, fun w hSw => by go_simp⟩) (by assumption) ?_
        simp only [Act.put, List.setIfInBounds_toArray, List.set_cons_zero, List.set_cons_succ]
        refine wpAnyH_take (i := 1) (oi := { dst := some 20, op := Go.Op.move (Go.Operand.tmp 5), type := 3, pos := "exact.go:94", after := #[], guard := none }) (v := .int .i64 k) rfl (by kernel_rfl) (by kernel_rfl) (by kernel_rfl) (fun _ _ _ h => h) (Or.inl ⟨by rfl, fun w hSw => by go_simp⟩) (by assumption) ?_
        simp only [Act.put, List.setIfInBounds_toArray, List.set_cons_zero, List.set_cons_succ]
        refine wpAnyH_take (i := 2) (oi := { dst := some 21, op := Go.Op.indexAddr 49 (Go.Operand.tmp 19) (Go.Operand.tmp 20), type := 0, pos := "exact.go:94", after := #[{ on := 0, ground := Go.Ground.data }, { on := 1, ground := Go.Ground.data }], guard := none }) (v := .pointer (some (x.add (k * 18)))) rfl (by kernel_rfl) (by kernel_rfl) (by kernel_rfl) (fun _ _ _ h => h) (Or.inl ⟨by rfl, fun w hSw => by go_simp⟩) (by assumption) ?_
        simp only [Act.put, List.setIfInBounds_toArray, List.set_cons_zero, List.set_cons_succ]
        refine wpAnyH_take (i := 3) (oi := { dst := some 22, op := Go.Op.fieldAddr 62 (Go.Operand.tmp 21) 1, type := 0, pos := "exact.go:94", after := #[{ on := 2, ground := Go.Ground.data }], guard := none }) (v := .pointer (some ⟨(x.add (k * 18)).block, (x.add (k * 18)).off + 1, none⟩)) rfl (by kernel_rfl) (by kernel_rfl) (by kernel_rfl) (fun _ _ _ h => h) (Or.inl ⟨by rfl, fun w hSw => by go_simp⟩) (by assumption) ?_
        simp only [Act.put, List.setIfInBounds_toArray, List.set_cons_zero, List.set_cons_succ]
        refine wpAnyH_take (i := 4) (oi := { dst := some 23, op := Go.Op.load 60 (Go.Operand.tmp 22), type := 60, pos := "exact.go:94", after := #[{ on := 3, ground := Go.Ground.data }], guard := none }) (v := .agg (msgL kind seq mask (.slice pa bs.length pc)).toArray) rfl (by kernel_rfl) (by kernel_rfl) (by kernel_rfl) (fun _ _ _ h => h) (yieldsIf_load_at (by rfl) _ _ rfl _ rfl (msgL kind seq mask (.slice pa bs.length pc)) _ (fun w h => h.1) Try.underlying60 rfl msgLInfo) (by assumption) ?_
        simp only [Act.put, List.setIfInBounds_toArray, List.set_cons_zero, List.set_cons_succ]
        refine wpAnyH_take (i := 5) (oi := { dst := some 24, op := Go.Op.move (Go.Operand.tmp 1), type := 49, pos := "exact.go:94", after := #[{ on := 12, ground := Go.Ground.gcOnly Go.Departure.lateStores }], guard := none }) (v := .slice (some y) ps.length d) rfl (by kernel_rfl) (by kernel_rfl) (by kernel_rfl) (fun _ _ _ h => h) (Or.inl ⟨by rfl, fun w hSw => by go_simp⟩) (by assumption) ?_
        simp only [Act.put, List.setIfInBounds_toArray, List.set_cons_zero, List.set_cons_succ]
        refine wpAnyH_take (i := 6) (oi := { dst := some 25, op := Go.Op.move (Go.Operand.tmp 5), type := 3, pos := "exact.go:94", after := #[{ on := 12, ground := Go.Ground.gcOnly Go.Departure.lateStores }], guard := none }) (v := .int .i64 k) rfl (by kernel_rfl) (by kernel_rfl) (by kernel_rfl) (fun _ _ _ h => h) (Or.inl ⟨by rfl, fun w hSw => by go_simp⟩) (by assumption) ?_
        simp only [Act.put, List.setIfInBounds_toArray, List.set_cons_zero, List.set_cons_succ]
        refine wpAnyH_take (i := 7) (oi := { dst := some 26, op := Go.Op.indexAddr 49 (Go.Operand.tmp 24) (Go.Operand.tmp 25), type := 0, pos := "exact.go:94", after := #[{ on := 5, ground := Go.Ground.data }, { on := 6, ground := Go.Ground.data }, { on := 12, ground := Go.Ground.gcOnly Go.Departure.lateStores }], guard := none }) (v := .pointer (some (y.add (k * 18)))) rfl (by kernel_rfl) (by kernel_rfl) (by kernel_rfl) (fun _ _ _ h => h) (Or.inl ⟨by rfl, fun w hSw => by go_simp⟩) (by assumption) ?_
        simp only [Act.put, List.setIfInBounds_toArray, List.set_cons_zero, List.set_cons_succ]
        refine wpAnyH_take (i := 8) (oi := { dst := some 27, op := Go.Op.fieldAddr 62 (Go.Operand.tmp 26) 1, type := 0, pos := "exact.go:94", after := #[{ on := 7, ground := Go.Ground.data }, { on := 12, ground := Go.Ground.gcOnly Go.Departure.lateStores }], guard := none }) (v := .pointer (some ⟨(y.add (k * 18)).block, (y.add (k * 18)).off + 1, none⟩)) rfl (by kernel_rfl) (by kernel_rfl) (by kernel_rfl) (fun _ _ _ h => h) (Or.inl ⟨by rfl, fun w hSw => by go_simp⟩) (by assumption) ?_
        simp only [Act.put, List.setIfInBounds_toArray, List.set_cons_zero, List.set_cons_succ]
        refine wpAnyH_take (i := 9) (oi := { dst := some 28, op := Go.Op.load 60 (Go.Operand.tmp 27), type := 60, pos := "exact.go:94", after := #[{ on := 8, ground := Go.Ground.data }, { on := 12, ground := Go.Ground.gcOnly Go.Departure.lateStores }], guard := none }) (v := .agg (msgL kind seq mask (.slice qa bs.length qc)).toArray) rfl (by kernel_rfl) (by kernel_rfl) (by kernel_rfl) (fun _ _ _ h => h) (yieldsIf_load_at (by rfl) _ _ rfl _ rfl (msgL kind seq mask (.slice qa bs.length qc)) _ (fun w h => h.2) Try.underlying60 rfl msgLInfo) (by assumption) ?_
        simp only [Act.put, List.setIfInBounds_toArray, List.set_cons_zero, List.set_cons_succ]
        clear hHeld
        refine wpAnyH_ready (rs := [10, 11]) (by kernel_rfl) (by simp) ?_
        refine AllReadyH.cons (o := { dst := some 6, op := Go.Op.alloc 60, type := 0, pos := "exact.go:94", after := #[], guard := none }) rfl (fun K hK => ?_) (AllReadyH.cons (o := { dst := some 7, op := Go.Op.alloc 60, type := 0, pos := "exact.go:94", after := #[], guard := none }) rfl (fun K hK => ?_) AllReadyH.nil)
        · go_simp
          refine hK.out _ _ ⟨HM1.out.st (by repeat (first | exact St.refl No _ | refine St.trans ?_ (St.drew No _) | refine St.trans ?_ (St.alloc' No _ _))), HM2.out.st (by repeat (first | exact St.refl No _ | refine St.trans ?_ (St.drew No _) | refine St.trans ?_ (St.alloc' No _ _)))⟩ (fun hHeld => ?_)
          clear hK K
          try simp only [Act.put, List.setIfInBounds_toArray, List.set_cons_zero, List.set_cons_succ]
          refine wpAnyH_ready (rs := [11]) (by kernel_rfl) (by simp) ?_
          refine AllReadyH.cons (o := { dst := some 7, op := Go.Op.alloc 60, type := 0, pos := "exact.go:94", after := #[], guard := none }) rfl (fun K hK => ?_) AllReadyH.nil
          go_simp
          refine hK.out _ _ ⟨HM1.out.st (by repeat (first | exact St.refl No _ | refine St.trans ?_ (St.drew No _) | refine St.trans ?_ (St.alloc' No _ _))), HM2.out.st (by repeat (first | exact St.refl No _ | refine St.trans ?_ (St.drew No _) | refine St.trans ?_ (St.alloc' No _ _)))⟩ (fun hHeld => ?_)
          clear hK K
          try simp only [Act.put, List.setIfInBounds_toArray, List.set_cons_zero, List.set_cons_succ]
          have hZ := two_rows wr #[.int .u8 0, .int .u64 0, .int .u64 0, .int .u64 0, .slice none 0 0, .slice none 0 0, .bool false, .int .u8 0, .int .u8 0, .int .u8 0, .int .u32 0, .int .u32 0, .int .u64 0, .int .u8 0, .slice none 0 0, .slice none 0 0, .slice none 0 0] #[.int .u8 0, .int .u64 0, .int .u64 0, .int .u64 0, .slice none 0 0, .slice none 0 0, .bool false, .int .u8 0, .int .u8 0, .int .u8 0, .int .u32 0, .int .u32 0, .int .u64 0, .int .u8 0, .slice none 0 0, .slice none 0 0, .slice none 0 0] 60
          generalize ((wr.alloc (.cells #[.int .u8 0, .int .u64 0, .int .u64 0, .int .u64 0, .slice none 0 0, .slice none 0 0, .bool false, .int .u8 0, .int .u8 0, .int .u8 0, .int .u32 0, .int .u32 0, .int .u64 0, .int .u8 0, .slice none 0 0, .slice none 0 0, .slice none 0 0] 60)).alloc (.cells #[.int .u8 0, .int .u64 0, .int .u64 0, .int .u64 0, .slice none 0 0, .slice none 0 0, .bool false, .int .u8 0, .int .u8 0, .int .u8 0, .int .u32 0, .int .u32 0, .int .u64 0, .int .u8 0, .slice none 0 0, .slice none 0 0, .slice none 0 0] 60)).drew = wz at *
          refine wpAnyH_ready (rs := [12]) (by kernel_rfl) (by simp) ?_
          refine AllReadyH.cons (o := { dst := none, op := Go.Op.store 60 (Go.Operand.tmp 6) (Go.Operand.tmp 23), type := 0, pos := "exact.go:94", after := #[{ on := 10, ground := Go.Ground.data }, { on := 4, ground := Go.Ground.data }, { on := 0, ground := Go.Ground.phase }, { on := 1, ground := Go.Ground.phase }, { on := 2, ground := Go.Ground.phase }, { on := 3, ground := Go.Ground.phase }, { on := 4, ground := Go.Ground.phase }, { on := 5, ground := Go.Ground.textOnly Go.Departure.lateStores }, { on := 6, ground := Go.Ground.textOnly Go.Departure.lateStores }, { on := 7, ground := Go.Ground.textOnly Go.Departure.lateStores }, { on := 8, ground := Go.Ground.textOnly Go.Departure.lateStores }, { on := 9, ground := Go.Ground.textOnly Go.Departure.lateStores }, { on := 10, ground := Go.Ground.phase }, { on := 11, ground := Go.Ground.phase }], guard := none }) rfl (fun K hK => ?_) AllReadyH.nil
          rw [if_pos (by rfl)]
          refine wp_store_row 60 _ _ rfl (wr.heap.size) (msgL kind seq mask (.slice pa bs.length pc)).toArray rfl rfl _ _ hZ.1 msgLInfo rfl (msgL_one _ _ _ _ _ _) ?_
          refine hK.out _ _ ⟨HM1.out.st (hZ.2.2.own (St.setRow (F := fpB0 (wr.heap.size)) wz (wr.heap.size) _ rfl) (Nat.le_refl _)), HM2.out.st (hZ.2.2.own (St.setRow (F := fpB0 (wr.heap.size)) wz (wr.heap.size) _ rfl) (Nat.le_refl _))⟩ (fun hHeld => ?_)
          clear hK K
          try simp only [Act.put, List.setIfInBounds_toArray, List.set_cons_zero, List.set_cons_succ]
          have hs1 := hZ.2.2.own (St.setRow (F := fpB0 (wr.heap.size)) wz (wr.heap.size) (msgL kind seq mask (.slice pa bs.length pc)).toArray rfl) (Nat.le_refl _)
          have ho1 : Ob (wz.setRow (wr.heap.size) (msgL kind seq mask (.slice pa bs.length pc)).toArray) (wr.heap.size) 60 (msgL kind seq mask (.slice pa bs.length pc)).toArray := hZ.1.setRow _
          have ho2 : Ob (wz.setRow (wr.heap.size) (msgL kind seq mask (.slice pa bs.length pc)).toArray) (wr.heap.size + 1) 60 #[.int .u8 0, .int .u64 0, .int .u64 0, .int .u64 0, .slice none 0 0, .slice none 0 0, .bool false, .int .u8 0, .int .u8 0, .int .u8 0, .int .u32 0, .int .u32 0, .int .u64 0, .int .u8 0, .slice none 0 0, .slice none 0 0, .slice none 0 0] := hZ.2.1.move ((St.setRow (F := fpB0 (wr.heap.size)) wz (wr.heap.size) _ rfl).block _ hZ.2.1.lt (by show ¬ _ = _; omega))
          refine wpAnyH_ready (rs := [13]) (by kernel_rfl) (by simp) ?_
          refine AllReadyH.cons (o := { dst := none, op := Go.Op.store 60 (Go.Operand.tmp 7) (Go.Operand.tmp 28), type := 0, pos := "exact.go:94", after := #[{ on := 11, ground := Go.Ground.data }, { on := 9, ground := Go.Ground.data }, { on := 12, ground := Go.Ground.chain }, { on := 0, ground := Go.Ground.phase }, { on := 1, ground := Go.Ground.phase }, { on := 2, ground := Go.Ground.phase }, { on := 3, ground := Go.Ground.phase }, { on := 4, ground := Go.Ground.phase }, { on := 5, ground := Go.Ground.phase }, { on := 6, ground := Go.Ground.phase }, { on := 7, ground := Go.Ground.phase }, { on := 8, ground := Go.Ground.phase }, { on := 9, ground := Go.Ground.phase }, { on := 10, ground := Go.Ground.phase }, { on := 11, ground := Go.Ground.phase }, { on := 12, ground := Go.Ground.phase }], guard := none }) rfl (fun K hK => ?_) AllReadyH.nil
          rw [if_pos (by rfl)]
          refine wp_store_row 60 _ _ rfl (wr.heap.size + 1) (msgL kind seq mask (.slice qa bs.length qc)).toArray rfl rfl _ _ ho2 msgLInfo rfl (msgL_one _ _ _ _ _ _) ?_
          refine hK.out _ _ ⟨HM1.out.st (hs1.own (St.setRow (F := fpB0 (wr.heap.size + 1)) _ (wr.heap.size + 1) _ rfl) (Nat.le_succ _)), HM2.out.st (hs1.own (St.setRow (F := fpB0 (wr.heap.size + 1)) _ (wr.heap.size + 1) _ rfl) (Nat.le_succ _))⟩ (fun hHeld => ?_)
          clear hK K
          try simp only [Act.put, List.setIfInBounds_toArray, List.set_cons_zero, List.set_cons_succ]
          have hs2 := hs1.own (St.setRow (F := fpB0 (wr.heap.size + 1)) _ (wr.heap.size + 1) (msgL kind seq mask (.slice qa bs.length qc)).toArray rfl) (Nat.le_succ _)
          have HO2 : Hid (Ob ((wz.setRow (wr.heap.size) (msgL kind seq mask (.slice pa bs.length pc)).toArray).setRow (wr.heap.size + 1) (msgL kind seq mask (.slice qa bs.length qc)).toArray) (wr.heap.size + 1) 60 (msgL kind seq mask (.slice qa bs.length qc)).toArray) := Lib.hid (ho2.setRow _)
          have HO1 : Hid (Ob ((wz.setRow (wr.heap.size) (msgL kind seq mask (.slice pa bs.length pc)).toArray).setRow (wr.heap.size + 1) (msgL kind seq mask (.slice qa bs.length qc)).toArray) (wr.heap.size) 60 (msgL kind seq mask (.slice pa bs.length pc)).toArray) := Lib.hid (ho1.move ((St.setRow (F := fpB0 (wr.heap.size + 1)) _ (wr.heap.size + 1) _ rfl).block _ ho1.lt (by show ¬ _ = _; omega)))
          have HS2x := Lib.hid hs2
          clear hs2 hs1 ho1 ho2 hZ hHeld
          refine wpAnyH_done (by kernel_rfl) ?_ _
          go_wp2_with fail
          go_meet
          exact ⟨_, _, rfl, rfl, HO1, HO2, HS2x⟩
        · go_simp
          refine hK.out _ _ ⟨HM1.out.st (by repeat (first | exact St.refl No _ | refine St.trans ?_ (St.drew No _) | refine St.trans ?_ (St.alloc' No _ _))), HM2.out.st (by repeat (first | exact St.refl No _ | refine St.trans ?_ (St.drew No _) | refine St.trans ?_ (St.alloc' No _ _)))⟩ (fun hHeld => ?_)
          clear hK K
          try simp only [Act.put, List.setIfInBounds_toArray, List.set_cons_zero, List.set_cons_succ]
          refine wpAnyH_ready (rs := [10]) (by kernel_rfl) (by simp) ?_
          refine AllReadyH.cons (o := { dst := some 6, op := Go.Op.alloc 60, type := 0, pos := "exact.go:94", after := #[], guard := none }) rfl (fun K hK => ?_) AllReadyH.nil
          go_simp
          refine hK.out _ _ ⟨HM1.out.st (by repeat (first | exact St.refl No _ | refine St.trans ?_ (St.drew No _) | refine St.trans ?_ (St.alloc' No _ _))), HM2.out.st (by repeat (first | exact St.refl No _ | refine St.trans ?_ (St.drew No _) | refine St.trans ?_ (St.alloc' No _ _)))⟩ (fun hHeld => ?_)
          clear hK K
          try simp only [Act.put, List.setIfInBounds_toArray, List.set_cons_zero, List.set_cons_succ]
          have hZ := two_rows wr #[.int .u8 0, .int .u64 0, .int .u64 0, .int .u64 0, .slice none 0 0, .slice none 0 0, .bool false, .int .u8 0, .int .u8 0, .int .u8 0, .int .u32 0, .int .u32 0, .int .u64 0, .int .u8 0, .slice none 0 0, .slice none 0 0, .slice none 0 0] #[.int .u8 0, .int .u64 0, .int .u64 0, .int .u64 0, .slice none 0 0, .slice none 0 0, .bool false, .int .u8 0, .int .u8 0, .int .u8 0, .int .u32 0, .int .u32 0, .int .u64 0, .int .u8 0, .slice none 0 0, .slice none 0 0, .slice none 0 0] 60
          generalize ((wr.alloc (.cells #[.int .u8 0, .int .u64 0, .int .u64 0, .int .u64 0, .slice none 0 0, .slice none 0 0, .bool false, .int .u8 0, .int .u8 0, .int .u8 0, .int .u32 0, .int .u32 0, .int .u64 0, .int .u8 0, .slice none 0 0, .slice none 0 0, .slice none 0 0] 60)).alloc (.cells #[.int .u8 0, .int .u64 0, .int .u64 0, .int .u64 0, .slice none 0 0, .slice none 0 0, .bool false, .int .u8 0, .int .u8 0, .int .u8 0, .int .u32 0, .int .u32 0, .int .u64 0, .int .u8 0, .slice none 0 0, .slice none 0 0, .slice none 0 0] 60)).drew = wz at *
          refine wpAnyH_ready (rs := [12]) (by kernel_rfl) (by simp) ?_
          refine AllReadyH.cons (o := { dst := none, op := Go.Op.store 60 (Go.Operand.tmp 6) (Go.Operand.tmp 23), type := 0, pos := "exact.go:94", after := #[{ on := 10, ground := Go.Ground.data }, { on := 4, ground := Go.Ground.data }, { on := 0, ground := Go.Ground.phase }, { on := 1, ground := Go.Ground.phase }, { on := 2, ground := Go.Ground.phase }, { on := 3, ground := Go.Ground.phase }, { on := 4, ground := Go.Ground.phase }, { on := 5, ground := Go.Ground.textOnly Go.Departure.lateStores }, { on := 6, ground := Go.Ground.textOnly Go.Departure.lateStores }, { on := 7, ground := Go.Ground.textOnly Go.Departure.lateStores }, { on := 8, ground := Go.Ground.textOnly Go.Departure.lateStores }, { on := 9, ground := Go.Ground.textOnly Go.Departure.lateStores }, { on := 10, ground := Go.Ground.phase }, { on := 11, ground := Go.Ground.phase }], guard := none }) rfl (fun K hK => ?_) AllReadyH.nil
          rw [if_pos (by rfl)]
          refine wp_store_row 60 _ _ rfl (wr.heap.size + 1) (msgL kind seq mask (.slice pa bs.length pc)).toArray rfl rfl _ _ hZ.2.1 msgLInfo rfl (msgL_one _ _ _ _ _ _) ?_
          refine hK.out _ _ ⟨HM1.out.st (hZ.2.2.own (St.setRow (F := fpB0 (wr.heap.size + 1)) wz (wr.heap.size + 1) _ rfl) (Nat.le_succ _)), HM2.out.st (hZ.2.2.own (St.setRow (F := fpB0 (wr.heap.size + 1)) wz (wr.heap.size + 1) _ rfl) (Nat.le_succ _))⟩ (fun hHeld => ?_)
          clear hK K
          try simp only [Act.put, List.setIfInBounds_toArray, List.set_cons_zero, List.set_cons_succ]
          have hs1 := hZ.2.2.own (St.setRow (F := fpB0 (wr.heap.size + 1)) wz (wr.heap.size + 1) (msgL kind seq mask (.slice pa bs.length pc)).toArray rfl) (Nat.le_succ _)
          have ho1 : Ob (wz.setRow (wr.heap.size + 1) (msgL kind seq mask (.slice pa bs.length pc)).toArray) (wr.heap.size + 1) 60 (msgL kind seq mask (.slice pa bs.length pc)).toArray := hZ.2.1.setRow _
          have ho2 : Ob (wz.setRow (wr.heap.size + 1) (msgL kind seq mask (.slice pa bs.length pc)).toArray) (wr.heap.size) 60 #[.int .u8 0, .int .u64 0, .int .u64 0, .int .u64 0, .slice none 0 0, .slice none 0 0, .bool false, .int .u8 0, .int .u8 0, .int .u8 0, .int .u32 0, .int .u32 0, .int .u64 0, .int .u8 0, .slice none 0 0, .slice none 0 0, .slice none 0 0] := hZ.1.move ((St.setRow (F := fpB0 (wr.heap.size + 1)) wz (wr.heap.size + 1) _ rfl).block _ hZ.1.lt (by show ¬ _ = _; omega))
          refine wpAnyH_ready (rs := [13]) (by kernel_rfl) (by simp) ?_
          refine AllReadyH.cons (o := { dst := none, op := Go.Op.store 60 (Go.Operand.tmp 7) (Go.Operand.tmp 28), type := 0, pos := "exact.go:94", after := #[{ on := 11, ground := Go.Ground.data }, { on := 9, ground := Go.Ground.data }, { on := 12, ground := Go.Ground.chain }, { on := 0, ground := Go.Ground.phase }, { on := 1, ground := Go.Ground.phase }, { on := 2, ground := Go.Ground.phase }, { on := 3, ground := Go.Ground.phase }, { on := 4, ground := Go.Ground.phase }, { on := 5, ground := Go.Ground.phase }, { on := 6, ground := Go.Ground.phase }, { on := 7, ground := Go.Ground.phase }, { on := 8, ground := Go.Ground.phase }, { on := 9, ground := Go.Ground.phase }, { on := 10, ground := Go.Ground.phase }, { on := 11, ground := Go.Ground.phase }, { on := 12, ground := Go.Ground.phase }], guard := none }) rfl (fun K hK => ?_) AllReadyH.nil
          rw [if_pos (by rfl)]
          refine wp_store_row 60 _ _ rfl (wr.heap.size) (msgL kind seq mask (.slice qa bs.length qc)).toArray rfl rfl _ _ ho2 msgLInfo rfl (msgL_one _ _ _ _ _ _) ?_
          refine hK.out _ _ ⟨HM1.out.st (hs1.own (St.setRow (F := fpB0 (wr.heap.size)) _ (wr.heap.size) _ rfl) (Nat.le_refl _)), HM2.out.st (hs1.own (St.setRow (F := fpB0 (wr.heap.size)) _ (wr.heap.size) _ rfl) (Nat.le_refl _))⟩ (fun hHeld => ?_)
          clear hK K
          try simp only [Act.put, List.setIfInBounds_toArray, List.set_cons_zero, List.set_cons_succ]
          have hs2 := hs1.own (St.setRow (F := fpB0 (wr.heap.size)) _ (wr.heap.size) (msgL kind seq mask (.slice qa bs.length qc)).toArray rfl) (Nat.le_refl _)
          have HO2 : Hid (Ob ((wz.setRow (wr.heap.size + 1) (msgL kind seq mask (.slice pa bs.length pc)).toArray).setRow (wr.heap.size) (msgL kind seq mask (.slice qa bs.length qc)).toArray) (wr.heap.size) 60 (msgL kind seq mask (.slice qa bs.length qc)).toArray) := Lib.hid (ho2.setRow _)
          have HO1 : Hid (Ob ((wz.setRow (wr.heap.size + 1) (msgL kind seq mask (.slice pa bs.length pc)).toArray).setRow (wr.heap.size) (msgL kind seq mask (.slice qa bs.length qc)).toArray) (wr.heap.size + 1) 60 (msgL kind seq mask (.slice pa bs.length pc)).toArray) := Lib.hid (ho1.move ((St.setRow (F := fpB0 (wr.heap.size)) _ (wr.heap.size) _ rfl).block _ ho1.lt (by show ¬ _ = _; omega)))
          have HS2x := Lib.hid hs2
          clear hs2 hs1 ho1 ho2 hZ hHeld
          refine wpAnyH_done (by kernel_rfl) ?_ _
          go_wp2_with fail
          go_meet
          exact ⟨_, _, rfl, rfl, HO1, HO2, HS2x⟩
        --R6END
      case rest =>
        obtain ⟨pb, qb, rfl, rfl, HO1, HO2, HSC⟩ := hcut
        have r0c := HSC.out.cellN r0
        have q0c := HSC.out.cellN q0
        have HSM : Hid (∀ W, St No wc No W → Calls Try.prog 25 #[.slice pa bs.length pc, .slice qa bs.length qc] W fun e w' => e = .returned (.bool true) ∧ Dr W w') := Lib.hid (fun W s => by
          have h := same8_calls pa pc bs qa qc bs hn1 hn2 W ((HS1.out.st HSC.out (Dj.no _)).st s (Dj.no _)) ((HS2.out.st HSC.out (Dj.no _)).st s (Dj.no _))
          rwa [decide_eq_true rfl] at h)
        clear r0 q0
        go_upto_region 7 with fail
        --R7
        refine wp_region_held_drew (S := (fun w' => w'.cell? (x.add (k * 18)) = some (.int .u8 adr) ∧ w'.cell? (y.add (k * 18)) = some (.int .u8 adr) ∧ Ob w' pb 60 (msgL kind seq mask (.slice pa bs.length pc)).toArray ∧ Ob w' qb 60 (msgL kind seq mask (.slice qa bs.length qc)).toArray ∧ w'.cell? ⟨pb, 0, none⟩ = some (.int .u8 kind) ∧ w'.cell? ⟨pb, 1, none⟩ = some (.int .u64 seq) ∧ w'.cell? ⟨pb, 12, none⟩ = some (.int .u64 (mask.toNat : Int)) ∧ w'.cell? ⟨pb, 16, none⟩ = some (.slice pa bs.length pc) ∧ w'.cell? ⟨qb, 0, none⟩ = some (.int .u8 kind) ∧ w'.cell? ⟨qb, 1, none⟩ = some (.int .u64 seq) ∧ w'.cell? ⟨qb, 12, none⟩ = some (.int .u64 (mask.toNat : Int)) ∧ w'.cell? ⟨qb, 16, none⟩ = some (.slice qa bs.length qc))) (by kernel_rfl) (mailsS ((St.drew No wc).cellN r0c) ((St.drew No wc).cellN q0c) (HO1.out.stM (St.drew No wc)) (HO2.out.stM (St.drew No wc))) (fun hHeld => ?_)
        refine wpAnyH_take (i := 0) (oi := { dst := some 29, op := Go.Op.move (Go.Operand.tmp 0), type := 49, pos := "exact.go:95", after := #[], guard := none }) (v := .slice (some x) os.length c) rfl (by kernel_rfl) (by kernel_rfl) (by kernel_rfl) (fun _ _ _ h => h) (Or.inl ⟨by rfl, fun w hSw => by go_simp⟩) (by assumption) ?_
        simp only [Act.put, List.setIfInBounds_toArray, List.set_cons_zero, List.set_cons_succ]
        refine wpAnyH_take (i := 1) (oi := { dst := some 30, op := Go.Op.move (Go.Operand.tmp 5), type := 3, pos := "exact.go:95", after := #[], guard := none }) (v := .int .i64 k) rfl (by kernel_rfl) (by kernel_rfl) (by kernel_rfl) (fun _ _ _ h => h) (Or.inl ⟨by rfl, fun w hSw => by go_simp⟩) (by assumption) ?_
        simp only [Act.put, List.setIfInBounds_toArray, List.set_cons_zero, List.set_cons_succ]
        refine wpAnyH_take (i := 2) (oi := { dst := some 31, op := Go.Op.indexAddr 49 (Go.Operand.tmp 29) (Go.Operand.tmp 30), type := 0, pos := "exact.go:95", after := #[{ on := 0, ground := Go.Ground.data }, { on := 1, ground := Go.Ground.data }], guard := none }) (v := .pointer (some (x.add (k * 18)))) rfl (by kernel_rfl) (by kernel_rfl) (by kernel_rfl) (fun _ _ _ h => h) (Or.inl ⟨by rfl, fun w hSw => by go_simp⟩) (by assumption) ?_
        simp only [Act.put, List.setIfInBounds_toArray, List.set_cons_zero, List.set_cons_succ]
        refine wpAnyH_take (i := 3) (oi := { dst := some 32, op := Go.Op.fieldAddr 62 (Go.Operand.tmp 31) 0, type := 0, pos := "exact.go:95", after := #[{ on := 2, ground := Go.Ground.data }], guard := none }) (v := .pointer (some (x.add (k * 18)))) rfl (by kernel_rfl) (by kernel_rfl) (by kernel_rfl) (fun _ _ _ h => h) (Or.inl ⟨by rfl, fun w hSw => by go_simp⟩) (by assumption) ?_
        simp only [Act.put, List.setIfInBounds_toArray, List.set_cons_zero, List.set_cons_succ]
        refine wpAnyH_take (i := 4) (oi := { dst := some 33, op := Go.Op.load 46 (Go.Operand.tmp 32), type := 46, pos := "exact.go:95", after := #[{ on := 3, ground := Go.Ground.data }], guard := none }) (v := .int .u8 adr) rfl (by kernel_rfl) (by kernel_rfl) (by kernel_rfl) (fun _ _ _ h => h) (Or.inl ⟨by rfl, fun w hSw => by go_simp⟩) (by assumption) ?_
        simp only [Act.put, List.setIfInBounds_toArray, List.set_cons_zero, List.set_cons_succ]
        refine wpAnyH_take (i := 5) (oi := { dst := some 34, op := Go.Op.move (Go.Operand.tmp 1), type := 49, pos := "exact.go:95", after := #[], guard := none }) (v := .slice (some y) ps.length d) rfl (by kernel_rfl) (by kernel_rfl) (by kernel_rfl) (fun _ _ _ h => h) (Or.inl ⟨by rfl, fun w hSw => by go_simp⟩) (by assumption) ?_
        simp only [Act.put, List.setIfInBounds_toArray, List.set_cons_zero, List.set_cons_succ]
        refine wpAnyH_take (i := 6) (oi := { dst := some 35, op := Go.Op.move (Go.Operand.tmp 5), type := 3, pos := "exact.go:95", after := #[], guard := none }) (v := .int .i64 k) rfl (by kernel_rfl) (by kernel_rfl) (by kernel_rfl) (fun _ _ _ h => h) (Or.inl ⟨by rfl, fun w hSw => by go_simp⟩) (by assumption) ?_
        simp only [Act.put, List.setIfInBounds_toArray, List.set_cons_zero, List.set_cons_succ]
        refine wpAnyH_take (i := 7) (oi := { dst := some 36, op := Go.Op.indexAddr 49 (Go.Operand.tmp 34) (Go.Operand.tmp 35), type := 0, pos := "exact.go:95", after := #[{ on := 5, ground := Go.Ground.data }, { on := 6, ground := Go.Ground.data }], guard := none }) (v := .pointer (some (y.add (k * 18)))) rfl (by kernel_rfl) (by kernel_rfl) (by kernel_rfl) (fun _ _ _ h => h) (Or.inl ⟨by rfl, fun w hSw => by go_simp⟩) (by assumption) ?_
        simp only [Act.put, List.setIfInBounds_toArray, List.set_cons_zero, List.set_cons_succ]
        refine wpAnyH_take (i := 8) (oi := { dst := some 37, op := Go.Op.fieldAddr 62 (Go.Operand.tmp 36) 0, type := 0, pos := "exact.go:95", after := #[{ on := 7, ground := Go.Ground.data }], guard := none }) (v := .pointer (some (y.add (k * 18)))) rfl (by kernel_rfl) (by kernel_rfl) (by kernel_rfl) (fun _ _ _ h => h) (Or.inl ⟨by rfl, fun w hSw => by go_simp⟩) (by assumption) ?_
        simp only [Act.put, List.setIfInBounds_toArray, List.set_cons_zero, List.set_cons_succ]
        refine wpAnyH_take (i := 9) (oi := { dst := some 38, op := Go.Op.load 46 (Go.Operand.tmp 37), type := 46, pos := "exact.go:95", after := #[{ on := 8, ground := Go.Ground.data }], guard := none }) (v := .int .u8 adr) rfl (by kernel_rfl) (by kernel_rfl) (by kernel_rfl) (fun _ _ _ h => h) (Or.inl ⟨by rfl, fun w hSw => by go_simp⟩) (by assumption) ?_
        simp only [Act.put, List.setIfInBounds_toArray, List.set_cons_zero, List.set_cons_succ]
        refine wpAnyH_take (i := 10) (oi := { dst := some 39, op := Go.Op.binOp Go.BinOp.neq 46 (Go.Operand.tmp 33) (Go.Operand.tmp 38) 46, type := 4, pos := "exact.go:95", after := #[{ on := 4, ground := Go.Ground.data }, { on := 9, ground := Go.Ground.data }], guard := none }) (v := .bool false) rfl (by kernel_rfl) (by kernel_rfl) (by kernel_rfl) (fun _ _ _ h => h) (Or.inl ⟨by rfl, fun w hSw => by go_simp⟩) (by assumption) ?_
        simp only [Act.put, List.setIfInBounds_toArray, List.set_cons_zero, List.set_cons_succ]
        refine wpAnyH_take (i := 11) (oi := { dst := some 40, op := Go.Op.move (Go.Operand.tmp 39), type := 4, pos := "exact.go:95", after := #[{ on := 10, ground := Go.Ground.data }], guard := none }) (v := .bool false) rfl (by kernel_rfl) (by kernel_rfl) (by kernel_rfl) (fun _ _ _ h => h) (Or.inl ⟨by rfl, fun w hSw => by go_simp⟩) (by assumption) ?_
        simp only [Act.put, List.setIfInBounds_toArray, List.set_cons_zero, List.set_cons_succ]
        refine wpAnyH_take (i := 12) (oi := { dst := some 41, op := Go.Op.load 60 (Go.Operand.tmp 6), type := 60, pos := "exact.go:95", after := #[{ on := 11, ground := Go.Ground.guard }], guard := some (11, false) }) (v := .agg (msgL kind seq mask (.slice pa bs.length pc)).toArray) rfl (by kernel_rfl) (by kernel_rfl) (by kernel_rfl) (fun _ _ _ h => h) (yieldsIf_load_at (by rfl) _ _ rfl _ rfl (msgL kind seq mask (.slice pa bs.length pc)) _ (fun w h => Ob.rowIn h.2.2.1) Try.underlying60 rfl msgLInfo) (by assumption) ?_
        simp only [Act.put, List.setIfInBounds_toArray, List.set_cons_zero, List.set_cons_succ]
        refine wpAnyH_ready (rs := [13]) (by kernel_rfl) (by simp) ?_
        refine AllReadyH.cons (o := { dst := some 42, op := Go.Op.call { callee := Go.Callee.value (Go.Operand.func 69), args := #[Go.Operand.tmp 41], argTypes := #[60] }, type := 4, pos := "exact.go:95", after := #[{ on := 12, ground := Go.Ground.data }, { on := 11, ground := Go.Ground.chain }, { on := 11, ground := Go.Ground.guard }], guard := some (11, false) }) rfl (fun K hK => ?_) AllReadyH.nil
        go_simp
        go_wp2_with (go_at_call 69; refine (bare_calls _ kind seq mask _).mono ?_; rintro r w7 ⟨rfl, hs7⟩; have hs7' : St No wc No w7 := (by refine St.trans ?_ hs7; exact St.drew No _))
        refine hK.out _ _ (mailsS (hs7'.cellN r0c) (hs7'.cellN q0c) (HO1.out.stM hs7') (HO2.out.stM hs7')) (fun hHeld => ?_)
        clear hK K
        try simp only [Act.put, List.setIfInBounds_toArray, List.set_cons_zero, List.set_cons_succ]
        refine wpAnyH_take (i := 14) (oi := { dst := some 43, op := Go.Op.unOp Go.UnOp.not 4 (Go.Operand.tmp 42), type := 4, pos := "exact.go:95", after := #[{ on := 13, ground := Go.Ground.data }, { on := 11, ground := Go.Ground.guard }], guard := some (11, false) }) (v := .bool false) rfl (by kernel_rfl) (by kernel_rfl) (by kernel_rfl) (fun _ _ _ h => h) (Or.inl ⟨by rfl, fun w hSw => by go_simp⟩) (by assumption) ?_
        simp only [Act.put, List.setIfInBounds_toArray, List.set_cons_zero, List.set_cons_succ]
        refine wpAnyH_take (i := 15) (oi := { dst := some 44, op := Go.Op.pick (Go.Operand.tmp 40) (Go.Operand.const (Go.Value.bool true)) (Go.Operand.tmp 43), type := 4, pos := "exact.go:95", after := #[{ on := 11, ground := Go.Ground.data }, { on := 14, ground := Go.Ground.data }], guard := none }) (v := .bool false) rfl (by kernel_rfl) (by kernel_rfl) (by kernel_rfl) (fun _ _ _ h => h) (Or.inl ⟨by rfl, fun w hSw => by go_simp⟩) (by assumption) ?_
        simp only [Act.put, List.setIfInBounds_toArray, List.set_cons_zero, List.set_cons_succ]
        refine wpAnyH_take (i := 16) (oi := { dst := some 45, op := Go.Op.move (Go.Operand.tmp 44), type := 4, pos := "exact.go:95", after := #[{ on := 15, ground := Go.Ground.data }, { on := 13, ground := Go.Ground.chain }], guard := none }) (v := .bool false) rfl (by kernel_rfl) (by kernel_rfl) (by kernel_rfl) (fun _ _ _ h => h) (Or.inl ⟨by rfl, fun w hSw => by go_simp⟩) (by assumption) ?_
        simp only [Act.put, List.setIfInBounds_toArray, List.set_cons_zero, List.set_cons_succ]
        refine wpAnyH_take (i := 17) (oi := { dst := some 46, op := Go.Op.load 60 (Go.Operand.tmp 7), type := 60, pos := "exact.go:95", after := #[{ on := 16, ground := Go.Ground.guard }], guard := some (16, false) }) (v := .agg (msgL kind seq mask (.slice qa bs.length qc)).toArray) rfl (by kernel_rfl) (by kernel_rfl) (by kernel_rfl) (fun _ _ _ h => h) (yieldsIf_load_at (by rfl) _ _ rfl _ rfl (msgL kind seq mask (.slice qa bs.length qc)) _ (fun w h => Ob.rowIn h.2.2.2.1) Try.underlying60 rfl msgLInfo) (by assumption) ?_
        simp only [Act.put, List.setIfInBounds_toArray, List.set_cons_zero, List.set_cons_succ]
        refine wpAnyH_ready (rs := [18]) (by kernel_rfl) (by simp) ?_
        refine AllReadyH.cons (o := { dst := some 47, op := Go.Op.call { callee := Go.Callee.value (Go.Operand.func 69), args := #[Go.Operand.tmp 46], argTypes := #[60] }, type := 4, pos := "exact.go:95", after := #[{ on := 17, ground := Go.Ground.data }, { on := 16, ground := Go.Ground.chain }, { on := 16, ground := Go.Ground.guard }], guard := some (16, false) }) rfl (fun K hK => ?_) AllReadyH.nil
        go_simp
        go_wp2_with (go_at_call 69; refine (bare_calls _ kind seq mask _).mono ?_; rintro r w8 ⟨rfl, hs8⟩; have hs8' : St No wc No w8 := (by refine St.trans ?_ hs8; exact hs7'))
        refine hK.out _ _ (mailsS (hs8'.cellN r0c) (hs8'.cellN q0c) (HO1.out.stM hs8') (HO2.out.stM hs8')) (fun hHeld => ?_)
        clear hK K
        try simp only [Act.put, List.setIfInBounds_toArray, List.set_cons_zero, List.set_cons_succ]
        refine wpAnyH_take (i := 19) (oi := { dst := some 48, op := Go.Op.unOp Go.UnOp.not 4 (Go.Operand.tmp 47), type := 4, pos := "exact.go:95", after := #[{ on := 18, ground := Go.Ground.data }, { on := 16, ground := Go.Ground.guard }], guard := some (16, false) }) (v := .bool false) rfl (by kernel_rfl) (by kernel_rfl) (by kernel_rfl) (fun _ _ _ h => h) (Or.inl ⟨by rfl, fun w hSw => by go_simp⟩) (by assumption) ?_
        simp only [Act.put, List.setIfInBounds_toArray, List.set_cons_zero, List.set_cons_succ]
        refine wpAnyH_take (i := 20) (oi := { dst := some 49, op := Go.Op.pick (Go.Operand.tmp 45) (Go.Operand.const (Go.Value.bool true)) (Go.Operand.tmp 48), type := 4, pos := "exact.go:95", after := #[{ on := 16, ground := Go.Ground.data }, { on := 19, ground := Go.Ground.data }], guard := none }) (v := .bool false) rfl (by kernel_rfl) (by kernel_rfl) (by kernel_rfl) (fun _ _ _ h => h) (Or.inl ⟨by rfl, fun w hSw => by go_simp⟩) (by assumption) ?_
        simp only [Act.put, List.setIfInBounds_toArray, List.set_cons_zero, List.set_cons_succ]
        refine wpAnyH_take (i := 21) (oi := { dst := some 50, op := Go.Op.move (Go.Operand.tmp 49), type := 4, pos := "exact.go:95", after := #[{ on := 20, ground := Go.Ground.data }, { on := 18, ground := Go.Ground.chain }], guard := none }) (v := .bool false) rfl (by kernel_rfl) (by kernel_rfl) (by kernel_rfl) (fun _ _ _ h => h) (Or.inl ⟨by rfl, fun w hSw => by go_simp⟩) (by assumption) ?_
        simp only [Act.put, List.setIfInBounds_toArray, List.set_cons_zero, List.set_cons_succ]
        refine wpAnyH_take (i := 22) (oi := { dst := some 51, op := Go.Op.fieldAddr 60 (Go.Operand.tmp 6) 0, type := 0, pos := "exact.go:95", after := #[{ on := 21, ground := Go.Ground.guard }], guard := some (21, false) }) (v := .pointer (some ⟨pb, 0, none⟩)) rfl (by kernel_rfl) (by kernel_rfl) (by kernel_rfl) (fun _ _ _ h => h) (Or.inl ⟨by rfl, fun w hSw => by go_simp⟩) (by assumption) ?_
        simp only [Act.put, List.setIfInBounds_toArray, List.set_cons_zero, List.set_cons_succ]
        refine wpAnyH_take (i := 23) (oi := { dst := some 52, op := Go.Op.load 53 (Go.Operand.tmp 51), type := 53, pos := "exact.go:95", after := #[{ on := 22, ground := Go.Ground.data }, { on := 21, ground := Go.Ground.guard }], guard := some (21, false) }) (v := .int .u8 kind) rfl (by kernel_rfl) (by kernel_rfl) (by kernel_rfl) (fun _ _ _ h => h) (Or.inl ⟨by rfl, fun w hSw => by go_simp⟩) (by assumption) ?_
        simp only [Act.put, List.setIfInBounds_toArray, List.set_cons_zero, List.set_cons_succ]
        refine wpAnyH_take (i := 24) (oi := { dst := some 53, op := Go.Op.fieldAddr 60 (Go.Operand.tmp 7) 0, type := 0, pos := "exact.go:95", after := #[{ on := 21, ground := Go.Ground.guard }], guard := some (21, false) }) (v := .pointer (some ⟨qb, 0, none⟩)) rfl (by kernel_rfl) (by kernel_rfl) (by kernel_rfl) (fun _ _ _ h => h) (Or.inl ⟨by rfl, fun w hSw => by go_simp⟩) (by assumption) ?_
        simp only [Act.put, List.setIfInBounds_toArray, List.set_cons_zero, List.set_cons_succ]
        refine wpAnyH_take (i := 25) (oi := { dst := some 54, op := Go.Op.load 53 (Go.Operand.tmp 53), type := 53, pos := "exact.go:95", after := #[{ on := 24, ground := Go.Ground.data }, { on := 21, ground := Go.Ground.guard }], guard := some (21, false) }) (v := .int .u8 kind) rfl (by kernel_rfl) (by kernel_rfl) (by kernel_rfl) (fun _ _ _ h => h) (Or.inl ⟨by rfl, fun w hSw => by go_simp⟩) (by assumption) ?_
        simp only [Act.put, List.setIfInBounds_toArray, List.set_cons_zero, List.set_cons_succ]
        refine wpAnyH_take (i := 26) (oi := { dst := some 55, op := Go.Op.binOp Go.BinOp.neq 53 (Go.Operand.tmp 52) (Go.Operand.tmp 54) 53, type := 4, pos := "exact.go:95", after := #[{ on := 23, ground := Go.Ground.data }, { on := 25, ground := Go.Ground.data }, { on := 21, ground := Go.Ground.guard }], guard := some (21, false) }) (v := .bool false) rfl (by kernel_rfl) (by kernel_rfl) (by kernel_rfl) (fun _ _ _ h => h) (Or.inl ⟨by rfl, fun w hSw => by go_simp⟩) (by assumption) ?_
        simp only [Act.put, List.setIfInBounds_toArray, List.set_cons_zero, List.set_cons_succ]
        refine wpAnyH_take (i := 27) (oi := { dst := some 56, op := Go.Op.pick (Go.Operand.tmp 50) (Go.Operand.const (Go.Value.bool true)) (Go.Operand.tmp 55), type := 4, pos := "exact.go:95", after := #[{ on := 21, ground := Go.Ground.data }, { on := 26, ground := Go.Ground.data }], guard := none }) (v := .bool false) rfl (by kernel_rfl) (by kernel_rfl) (by kernel_rfl) (fun _ _ _ h => h) (Or.inl ⟨by rfl, fun w hSw => by go_simp⟩) (by assumption) ?_
        simp only [Act.put, List.setIfInBounds_toArray, List.set_cons_zero, List.set_cons_succ]
        refine wpAnyH_take (i := 28) (oi := { dst := some 57, op := Go.Op.move (Go.Operand.tmp 56), type := 4, pos := "exact.go:95", after := #[{ on := 27, ground := Go.Ground.data }, { on := 21, ground := Go.Ground.chain }], guard := none }) (v := .bool false) rfl (by kernel_rfl) (by kernel_rfl) (by kernel_rfl) (fun _ _ _ h => h) (Or.inl ⟨by rfl, fun w hSw => by go_simp⟩) (by assumption) ?_
        simp only [Act.put, List.setIfInBounds_toArray, List.set_cons_zero, List.set_cons_succ]
        refine wpAnyH_take (i := 29) (oi := { dst := some 58, op := Go.Op.fieldAddr 60 (Go.Operand.tmp 6) 1, type := 0, pos := "exact.go:95", after := #[{ on := 28, ground := Go.Ground.guard }], guard := some (28, false) }) (v := .pointer (some ⟨pb, 1, none⟩)) rfl (by kernel_rfl) (by kernel_rfl) (by kernel_rfl) (fun _ _ _ h => h) (Or.inl ⟨by rfl, fun w hSw => by go_simp⟩) (by assumption) ?_
        simp only [Act.put, List.setIfInBounds_toArray, List.set_cons_zero, List.set_cons_succ]
        refine wpAnyH_take (i := 30) (oi := { dst := some 59, op := Go.Op.load 54 (Go.Operand.tmp 58), type := 54, pos := "exact.go:95", after := #[{ on := 29, ground := Go.Ground.data }, { on := 28, ground := Go.Ground.guard }], guard := some (28, false) }) (v := .int .u64 seq) rfl (by kernel_rfl) (by kernel_rfl) (by kernel_rfl) (fun _ _ _ h => h) (Or.inl ⟨by rfl, fun w hSw => by go_simp⟩) (by assumption) ?_
        simp only [Act.put, List.setIfInBounds_toArray, List.set_cons_zero, List.set_cons_succ]
        refine wpAnyH_take (i := 31) (oi := { dst := some 60, op := Go.Op.fieldAddr 60 (Go.Operand.tmp 7) 1, type := 0, pos := "exact.go:95", after := #[{ on := 28, ground := Go.Ground.guard }], guard := some (28, false) }) (v := .pointer (some ⟨qb, 1, none⟩)) rfl (by kernel_rfl) (by kernel_rfl) (by kernel_rfl) (fun _ _ _ h => h) (Or.inl ⟨by rfl, fun w hSw => by go_simp⟩) (by assumption) ?_
        simp only [Act.put, List.setIfInBounds_toArray, List.set_cons_zero, List.set_cons_succ]
        refine wpAnyH_take (i := 32) (oi := { dst := some 61, op := Go.Op.load 54 (Go.Operand.tmp 60), type := 54, pos := "exact.go:95", after := #[{ on := 31, ground := Go.Ground.data }, { on := 28, ground := Go.Ground.guard }], guard := some (28, false) }) (v := .int .u64 seq) rfl (by kernel_rfl) (by kernel_rfl) (by kernel_rfl) (fun _ _ _ h => h) (Or.inl ⟨by rfl, fun w hSw => by go_simp⟩) (by assumption) ?_
        simp only [Act.put, List.setIfInBounds_toArray, List.set_cons_zero, List.set_cons_succ]
        refine wpAnyH_take (i := 33) (oi := { dst := some 62, op := Go.Op.binOp Go.BinOp.neq 54 (Go.Operand.tmp 59) (Go.Operand.tmp 61) 54, type := 4, pos := "exact.go:95", after := #[{ on := 30, ground := Go.Ground.data }, { on := 32, ground := Go.Ground.data }, { on := 28, ground := Go.Ground.guard }], guard := some (28, false) }) (v := .bool false) rfl (by kernel_rfl) (by kernel_rfl) (by kernel_rfl) (fun _ _ _ h => h) (Or.inl ⟨by rfl, fun w hSw => by go_simp⟩) (by assumption) ?_
        simp only [Act.put, List.setIfInBounds_toArray, List.set_cons_zero, List.set_cons_succ]
        refine wpAnyH_take (i := 34) (oi := { dst := some 63, op := Go.Op.pick (Go.Operand.tmp 57) (Go.Operand.const (Go.Value.bool true)) (Go.Operand.tmp 62), type := 4, pos := "exact.go:95", after := #[{ on := 28, ground := Go.Ground.data }, { on := 33, ground := Go.Ground.data }], guard := none }) (v := .bool false) rfl (by kernel_rfl) (by kernel_rfl) (by kernel_rfl) (fun _ _ _ h => h) (Or.inl ⟨by rfl, fun w hSw => by go_simp⟩) (by assumption) ?_
        simp only [Act.put, List.setIfInBounds_toArray, List.set_cons_zero, List.set_cons_succ]
        refine wpAnyH_take (i := 35) (oi := { dst := some 64, op := Go.Op.move (Go.Operand.tmp 63), type := 4, pos := "exact.go:95", after := #[{ on := 34, ground := Go.Ground.data }, { on := 28, ground := Go.Ground.chain }], guard := none }) (v := .bool false) rfl (by kernel_rfl) (by kernel_rfl) (by kernel_rfl) (fun _ _ _ h => h) (Or.inl ⟨by rfl, fun w hSw => by go_simp⟩) (by assumption) ?_
        simp only [Act.put, List.setIfInBounds_toArray, List.set_cons_zero, List.set_cons_succ]
        refine wpAnyH_take (i := 36) (oi := { dst := some 65, op := Go.Op.fieldAddr 60 (Go.Operand.tmp 6) 12, type := 0, pos := "exact.go:95", after := #[{ on := 35, ground := Go.Ground.guard }], guard := some (35, false) }) (v := .pointer (some ⟨pb, 12, none⟩)) rfl (by kernel_rfl) (by kernel_rfl) (by kernel_rfl) (fun _ _ _ h => h) (Or.inl ⟨by rfl, fun w hSw => by go_simp⟩) (by assumption) ?_
        simp only [Act.put, List.setIfInBounds_toArray, List.set_cons_zero, List.set_cons_succ]
        refine wpAnyH_take (i := 37) (oi := { dst := some 66, op := Go.Op.load 54 (Go.Operand.tmp 65), type := 54, pos := "exact.go:95", after := #[{ on := 36, ground := Go.Ground.data }, { on := 35, ground := Go.Ground.guard }], guard := some (35, false) }) (v := .int .u64 (mask.toNat : Int)) rfl (by kernel_rfl) (by kernel_rfl) (by kernel_rfl) (fun _ _ _ h => h) (Or.inl ⟨by rfl, fun w hSw => by go_simp⟩) (by assumption) ?_
        simp only [Act.put, List.setIfInBounds_toArray, List.set_cons_zero, List.set_cons_succ]
        refine wpAnyH_take (i := 38) (oi := { dst := some 67, op := Go.Op.fieldAddr 60 (Go.Operand.tmp 7) 12, type := 0, pos := "exact.go:95", after := #[{ on := 35, ground := Go.Ground.guard }], guard := some (35, false) }) (v := .pointer (some ⟨qb, 12, none⟩)) rfl (by kernel_rfl) (by kernel_rfl) (by kernel_rfl) (fun _ _ _ h => h) (Or.inl ⟨by rfl, fun w hSw => by go_simp⟩) (by assumption) ?_
        simp only [Act.put, List.setIfInBounds_toArray, List.set_cons_zero, List.set_cons_succ]
        refine wpAnyH_take (i := 39) (oi := { dst := some 68, op := Go.Op.load 54 (Go.Operand.tmp 67), type := 54, pos := "exact.go:95", after := #[{ on := 38, ground := Go.Ground.data }, { on := 35, ground := Go.Ground.guard }], guard := some (35, false) }) (v := .int .u64 (mask.toNat : Int)) rfl (by kernel_rfl) (by kernel_rfl) (by kernel_rfl) (fun _ _ _ h => h) (Or.inl ⟨by rfl, fun w hSw => by go_simp⟩) (by assumption) ?_
        simp only [Act.put, List.setIfInBounds_toArray, List.set_cons_zero, List.set_cons_succ]
        refine wpAnyH_take (i := 40) (oi := { dst := some 69, op := Go.Op.binOp Go.BinOp.neq 54 (Go.Operand.tmp 66) (Go.Operand.tmp 68) 54, type := 4, pos := "exact.go:95", after := #[{ on := 37, ground := Go.Ground.data }, { on := 39, ground := Go.Ground.data }, { on := 35, ground := Go.Ground.guard }], guard := some (35, false) }) (v := .bool false) rfl (by kernel_rfl) (by kernel_rfl) (by kernel_rfl) (fun _ _ _ h => h) (Or.inl ⟨by rfl, fun w hSw => by go_simp⟩) (by assumption) ?_
        simp only [Act.put, List.setIfInBounds_toArray, List.set_cons_zero, List.set_cons_succ]
        refine wpAnyH_take (i := 41) (oi := { dst := some 70, op := Go.Op.pick (Go.Operand.tmp 64) (Go.Operand.const (Go.Value.bool true)) (Go.Operand.tmp 69), type := 4, pos := "exact.go:95", after := #[{ on := 35, ground := Go.Ground.data }, { on := 40, ground := Go.Ground.data }], guard := none }) (v := .bool false) rfl (by kernel_rfl) (by kernel_rfl) (by kernel_rfl) (fun _ _ _ h => h) (Or.inl ⟨by rfl, fun w hSw => by go_simp⟩) (by assumption) ?_
        simp only [Act.put, List.setIfInBounds_toArray, List.set_cons_zero, List.set_cons_succ]
        refine wpAnyH_take (i := 42) (oi := { dst := some 71, op := Go.Op.move (Go.Operand.tmp 70), type := 4, pos := "exact.go:95", after := #[{ on := 41, ground := Go.Ground.data }, { on := 35, ground := Go.Ground.chain }], guard := none }) (v := .bool false) rfl (by kernel_rfl) (by kernel_rfl) (by kernel_rfl) (fun _ _ _ h => h) (Or.inl ⟨by rfl, fun w hSw => by go_simp⟩) (by assumption) ?_
        simp only [Act.put, List.setIfInBounds_toArray, List.set_cons_zero, List.set_cons_succ]
        refine wpAnyH_take (i := 43) (oi := { dst := some 72, op := Go.Op.fieldAddr 60 (Go.Operand.tmp 6) 16, type := 0, pos := "exact.go:95", after := #[{ on := 42, ground := Go.Ground.guard }], guard := some (42, false) }) (v := .pointer (some ⟨pb, 16, none⟩)) rfl (by kernel_rfl) (by kernel_rfl) (by kernel_rfl) (fun _ _ _ h => h) (Or.inl ⟨by rfl, fun w hSw => by go_simp⟩) (by assumption) ?_
        simp only [Act.put, List.setIfInBounds_toArray, List.set_cons_zero, List.set_cons_succ]
        refine wpAnyH_take (i := 44) (oi := { dst := some 73, op := Go.Op.load 48 (Go.Operand.tmp 72), type := 48, pos := "exact.go:95", after := #[{ on := 43, ground := Go.Ground.data }, { on := 42, ground := Go.Ground.guard }], guard := some (42, false) }) (v := .slice pa bs.length pc) rfl (by kernel_rfl) (by kernel_rfl) (by kernel_rfl) (fun _ _ _ h => h) (Or.inl ⟨by rfl, fun w hSw => by go_simp⟩) (by assumption) ?_
        simp only [Act.put, List.setIfInBounds_toArray, List.set_cons_zero, List.set_cons_succ]
        refine wpAnyH_take (i := 45) (oi := { dst := some 74, op := Go.Op.fieldAddr 60 (Go.Operand.tmp 7) 16, type := 0, pos := "exact.go:95", after := #[{ on := 42, ground := Go.Ground.guard }], guard := some (42, false) }) (v := .pointer (some ⟨qb, 16, none⟩)) rfl (by kernel_rfl) (by kernel_rfl) (by kernel_rfl) (fun _ _ _ h => h) (Or.inl ⟨by rfl, fun w hSw => by go_simp⟩) (by assumption) ?_
        simp only [Act.put, List.setIfInBounds_toArray, List.set_cons_zero, List.set_cons_succ]
        refine wpAnyH_take (i := 46) (oi := { dst := some 75, op := Go.Op.load 48 (Go.Operand.tmp 74), type := 48, pos := "exact.go:95", after := #[{ on := 45, ground := Go.Ground.data }, { on := 42, ground := Go.Ground.guard }], guard := some (42, false) }) (v := .slice qa bs.length qc) rfl (by kernel_rfl) (by kernel_rfl) (by kernel_rfl) (fun _ _ _ h => h) (Or.inl ⟨by rfl, fun w hSw => by go_simp⟩) (by assumption) ?_
        simp only [Act.put, List.setIfInBounds_toArray, List.set_cons_zero, List.set_cons_succ]
        refine wpAnyH_ready (rs := [47]) (by kernel_rfl) (by simp) ?_
        refine AllReadyH.cons (o := { dst := some 76, op := Go.Op.call { callee := Go.Callee.value (Go.Operand.func 25), args := #[Go.Operand.tmp 73, Go.Operand.tmp 75], argTypes := #[48, 48] }, type := 4, pos := "exact.go:95", after := #[{ on := 44, ground := Go.Ground.data }, { on := 46, ground := Go.Ground.data }, { on := 42, ground := Go.Ground.chain }, { on := 42, ground := Go.Ground.guard }], guard := some (42, false) }) rfl (fun K hK => ?_) AllReadyH.nil
        go_simp
        go_wp2_with (go_at_call 25; refine (HSM.out w8 hs8').mono ?_; rintro r w9 ⟨rfl, hd9⟩; have hs9' : St No wc No w9 := hs8'.trans (hd9.st No))
        refine hK.out _ _ (mailsS (hs9'.cellN r0c) (hs9'.cellN q0c) (HO1.out.stM hs9') (HO2.out.stM hs9')) (fun hHeld => ?_)
        clear hK K
        try simp only [Act.put, List.setIfInBounds_toArray, List.set_cons_zero, List.set_cons_succ]
        refine wpAnyH_take (i := 48) (oi := { dst := some 77, op := Go.Op.unOp Go.UnOp.not 4 (Go.Operand.tmp 76), type := 4, pos := "exact.go:95", after := #[{ on := 47, ground := Go.Ground.data }, { on := 42, ground := Go.Ground.guard }], guard := some (42, false) }) (v := .bool false) rfl (by kernel_rfl) (by kernel_rfl) (by kernel_rfl) (fun _ _ _ h => h) (Or.inl ⟨by rfl, fun w hSw => by go_simp⟩) (by assumption) ?_
        simp only [Act.put, List.setIfInBounds_toArray, List.set_cons_zero, List.set_cons_succ]
        refine wpAnyH_take (i := 49) (oi := { dst := some 78, op := Go.Op.pick (Go.Operand.tmp 71) (Go.Operand.const (Go.Value.bool true)) (Go.Operand.tmp 77), type := 4, pos := "exact.go:95", after := #[{ on := 42, ground := Go.Ground.data }, { on := 48, ground := Go.Ground.data }], guard := none }) (v := .bool false) rfl (by kernel_rfl) (by kernel_rfl) (by kernel_rfl) (fun _ _ _ h => h) (Or.inl ⟨by rfl, fun w hSw => by go_simp⟩) (by assumption) ?_
        simp only [Act.put, List.setIfInBounds_toArray, List.set_cons_zero, List.set_cons_succ]
        refine wpAnyH_done (by kernel_rfl) ?_ _
        --R7END
        have HSF := Lib.hid (HD.out.trans (HSC.out.trans hs9'))
        clear hs7 hs7' hs8 hs8' hd9 hs9' hHeld
        go_wp2
        go_roundw
        case rel => exact ⟨k + 1, by omega, by go_num, HSF⟩
        case measure => simp [intOf]; omega
    · obtain rfl : k = os.length := by omega
      go_wp2
      go_ret
      exact ⟨rfl, HD.out⟩
end Go.Proofs.Ytjepmckofocdnaa
namespace Go.Proofs.Ytjepmckofocdnaa
open Go.RowKit
set_option linter.unusedVariables false
set_option linter.unusedSimpArgs false

theorem two_boxes (w : World) (A B : Array Value) (T : TypeId) : Ob ((w.alloc (.cells A T)).alloc (.cells B T)) w.heap.size T A ∧ Ob ((w.alloc (.cells A T)).alloc (.cells B T)) (w.heap.size + 1) T B ∧ St No w No ((w.alloc (.cells A T)).alloc (.cells B T)) := by
  have h1 := Ob.alloc w A T
  have h2 := Ob.alloc (w.alloc (.cells A T)) B T
  rw [World.size_alloc] at h2
  exact ⟨h1.move ((St.alloc' No _ _).block _ h1.lt (fun e => e)), h2, (St.alloc' No w _).trans (St.alloc' No _ _)⟩
def UpsIn (w : World) (a : Option Addr) (us : List UB) : Prop := ∀ (i : Nat) (o : UB), us[i]? = some o → ∃ x pa pc, a = some x ∧ RowIn w (x.add (i * 3)) o.cells ∧ o.v = .slice pa o.b.length pc ∧ Bs w pa o.b ∧ o.b.length ≤ maxLen
theorem UpsIn.st {w w' : World} {a : Option Addr} {os : List UB} {G : Nat → Prop} (h : UpsIn w a os) (s : St No w G w') : UpsIn w' a os := fun i o hi => by
  obtain ⟨x, pa, pc, h1, h2, h3, h4, h5⟩ := h i o hi
  exact ⟨x, pa, pc, h1, h2.st s, h3, h4.st s (Dj.no _), h5⟩
theorem UB.cells_len' (u : UB) : u.cells.length = 3 := rfl
theorem LsG.upsIn {w : World} {a : Option Addr} {n c : Nat} {os : List UB} (h : LsU w (.slice a n c) os) : n = os.length ∧ UpsIn w a os := by
  have hn : n = os.length := by
    obtain ⟨a', c', e, _⟩ := h.own.form
    cases e; rfl
  subst hn
  refine ⟨rfl, fun i o hi => ?_⟩
  have hil := (List.getElem?_eq_some_iff.1 hi).1
  obtain ⟨y, hy⟩ := rowL_some UB.cells_len' (by decide) h.own i hil
  subst hy
  have hel := h.el o (List.mem_of_getElem? hi)
  obtain ⟨pa, pc, hv, h1, h2, _, _⟩ := hel.form
  refine ⟨y, pa, pc, rfl, fun j v hv => ?_, hv, ?_, by omega⟩
  · have hj : j < 3 := by have := (List.getElem?_eq_some_iff.1 hv).1; rwa [UB.cells_len'] at this
    exact rowL_elem UB.cells_len' h.own i o hi j v hj hv
  · rw [hv] at hel
    exact hel.bs
set_option maxRecDepth 100000 in
set_option maxHeartbeats 2000000 in
theorem ups8_calls (a : Option Addr) (c : Nat) (os : List UB) (b : Option Addr) (d : Nat) (ps : List UB) (hl : os.length ≤ 9223372036854775807) (w : World) (ha : UpsIn w a os) (hb : UpsIn w b ps) (hp : os.map UB.pl = ps.map UB.pl) :
    Calls Try.prog 95 #[.slice a os.length c, .slice b ps.length d] w fun e w' => e = .returned (.bool true) ∧ St No w No w' := by
  have HA := Lib.hid ha
  have HB := Lib.hid hb
  have HP := Lib.hid hp
  have hln : os.length = ps.length := by have := congrArg List.length hp; simpa using this
  have hl1 : ((os.length : Int) != (ps.length : Int)) = false := by rw [bne_eq_false_iff_eq]; omega
  have HL := Lib.hid hln
  clear ha hb hp hln
  go_enter Try.func95, Try.ntmps95
  go_wp2
  clear hl1
  go_loopw [5] (fun i wr => ∃ k : Nat, k ≤ os.length ∧ i = .int .i64 k ∧ Hid (St No w No wr)) (fun i _ => os.length - (intOf i).toNat)
  case atStart => exact ⟨0, Nat.zero_le _, rfl, Lib.hid (St.refl _ _)⟩
  case round =>
    obtain ⟨k, hk, rfl, HD⟩ := hrel
    by_cases hlt : k < os.length
    · have hlt2 : k < ps.length := by have := HL.out; omega
      obtain ⟨o, ho⟩ : ∃ o, os[k]? = some o := ⟨_, List.getElem?_eq_getElem hlt⟩
      obtain ⟨p, hpp⟩ : ∃ p, ps[k]? = some p := ⟨_, List.getElem?_eq_getElem hlt2⟩
      have hpl : o.pl = p.pl := by
        have h := congrArg (fun l => l[k]?) HP.out
        simp only [List.getElem?_map, ho, hpp] at h
        exact Option.some.inj h
      obtain ⟨x, pa, pc, rfl, hr1, hv1, hb1, hn1⟩ := (HA.out.st HD.out) k o ho
      obtain ⟨y, qa, qc, rfl, hr2, hv2, hb2, hn2⟩ := (HB.out.st HD.out) k p hpp
      obtain ⟨adr, seq, V1, bs⟩ := o
      obtain ⟨adr', seq', V2, bs'⟩ := p
      simp only [UB.pl, XU.mk.injEq] at hpl
      obtain ⟨rfl, rfl, rfl⟩ := hpl
      simp only at hv1 hb1 hn1 hv2 hb2 hn2
      subst hv1
      subst hv2
      have r0 : wr.cell? (x.add (k * 3)) = some (.int .u8 adr) := hr1 0 _ rfl
      have q0 : wr.cell? (y.add (k * 3)) = some (.int .u8 adr) := hr2 0 _ rfl
      have r1 : wr.cell? ⟨(x.add (k * 3)).block, (x.add (k * 3)).off + 1, none⟩ = some (.int .u64 seq) := hr1 1 _ rfl
      have q1 : wr.cell? ⟨(y.add (k * 3)).block, (y.add (k * 3)).off + 1, none⟩ = some (.int .u64 seq) := hr2 1 _ rfl
      have r2 : wr.cell? ⟨(x.add (k * 3)).block, (x.add (k * 3)).off + 2, none⟩ = some (.slice pa bs.length pc) := hr1 2 _ rfl
      have q2 : wr.cell? ⟨(y.add (k * 3)).block, (y.add (k * 3)).off + 2, none⟩ = some (.slice qa bs.length qc) := hr2 2 _ rfl
      have hsm : ∀ n, Calls Try.prog 25 #[.slice pa bs.length pc, .slice qa bs.length qc] (wr.drewN n) fun e w'' => e = .returned (.bool true) ∧ ∃ m, w'' = wr.drewN m := fun n => by
        have h := same8_calls pa pc bs qa qc bs hn1 hn2 _ (hb1.st (St.drewN No wr n) (Dj.no _)) (hb2.st (St.drewN No wr n) (Dj.no _))
        rw [decide_eq_true rfl] at h
        exact h.mono (fun e w'' h => ⟨h.1, by obtain ⟨j, hj⟩ := h.2; exact ⟨n + j, by rw [hj]; unfold World.drewN; simp [Nat.add_assoc]⟩⟩)
      have HSM := Lib.hid hsm
      have m1 : (k : Int) < (os.length : Int) := by omega
      have m2 : (k : Int) < (ps.length : Int) := by omega
      clear ho hpp hr1 hr2 hb1 hb2 hsm
      go_wp2_with fail
      go_quiet ((go_at_call 25; exact HSM.out _))
      have HSF := Lib.hid (HD.out.trans (St.drewN No wr nq))
      go_wp2
      go_roundw
      case rel => exact ⟨k + 1, by omega, by go_num, HSF⟩
      case measure => simp [intOf]; omega
    · obtain rfl : k = os.length := by omega
      go_wp2
      go_ret
      exact ⟨rfl, HD.out⟩
set_option maxRecDepth 100000 in
set_option maxHeartbeats 2000000 in
theorem taken8_calls (ua : Option Addr) (uc : Nat) (us : List UB) (ma : Option Addr) (mc : Nat) (ms : List OB) (ub : Option Addr) (ud : Nat) (us' : List UB) (mb : Option Addr) (md : Nat) (ms' : List OB) (ch : Bool) (hl : us.length ≤ 9223372036854775807) (hl2 : ms.length ≤ 9223372036854775807) (w : World)
    (h1 : UpsIn w ua us) (h2 : UpsIn w ub us') (hp : us.map UB.pl = us'.map UB.pl) (h3 : OutsIn w ma ms) (h4 : OutsIn w mb ms') (hq : ms.map OB.pl = ms'.map OB.pl) :
    Calls Try.prog 71 #[.agg #[.slice ua us.length uc, .slice ma ms.length mc, .bool ch], .agg #[.slice ub us'.length ud, .slice mb ms'.length md, .bool ch]] w fun e w' => e = .returned (.bool true) ∧ St No w No w' := by
  have HU := Lib.hid (fun W (s : St No w No W) => ups8_calls ua uc us ub ud us' hl W (h1.st s) (h2.st s) hp)
  have HM := Lib.hid (fun W (s : St No w No W) => mails8_calls ma mc ms mb md ms' hl2 W (h3.st s) (h4.st s) hq)
  have h0 := two_boxes w #[.slice ua us.length uc, .slice ma ms.length mc, .bool ch] #[.slice ub us'.length ud, .slice mb ms'.length md, .bool ch] 77
  have HS := Lib.hid h0.2.2
  have HO1 := Lib.hid h0.1
  have HO2 := Lib.hid h0.2.1
  clear h0
  go_enter Try.func71, Try.ntmps71
  go_upto_region 1 with fail
  generalize (w.alloc (.cells #[.slice ua us.length uc, .slice ma ms.length mc, .bool ch] 77)).alloc (.cells #[.slice ub us'.length ud, .slice mb ms'.length md, .bool ch] 77) = wA at *
  have a0 : wA.cell? ⟨w.heap.size, 0, none⟩ = some (.slice ua us.length uc) := by rw [HO1.out.cell 0]; rfl
  have b0 : wA.cell? ⟨w.heap.size + 1, 0, none⟩ = some (.slice ub us'.length ud) := by rw [HO2.out.cell 0]; rfl
  go_wp2_with (first
    | (go_at_call 95; refine (HU.out _ HS.out).mono ?_; rintro r w2 ⟨rfl, hs2⟩; have a1 : w2.cell? ⟨w.heap.size, 1, none⟩ = some (.slice ma ms.length mc) := (by rw [(HO1.out.stM hs2).cell 1]; rfl); have b1 : w2.cell? ⟨w.heap.size + 1, 1, none⟩ = some (.slice mb ms'.length md) := (by rw [(HO2.out.stM hs2).cell 1]; rfl); have HS2 := Lib.hid hs2; clear hs2)
    | (go_at_call 70; refine (HM.out _ (HS.out.trans HS2.out)).mono ?_; rintro r w3 ⟨rfl, hs3⟩; have a2 : w3.cell? ⟨w.heap.size, 2, none⟩ = some (.bool ch) := (by rw [((HO1.out.stM HS2.out).stM hs3).cell 2]; rfl); have b2 : w3.cell? ⟨w.heap.size + 1, 2, none⟩ = some (.bool ch) := (by rw [((HO2.out.stM HS2.out).stM hs3).cell 2]; rfl); have HS3 := Lib.hid hs3; clear hs3))
  go_ret
  exact ⟨by simp, HS.out.trans (HS2.out.trans HS3.out)⟩
end Go.Proofs.Ytjepmckofocdnaa
namespace Go.Proofs.Ytjepmckofocdnaa
open Go.RowKit
set_option linter.unusedVariables false
set_option linter.unusedSimpArgs false

theorem St.quiet2 {w w1 w2 : World} {E F : Nat → Prop} (h : St E w F w1) (s : St No w1 No w2) : St E w F w2 := h.trans (s.wide (F' := F) (G' := F) (fun _ e => e.elim) (fun _ e => .inl e))
def Or2 (F G : Nat → Prop) : Nat → Prop := fun j => F j ∨ G j
/-- one of two has turned -/
theorem St.left {w w1 : World} {F F1 M G : Nat → Prop} (s : St F w (fun j => F1 j ∨ M j) w1) (hG : In G w) (hd : Dj F G) : St (Or2 F G) w (Or2 F1 G) w1 ∧ Dj F1 G ∧ Dj G M :=
  ⟨⟨s.os, s.tape, s.output, s.size, fun k hk hn => s.block k hk (fun e => hn (.inl e)), fun k hk => hk.elim (fun h => (s.new k (.inl h)).elim (fun h => .inl (.inl h)) .inr) (fun h => .inl (.inr h))⟩,
    fun k a b => (s.new k (.inl a)).elim (fun h => hd k h b) (fun h => by have := hG k b; omega), fun k a b => (s.new k (.inr b)).elim (fun h => hd k h a) (fun h => by have := hG k a; omega)⟩
theorem St.right {w w1 : World} {F G G1 M : Nat → Prop} (s : St G w (fun j => G1 j ∨ M j) w1) (hF : In F w) (hd : Dj F G) : St (Or2 F G) w (Or2 F G1) w1 ∧ Dj F G1 ∧ Dj F M :=
  ⟨⟨s.os, s.tape, s.output, s.size, fun k hk hn => s.block k hk (fun e => hn (.inr e)), fun k hk => hk.elim (fun h => .inl (.inl h)) (fun h => (s.new k (.inl h)).elim (fun h => .inl (.inr h)) .inr)⟩,
    fun k a b => (s.new k (.inl b)).elim (fun h => hd k a h) (fun h => by have := hF k a; omega), fun k a b => (s.new k (.inr b)).elim (fun h => hd k a h) (fun h => by have := hF k a; omega)⟩
theorem dj_symm {F G : Nat → Prop} (h : Dj F G) : Dj G F := fun k a b => h k b a
set_option maxRecDepth 100000 in
set_option maxHeartbeats 4000000 in
theorem alike_calls (w : World) (F G : Nat → Prop) (e f : Nat) (k : EC) (X : Nat → XP) (he : En w F e k X) (hf : En w G f k X) (hFG : Dj F G) (hk : k.Ok) (hx : EX k X) (am : Nat) (ham : am ≤ 255) (r0 : StpR) (hok : r0.Ok w) (hpd : r0.m_payload ≠ [] → Dj (Or2 F G) (fpA r0.m_payloadA)) :
    Calls Try.prog 39 #[.pointer (some ⟨e, 0, none⟩), .pointer (some ⟨f, 0, none⟩), .int .u8 am, .agg r0.cells.toArray] w fun r w' => r = .returned (.bool true) ∧ ∃ F' G' X', En w' F' e k X' ∧ En w' G' f k X' ∧ Dj F' G' ∧ EX k X' ∧ St (Or2 F G) w (Or2 F' G') w' := by
  have hsz : r0.cells.toArray.size = 19 := rfl
  have h2 := hk.hosts
  have hwin : k.win ≤ 16 := by have h3 := hk.win; have h4 := hk.room; omega
  have HE0 := Lib.hid he
  have HF0 := Lib.hid hf
  have HX := Lib.hid hx
  have HOK := Lib.hid hok
  have HPD := Lib.hid hpd
  have HD0 := Lib.hid hFG
  have HB1 := Lib.hid (Ob.alloc w r0.cells.toArray 100)
  have HS1 := Lib.hid (St.alloc' No w (.cells r0.cells.toArray 100))
  have HIF : Hid (In F w) := Lib.hid he.in
  have HIG : Hid (In G w) := Lib.hid hf.in
  clear he hf hFG hk hx hok hpd
  go_enter Try.func39, Try.ntmps39
  go_upto_region 1 with fail
  generalize w.alloc (.cells r0.cells.toArray 100) = w1 at *
  have c18 : w1.cell? ⟨w.heap.size, 18, none⟩ = some (.slice r0.m_payloadA r0.m_payload.length r0.m_payloadC) := by rw [HB1.out.cell 18]; rfl
  have HE1 := Lib.hid (HE0.out.st HS1.out (Dj.no _))
  have HF1 := Lib.hid (HF0.out.st HS1.out (Dj.no _))
  have hnE : ∀ {hz : sizedB r0.m_payload.length = true}, r0.m_payload ≠ [] := fun {hz} e => by
    have hz2 : 1 ≤ r0.m_payload.length ∧ r0.m_payload.length ≤ 3072 := of_decide_eq_true (show decide _ = true from hz)
    rw [e] at hz2
    exact absurd hz2.1 (by decide)
  have HNE := Lib.hid (fun hz => @hnE hz)
  have HSD := Lib.hid (send_callsD w1 F e k X HE1.out h2 HX.out am ham r0.m_payloadA r0.m_payloadC r0.m_payload (HOK.out.m_payload.1.st HS1.out (Dj.no _)) (fun hz j x y => HPD.out (HNE.out hz) j (.inl x) y) HOK.out.m_payload.2.2)
  clear hnE
  go_wp2_with fail
  refine HSD.out.mono ?_
  rintro r w2 ⟨V2, os2, F2, rfl, ho2, hp2, he2, hs2, _⟩
  obtain ⟨oa, oc, rfl, _, _, _, _⟩ := ho2.own.form
  have hl2 := hs2.left HF1.out.in HD0.out
  have HO2 := Lib.hid ho2
  have HP2 := Lib.hid hp2
  have HE2 := Lib.hid he2
  have HF2 := Lib.hid (HF1.out.st hs2 HD0.out)
  have HL2 := Lib.hid hl2
  have HB2 := Lib.hid (HB1.out.stF hs2 (fun e => by have := HIF.out _ e; omega))
  have c18b : w2.cell? ⟨w.heap.size, 18, none⟩ = some (.slice r0.m_payloadA r0.m_payload.length r0.m_payloadC) := by rw [HB2.out.cell 18]; rfl
  have HBS2 : Hid (Bs w2 r0.m_payloadA r0.m_payload) := Lib.hid ((HOK.out.m_payload.1.st HS1.out (Dj.no _)).stE hs2 (fun hne j x y => HPD.out hne j (.inl x) y))
  have HZ2 : Hid (w1.heap.size ≤ w2.heap.size ∧ w.heap.size ≤ w1.heap.size) := Lib.hid ⟨hs2.size, HS1.out.size⟩
  have HN2 : Hid (∀ j, F2 j → F j ∨ w1.heap.size ≤ j) := Lib.hid (fun j hj => hs2.new j (.inl hj))
  clear ho2 hp2 he2 hs2 hl2 c18
  have HSE := Lib.hid (send_callsD w2 G f k X HF2.out h2 HX.out am ham r0.m_payloadA r0.m_payloadC r0.m_payload HBS2.out (fun hz j x y => HPD.out (HNE.out hz) j (.inr x) y) HOK.out.m_payload.2.2)
  go_wp2_with fail
  refine HSE.out.mono ?_
  rintro r w3 ⟨V3, os3, G3, rfl, ho3, hp3, he3, hs3, _⟩
  obtain ⟨pa, pc, rfl, _, _, _, _⟩ := ho3.own.form
  have hl3 := hs3.right HE2.out.in HL2.out.2.1
  have HL3 := Lib.hid hl3
  have HO23 := Lib.hid (HO2.out.st hs3 HL2.out.2.2)
  have HO3 := Lib.hid ho3
  have HP3 := Lib.hid hp3
  have HF3 := Lib.hid he3
  have HE3 := Lib.hid (HE2.out.st hs3 (dj_symm HL2.out.2.1))
  have HB3 := Lib.hid (HB2.out.stF hs3 (fun e => by have := HIG.out _ e; omega))
  have HBS3 : Hid (Bs w3 r0.m_payloadA r0.m_payload) := Lib.hid (HBS2.out.stE hs3 (fun hne j x y => HPD.out hne j (.inr x) y))
  have HZ3 : Hid (w2.heap.size ≤ w3.heap.size) := Lib.hid hs3.size
  have HN3 : Hid (∀ j, G3 j → G j ∨ w2.heap.size ≤ j) := Lib.hid (fun j hj => hs3.new j (.inl hj))
  have HML : Hid (Calls Try.prog 70 #[.slice oa os2.length oc, .slice pa os3.length pc] w3 fun e w' => e = .returned (.bool true) ∧ St No w3 No w') := Lib.hid (mails8_calls oa oc os2 pa pc os3 (by
      have h := congrArg List.length HP2.out
      rw [List.length_map] at h
      have h5 : (sendM k X am r0.m_payload).length ≤ 1 := by
        unfold sendM pushM
        split
        · split <;> simp
        · simp
      omega) w3 HO23.out.outs.2 HO3.out.outs.2 (HP2.out.trans HP3.out.symm))
  clear ho3 hp3 he3 hs3 hl3 c18b
  generalize sendE k X am r0.m_payload = er at *
  have e1 : (er != er) = false := by rw [bne_eq_false_iff_eq]
  go_wp2_with fail
  refine HML.out.mono ?_
  rintro r w4 ⟨rfl, hs4⟩
  have HE4 := Lib.hid (HE3.out.st hs4 (Dj.no _))
  have HF4 := Lib.hid (HF3.out.st hs4 (Dj.no _))
  have HB4 := Lib.hid (HB3.out.stM hs4)
  have HBS4 := Lib.hid (HBS3.out.st hs4 (Dj.no _))
  have HS4 := Lib.hid hs4
  have HX4 : Hid (EX k (sendX k X am r0.m_payload)) := Lib.hid (sendX_ex HX.out)
  have HMR : Hid (w4.rangeAt w.heap.size 2 r0.mv.cells.toList) := Lib.hid (fun j v hv => by
    rw [HB4.out.cell (2 + j)]
    have e := StpR.cells_mv HOK.out
    rw [show r0.cells.toArray[2 + j]? = r0.cells[2 + j]? by simp, e, show 2 + j = j + 1 + 1 by omega, List.getElem?_cons_succ, List.getElem?_cons_succ]
    exact hv)
  generalize sendX k X am r0.m_payload = X4 at *
  have HTK := Lib.hid (take_calls w4 F2 e k X4 HE4.out h2 HX4.out am ham r0.mv (StpR.mv_wf HOK.out) r0.m_payload rfl HBS4.out HOK.out.m_payload.2.2)
  clear hs4 HML HSD HSE
  go_wp2_with (refine wpList_load_mid rfl 60 (.tmp 47) rfl w.heap.size 2 rfl r0.mv.cells.toList _ HMR.out Try.underlying60 rfl msgInfo ?_)
  refine HTK.out.mono ?_
  rintro r w5 ⟨Vu5, us5, Vm5, os5, F5, rfl, hu5, hpu5, ho5, hpo5, he5, hs5, _, _, _⟩
  obtain ⟨ua5, uc5, rfl, _, _, _, _⟩ := hu5.own.form
  obtain ⟨ma5, mc5, rfl, _, _, _, _⟩ := ho5.own.form
  have hl5 := hs5.left HF4.out.in HL3.out.2.1
  have HL5 := Lib.hid hl5
  have HU5 := Lib.hid hu5
  have HPU5 := Lib.hid hpu5
  have HO5 := Lib.hid ho5
  have HPO5 := Lib.hid hpo5
  have HE5 := Lib.hid he5
  have HF5 := Lib.hid (HF4.out.st hs5 HL3.out.2.1)
  have HB5 := Lib.hid (HB4.out.stF hs5 (fun e => by
    have h7 := HN2.out _ e
    have h8 := HIF.out w.heap.size
    have h9 := HB1.out.lt
    rcases h7 with h7 | h7
    · have := h8 h7; omega
    · omega))
  have HBS5 : Hid (Bs w5 r0.m_payloadA r0.m_payload) := Lib.hid (HBS4.out.stE hs5 (fun hne j x y => by
    rcases HN2.out j x with h7 | h7
    · exact HPD.out hne j (.inl h7) y
    · obtain ⟨z, hz, hzb⟩ := y
      obtain ⟨y0, hy0, hc0⟩ := HOK.out.m_payload.1.at 0 (by cases hb : r0.m_payload with | nil => exact absurd hb hne | cons b l => simp)
      rw [hz] at hy0
      cases hy0
      have h9 := World.block_lt_of_cell? w _ hc0
      rw [addr_block] at h9
      have := HZ2.out
      omega))
  have HZ5 : Hid (w4.heap.size ≤ w5.heap.size) := Lib.hid hs5.size
  clear hu5 hpu5 ho5 hpo5 he5 hs5 hl5 HTK HMR
  go_upto_region 6 with fail
  have HB13 := Lib.hid (Ob.alloc w5 #[.slice ua5 us5.length uc5, .slice ma5 os5.length mc5, .bool (tkT k X4 am r0.mv r0.m_payload).ch] 77)
  have HS6 := Lib.hid (St.alloc' No w5 (.cells #[.slice ua5 us5.length uc5, .slice ma5 os5.length mc5, .bool (tkT k X4 am r0.mv r0.m_payload).ch] 77))
  generalize w5.alloc (.cells #[.slice ua5 us5.length uc5, .slice ma5 os5.length mc5, .bool (tkT k X4 am r0.mv r0.m_payload).ch] 77) = w6 at *
  have HE6 := Lib.hid (HE5.out.st HS6.out (Dj.no _))
  have HF6 := Lib.hid (HF5.out.st HS6.out (Dj.no _))
  have HB6 := Lib.hid (HB5.out.stM HS6.out)
  have HBS6 := Lib.hid (HBS5.out.st HS6.out (Dj.no _))
  have HMR : Hid (w6.rangeAt w.heap.size 2 r0.mv.cells.toList) := Lib.hid (fun j v hv => by
    rw [HB6.out.cell (2 + j)]
    have e := StpR.cells_mv HOK.out
    rw [show r0.cells.toArray[2 + j]? = r0.cells[2 + j]? by simp, e, show 2 + j = j + 1 + 1 by omega, List.getElem?_cons_succ, List.getElem?_cons_succ]
    exact hv)
  have HTK := Lib.hid (take_calls w6 G3 f k X4 HF6.out h2 HX4.out am ham r0.mv (StpR.mv_wf HOK.out) r0.m_payload rfl HBS6.out HOK.out.m_payload.2.2)
  go_wp2_with (refine wpList_load_mid rfl 60 (.tmp 55) rfl w.heap.size 2 rfl r0.mv.cells.toList _ HMR.out Try.underlying60 rfl msgInfo ?_)
  refine HTK.out.mono ?_
  rintro r w7 ⟨Vu7, us7, Vm7, os7, G7, rfl, hu7, hpu7, ho7, hpo7, he7, hs7, _, _, _⟩
  obtain ⟨ua7, uc7, rfl, _, _, _, _⟩ := hu7.own.form
  obtain ⟨ma7, mc7, rfl, _, _, _, _⟩ := ho7.own.form
  have hl7 := hs7.right HE6.out.in HL5.out.2.1
  have HL7 := Lib.hid hl7
  have HG3 : Hid (∀ j, G3 j → j < w4.heap.size) := Lib.hid (fun j hj => HF4.out.in j hj)
  have HU57 := Lib.hid ((HU5.out.st HS6.out (Dj.no _)).st hs7 (fun j x y => HL5.out.2.2 j x (.inl y)))
  have HO57 := Lib.hid ((HO5.out.st HS6.out (Dj.no _)).st hs7 (fun j x y => HL5.out.2.2 j x (.inr y)))
  have HU7 := Lib.hid hu7
  have HPU7 := Lib.hid hpu7
  have HO7 := Lib.hid ho7
  have HPO7 := Lib.hid hpo7
  have HF7 := Lib.hid he7
  have HE7 := Lib.hid (HE6.out.st hs7 (dj_symm HL5.out.2.1))
  have HB137 := Lib.hid (HB13.out.stF hs7 (fun e => by have := HG3.out _ e; have := HZ5.out; omega))
  have HX7 : Hid (EX k (tkX k X4 am r0.mv r0.m_payload)) := Lib.hid (tkX_ex HX4.out (StpR.mv_wf HOK.out).seq)
  clear hu7 hpu7 ho7 hpo7 he7 hs7 hl7 HTK HMR
  have HLU : Hid (us5.length ≤ 9223372036854775807 ∧ os5.length ≤ 9223372036854775807) := Lib.hid (by
    obtain ⟨a1, c1, e1, h1, h3, _⟩ := HU5.out.own.form
    obtain ⟨a2, c2, e2, h4, h5, _⟩ := HO5.out.own.form
    unfold maxLen at h3 h5
    exact ⟨by omega, by omega⟩)
  generalize tkX k X4 am r0.mv r0.m_payload = X7 at *
  generalize tkT k X4 am r0.mv r0.m_payload = t7 at *
  generalize tkE k X4 am r0.mv r0.m_payload = er2 at *
  go_upto_region 7 with fail
  have HB15 := Lib.hid (Ob.alloc w7 #[.slice ua7 us7.length uc7, .slice ma7 os7.length mc7, .bool t7.ch] 77)
  have HS8 := Lib.hid (St.alloc' No w7 (.cells #[.slice ua7 us7.length uc7, .slice ma7 os7.length mc7, .bool t7.ch] 77))
  generalize w7.alloc (.cells #[.slice ua7 us7.length uc7, .slice ma7 os7.length mc7, .bool t7.ch] 77) = w8 at *
  have HB138 := Lib.hid (HB137.out.stM HS8.out)
  have a0 : w8.cell? ⟨w5.heap.size, 0, none⟩ = some (.slice ua5 us5.length uc5) := by rw [HB138.out.cell 0]; rfl
  have a1 : w8.cell? ⟨w5.heap.size, 1, none⟩ = some (.slice ma5 os5.length mc5) := by rw [HB138.out.cell 1]; rfl
  have a2 : w8.cell? ⟨w5.heap.size, 2, none⟩ = some (.bool t7.ch) := by rw [HB138.out.cell 2]; rfl
  have b0 : w8.cell? ⟨w7.heap.size, 0, none⟩ = some (.slice ua7 us7.length uc7) := by rw [HB15.out.cell 0]; rfl
  have b1 : w8.cell? ⟨w7.heap.size, 1, none⟩ = some (.slice ma7 os7.length mc7) := by rw [HB15.out.cell 1]; rfl
  have b2 : w8.cell? ⟨w7.heap.size, 2, none⟩ = some (.bool t7.ch) := by rw [HB15.out.cell 2]; rfl
  have HTA := Lib.hid (taken8_calls ua5 uc5 us5 ma5 mc5 os5 ua7 uc7 us7 ma7 mc7 os7 t7.ch HLU.out.1 HLU.out.2 w8 (HU57.out.upsIn.2.st HS8.out) (HU7.out.upsIn.2.st HS8.out) (HPU5.out.trans HPU7.out.symm) (HO57.out.outs.2.st HS8.out) (HO7.out.outs.2.st HS8.out) (HPO5.out.trans HPO7.out.symm))
  have e2 : (er2 == er2) = true := by rw [beq_iff_eq]
  have HE8 := Lib.hid (HE7.out.st HS8.out (Dj.no _))
  have HF8 := Lib.hid (HF7.out.st HS8.out (Dj.no _))
  go_wp2_with fail
  refine HTA.out.mono ?_
  rintro r w9 ⟨rfl, hs9⟩
  have HE9 := Lib.hid (HE8.out.st hs9 (Dj.no _))
  have HF9 := Lib.hid (HF8.out.st hs9 (Dj.no _))
  have HS9 := Lib.hid hs9
  clear hs9 HTA a0 a1 a2 b0 b1 b2
  have HTI := Lib.hid (tick_calls w9 F5 e k X7 HE9.out h2 hwin HX7.out)
  go_wp2_with fail
  refine HTI.out.mono ?_
  rintro r w10 ⟨V10, os10, rfl, ho10, hp10, hs10⟩
  obtain ⟨ta, tc, rfl, hln10, hml10, _, _⟩ := ho10.own.form
  have hs10' : St No w9 No w10 := hs10.drop (fun _ e => e.elim)
  have HF10 := Lib.hid (HF9.out.st hs10' (Dj.no _))
  have HO10 := Lib.hid ho10
  have HP10 := Lib.hid hp10
  have HS10 := Lib.hid hs10'
  have HML10 : Hid (os10.length ≤ 9223372036854775807) := Lib.hid (by unfold maxLen at hml10; omega)
  have HTJ := Lib.hid (tick_calls w10 G7 f k X7 HF10.out h2 hwin HX7.out)
  clear ho10 hp10 hs10 hs10' hln10 hml10 HTI
  go_wp2_with fail
  refine HTJ.out.mono ?_
  rintro r w11 ⟨V11, os11, rfl, ho11, hp11, hs11⟩
  obtain ⟨tb, td, rfl, _, _, _, _⟩ := ho11.own.form
  have hs11' : St No w10 No w11 := hs11.drop (fun _ e => e.elim)
  have HMA := Lib.hid (mails8_calls ta tc os10 tb td os11 HML10.out w11 (HO10.out.outs.2.st hs11') ho11.outs.2 (HP10.out.trans hp11.symm))
  have HS11 := Lib.hid (HS10.out.trans hs11')
  clear ho11 hp11 hs11 hs11' HTJ
  go_wp2_with fail
  refine HMA.out.mono ?_
  rintro r w12 ⟨rfl, hs12⟩
  have HS12 := Lib.hid (HS9.out.trans (HS11.out.trans hs12))
  have HE12 := Lib.hid (HE8.out.st HS12.out (Dj.no _))
  have HF12 := Lib.hid (HF8.out.st HS12.out (Dj.no _))
  have HSA := Lib.hid (state_callsK w12 F5 e k X7 HE12.out h2 HX7.out)
  clear hs12 HMA
  go_wp2_with fail
  refine HSA.out.mono ?_
  rintro r w13 ⟨va, vc, rows, rfl, hm13, hl13, hp13, hs13⟩
  have hs13' : St No w12 No w13 := hs13.drop (fun _ e => e.elim)
  have HM13 := Lib.hid hm13
  have HL13 := Lib.hid hl13
  have HP13 := Lib.hid hp13
  have HS13 := Lib.hid hs13'
  have HSB := Lib.hid (state_callsK w13 G7 f k X7 (HF12.out.st hs13' (Dj.no _)) h2 HX7.out)
  clear hm13 hl13 hp13 hs13 hs13' HSA
  go_wp2_with fail
  refine HSB.out.mono ?_
  rintro r w14 ⟨vb, vd, rows', rfl, hm14, hl14, hp14, hs14⟩
  have hs14' : St No w13 No w14 := hs14.drop (fun _ e => e.elim)
  have HST : Hid (Calls Try.prog 19 #[.agg #[.slice va k.hosts vc], .agg #[.slice vb k.hosts vd]] w14 fun e w' => e = .returned (.bool true) ∧ St No w14 No w') := Lib.hid (by
    have h := states8_calls va vc (rows.map SB.sp) vb vd (rows'.map SB.sp) (by rw [HL13.out]; omega) w14 ((HM13.out.rdK HP13.out HX7.out).st hs14') (hm14.rdK hp14 HX7.out)
    rwa [HL13.out, hl14, HP13.out, hp14, decide_eq_true rfl] at h)
  have HS14 := Lib.hid (HS12.out.trans (HS13.out.trans hs14'))
  clear hm14 hl14 hp14 hs14 hs14' HSB
  go_wp2_with fail
  refine HST.out.mono ?_
  rintro r w15 ⟨rfl, hs15⟩
  have HS15 := Lib.hid (HS14.out.trans hs15)
  clear hs15
  go_wp2
  go_ret
  refine ⟨by simp, F5, G7, X7, HE8.out.st HS15.out (Dj.no _), HF8.out.st HS15.out (Dj.no _), HL7.out.2.1, HX7.out, ?_⟩
  exact (((((((HS1.out.wide (F' := Or2 F G) (G' := Or2 F G) (fun _ e => e.elim) (fun _ e => .inl e)).trans HL2.out.1).trans HL3.out.1).quiet2 HS4.out).trans HL5.out.1).quiet2 HS6.out).trans HL7.out.1).quiet2 (HS8.out.trans HS15.out)
end Go.Proofs.Ytjepmckofocdnaa
namespace Go.Proofs.Ytjepmckofocdnaa
open Go.RowKit
set_option linter.unusedVariables false
set_option linter.unusedSimpArgs false

theorem keepB_ok (win dl : Nat) : ∀ (E : List (Nat × List B8)) (last : Nat), (∀ f ∈ E, dl + last < f.1 ∧ f.1 ≤ dl + win ∧ sizedB f.2.length = true) → E.Pairwise (fun f g => f.1 < g.1) → keepB win dl last E = true
  | [], _, _, _ => rfl
  | f :: fs, last, h, hp => by
    have hf := h f (List.mem_cons_self ..)
    have hp2 := List.pairwise_cons.1 hp
    have ih := keepB_ok win dl fs (f.1 - dl) (fun g hg => ⟨by have := hp2.1 g hg; omega, (h g (List.mem_cons_of_mem _ hg)).2⟩) hp2.2
    unfold keepB
    rw [ih, Bool.and_true]
    exact decide_eq_true ⟨by omega, by omega, by omega, hf.2.2⟩
theorem loadB_of {k : EC} {X : Nat → XP} {w : World} {a : Option Addr} {S : List SP} (hx : EX k X) (hR : StR w a S) (hl : S.length = k.hosts) (hp : S.map SP.pl = stL k k.hosts X) : loadB k S := by
  refine ⟨hl, fun h s hs => ?_⟩
  have hr := stL_row hp hs
  have hrd := (hR h s hs).1
  unfold okB
  by_cases e : h = k.self
  · rw [if_pos e]
    have e2 := hr.2
    rw [if_neg (fun x => x.2 e)] at e2
    have q1 : s.v.sent = 0 := congrArg XP.sent e2
    have q2 : s.v.acked = 0 := congrArg XP.acked e2
    have q3 : s.v.mask = 0 := congrArg XP.mask e2
    have q4 : s.v.delivered = 0 := congrArg XP.delivered e2
    have q5 : s.L = [] := congrArg XP.queue e2
    have q6 : s.E = [] := congrArg XP.early e2
    have q7 := hrd.qn
    have q8 := hrd.en
    rw [q5] at q7
    rw [q6] at q8
    simp only [List.length_nil] at q7 q8
    unfold zeroB
    simp [q1, q2, q3, q4, q7, q8]
  · rw [if_neg e]
    have e2 := hr.2
    rw [if_pos ⟨hr.1, e⟩] at e2
    have ok := hx h hr.1 e
    rw [← e2] at ok
    have h1 : s.v.sent = s.v.acked + s.L.length := ok.qs
    have h2 : s.L.length ≤ (k.pc h).room := ok.ql
    have h3 := keepB_ok k.win s.v.delivered s.E 1 (fun f hf => by
      have h := ok.er f hf
      have h4 : s.v.delivered + 2 ≤ f.1 := h.1
      exact ⟨by omega, h.2.1, h.2.2.2⟩) ok.eo
    rw [Bool.and_eq_true]
    exact ⟨decide_eq_true ⟨by omega, h2, by omega, ok.mb, ok.qb⟩, h3⟩
theorem plX_stL {k : EC} {X : Nat → XP} {S : List SP} (hl : S.length = k.hosts) (hp : S.map SP.pl = stL k k.hosts X) {h : Nat} (hh : h < k.hosts) (hs : h ≠ k.self) : plX S h = X h := by
  obtain ⟨s, hs2⟩ : ∃ s, S[h]? = some s := ⟨_, List.getElem?_eq_getElem (by omega)⟩
  rw [plX_of hs2, (stL_row hp hs2).2, if_pos ⟨hh, hs⟩]
set_option maxRecDepth 100000 in
set_option maxHeartbeats 1000000 in
/-- made, by Load of a state that may be -/
theorem madeL_calls (k : EC) (hk : k.Ok) (w : World) (a : Option Addr) (c : Nat) (S : List SP) (hS : StR w a S) (hok : loadB k S) :
    Calls Try.prog 17 #[.agg #[.int .i64 k.self, .int .i64 k.hosts, .int .i64 k.room, .int .i64 k.win, .bool true, .slice a k.hosts c]] w (LoadJ w k S) := by
  have h1 := hk.self
  have h2 := hk.hosts
  have h3 := hk.win1
  have h4 := hk.win
  have h5 := hk.room
  have hSl := hok.1
  have hnc := load_calls k (by omega) (by omega) (by omega) (by omega) (decide_eq_true (by omega)) (w.alloc (.cells #[.int .i64 k.self, .int .i64 k.hosts, .int .i64 k.room, .int .i64 k.win, .bool true, .slice a k.hosts c] 26)) a c S (hS.st (St.alloc' No w _)) (by omega) hok
  rw [hSl] at hnc
  have HNC := Lib.hid hnc
  have wu : IntKind.u8.wrap (k.self : Int) = (k.self : Int) := by simp [IntKind.wrap, IntKind.bits, IntKind.signed]; omega
  have HS : Hid (St No w No (w.alloc (.cells #[.int .i64 k.self, .int .i64 k.hosts, .int .i64 k.room, .int .i64 k.win, .bool true, .slice a k.hosts c] 26))) := Lib.hid (St.alloc' No w _)
  clear hnc h1 h2 h3 h4 h5 hk hSl hS hok
  go_enter Try.func17, Try.ntmps17
  go_wp2_with fail
  refine HNC.out.mono ?_
  rintro r w2 ⟨F, p, rfl, he, hs⟩
  have HE := Lib.hid he
  have HS2 := Lib.hid (HS.out.trans hs)
  clear he hs
  go_wp2
  go_ret2
  exact ⟨F, p, rfl, HE.out, HS2.out⟩
end Go.Proofs.Ytjepmckofocdnaa
