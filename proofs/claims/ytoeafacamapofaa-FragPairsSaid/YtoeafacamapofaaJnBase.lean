
/-
  The program's Joiner in memory: its slots in the order in which they were begun.
-/
import Derived.Test.YtoeafacamapofaaStMap3
import Derived.Test.YtoeafacamapofaaLyBase
import Derived.Test.YtoeafacamapofaaFgLook3
import Derived.Test.YtoeafacamapofaaFgStr
namespace Go.Proofs.Ytoeafacamapofaa
open Go.RowKit
set_option linter.unusedVariables false
set_option linter.unusedSimpArgs false

/-- names: source and number -/
abbrev Nm := Int × Int
def nmV (x : Nm) : Value := key2 .u8 .u64 x
theorem nmKey : KeyEq Try.prog 174 nmV where
  check e x w := by obtain ⟨a, c⟩ := x; kernel_rfl
  eq x y w := run_eq2 .u8 .u64 174 28 43 _ _ Try.underlying174 (by kernel_rfl) (by decide) (by decide) rfl rfl rfl rfl Try.underlying28 Try.underlying43 (fun w => by kernel_rfl) (fun w => by kernel_rfl) x y w
  now := ⟨_, Try.underlying174, fun x y => rfl⟩
  stay x w := stay2 .u8 .u64 x w
theorem nmV_inj (x y : Nm) (h : nmV x = nmV y) : x = y := by
  obtain ⟨a, c⟩ := x
  obtain ⟨a', c'⟩ := y
  simp [nmV, key2] at h
  rw [h.1, h.2]
def nmC (x : Nm) : List Value := [.int .u8 x.1, .int .u64 x.2]
theorem nmC_len (x : Nm) : (nmC x).length = 2 := rfl
/-- a part of a packet, or its place: nil -/
structure PR where
  a : Option Addr
  c : Nat
  bs : List B8
def PR.val (r : PR) : Value := .slice r.a r.bs.length r.c
structure PROk (w : World) (D : Nat → Prop) (r : PR) : Prop where
  bs : Bs w r.a r.bs
  d : ∀ k, fpA r.a k → D k
  nil : r.a = none ↔ r.bs = []
  cap : r.a = none → r.c = 0
  le : r.bs.length ≤ r.c
  few : r.c ≤ maxLen
  len : r.bs.length ≤ 1024
theorem PROk.st {w w' : World} {D F F' : Nat → Prop} {r : PR} (h : PROk w D r) (s : St F w F' w') (hd : ∀ k, F k → ¬ D k) : PROk w' D r :=
  ⟨h.bs.st s (fun k hf ha => hd k hf (h.d k ha)), h.d, h.nil, h.cap, h.le, h.few, h.len⟩
/-- what has come of a packet: plain -/
structure PS where
  key : Nm
  total : Nat
  got : Nat
  age : Nat
  parts : List (List B8)
/-- and in memory -/
structure SM where
  key : Nm
  p : Nat
  g : Nat
  total : Nat
  got : Nat
  age : Nat
  ps : List PR
def SM.pl (s : SM) : PS := ⟨s.key, s.total, s.got, s.age, s.ps.map (·.bs)⟩
def SM.ent (s : SM) : Nm × Value := (s.key, .pointer (some ⟨s.p, 0, none⟩))
def SM.cells (s : SM) : Array Value := #[.int .i64 s.total, .int .i64 s.got, .int .i64 s.age, .slice (some ⟨s.g, 0, none⟩) s.ps.length s.ps.length]
structure SMOk (w : World) (D : Nat → Prop) (s : SM) : Prop where
  ob : Ob w s.p 177 s.cells
  row : Ob w s.g 25 (s.ps.map PR.val).toArray
  parts : ∀ r ∈ s.ps, PROk w D r
  total : s.total ≤ 4096
  count : s.ps.length ≤ 128
  got : s.got = (s.ps.filter (fun r => !r.bs.isEmpty)).length
  age : s.age ≤ 64
  from0 : 0 ≤ s.key.1 ∧ s.key.1 < 255
theorem SMOk.st {w w' : World} {D F F' : Nat → Prop} {s : SM} (h : SMOk w D s) (t : St F w F' w') (hp : ¬ F s.p) (hg : ¬ F s.g) (hd : ∀ k, F k → ¬ D k) : SMOk w' D s :=
  ⟨h.ob.move (t.block _ h.ob.lt hp), h.row.move (t.block _ h.row.lt hg), fun r hr => (h.parts r hr).st t hd, h.total, h.count, h.got, h.age, h.from0⟩
/-- the blocks of slots -/
def blkS (ss : List SM) : List Nat := ss.flatMap fun s => [s.p, s.g]
theorem blkS_mem {ss : List SM} {s : SM} (h : s ∈ ss) : s.p ∈ blkS ss ∧ s.g ∈ blkS ss := ⟨List.mem_flatMap.2 ⟨s, h, by simp⟩, List.mem_flatMap.2 ⟨s, h, by simp⟩⟩
/-- the Joiner in memory -/
structure Jm (w : World) (pj bm : Nat) (V : Value) (D : Nat → Prop) (sl ag : Nat) (ss : List SM) : Prop where
  ob : Ob w pj 164 #[.int .i64 sl, .int .i64 ag, .map (some bm), V]
  mp : Mp w bm nmV (ss.map SM.ent)
  ord : Own w 174 2 V ss.length (ss.flatMap fun s => nmC s.key)
  slots : ∀ s ∈ ss, SMOk w D s
  inD : In D w
  apart : (pj :: bm :: blkS ss).Nodup
  notV : ∀ k ∈ pj :: bm :: blkS ss, ¬ fpV V k
  notD : ∀ k ∈ pj :: bm :: blkS ss, ¬ D k
  vD : ∀ k, fpV V k → ¬ D k
/-- where it lies -/
def fpJ (pj bm : Nat) (V : Value) (D : Nat → Prop) (ss : List SM) : Nat → Prop := fun k => k ∈ pj :: bm :: blkS ss ∨ fpV V k ∨ D k
theorem Jm.in {w : World} {pj bm : Nat} {V : Value} {D : Nat → Prop} {sl ag : Nat} {ss : List SM} (h : Jm w pj bm V D sl ag ss) : In (fpJ pj bm V D ss) w := by
  intro k hk
  rcases hk with hk | hk | hk
  · rcases List.mem_cons.1 hk with rfl | hk
    · exact h.ob.lt
    · rcases List.mem_cons.1 hk with rfl | hk
      · exact h.mp.lt
      · obtain ⟨s, hs, hk⟩ := List.mem_flatMap.1 hk
        simp at hk
        rcases hk with rfl | rfl
        · exact (h.slots s hs).ob.lt
        · exact (h.slots s hs).row.lt
  · exact h.ord.in k hk
  · exact h.inD k hk
/-- a step that does not touch it -/
theorem Jm.st {w w' : World} {pj bm : Nat} {V : Value} {D : Nat → Prop} {sl ag : Nat} {ss : List SM} {F F' : Nat → Prop} (h : Jm w pj bm V D sl ag ss) (t : St F w F' w') (hd : Dj F (fpJ pj bm V D ss)) : Jm w' pj bm V D sl ag ss where
  ob := h.ob.move (t.block _ h.ob.lt (fun hf => hd _ hf (.inl (by simp))))
  mp := h.mp.st t (fun hf => hd _ hf (.inl (by simp)))
  ord := h.ord.st t (fun k hf hv => hd k hf (.inr (.inl hv)))
  slots s hs := (h.slots s hs).st t (fun hf => hd _ hf (.inl (by simp [(blkS_mem hs).1]))) (fun hf => hd _ hf (.inl (by simp [(blkS_mem hs).2]))) (fun k hf hD => hd k hf (.inr (.inr hD)))
  inD := h.inD.st t
  apart := h.apart
  notV := h.notV
  notD := h.notD
  vD := h.vD
/-- the Joiner, its places told -/
def Jn (w : World) (F : Nat → Prop) (pj : Nat) (sl ag : Nat) (ss : List PS) : Prop :=
  ∃ bm V D sm, Jm w pj bm V D sl ag sm ∧ sm.map SM.pl = ss ∧ ∀ k, F k ↔ fpJ pj bm V D sm k
theorem Jn.in {w : World} {F : Nat → Prop} {pj sl ag : Nat} {ss : List PS} (h : Jn w F pj sl ag ss) : In F w := by
  obtain ⟨bm, V, D, sm, h1, _, h2⟩ := h
  intro k hk
  exact h1.in k ((h2 k).1 hk)
theorem Jn.st {w w' : World} {F G G' : Nat → Prop} {pj sl ag : Nat} {ss : List PS} (h : Jn w F pj sl ag ss) (t : St G w G' w') (hd : Dj G F) : Jn w' F pj sl ag ss := by
  obtain ⟨bm, V, D, sm, h1, h2, h3⟩ := h
  exact ⟨bm, V, D, sm, h1.st t (fun k hg hf => hd k hg ((h3 k).2 hf)), h2, h3⟩
theorem nmZero (w : World) : (zeroValue 175).run Try.prog w = .ok (.pointer none) w := by kernel_rfl
theorem nminfo : (Try.prog.info? 174).map (fun i => (i.zero, i.size, i.bytes)) = some (some (.agg #[.int .u8 0, .int .u64 0]), 2, 16) := by kernel_rfl
/-- where a slot is found -/
def getS (x : Nm) (ss : List SM) : Option SM := ss.find? (fun s => decide (s.key = x))
theorem find_ent (x : Nm) (ss : List SM) : ((ss.map SM.ent).find? (fun p => decide (p.1 = x))).map (·.2) = (getS x ss).map (fun s => Value.pointer (some ⟨s.p, 0, none⟩)) := by
  unfold getS
  induction ss with
  | nil => rfl
  | cons s ss ih =>
    simp only [List.map_cons, List.find?_cons]
    by_cases h : s.key = x
    · have e : decide ((SM.ent s).1 = x) = true := decide_eq_true h
      rw [e, decide_eq_true h]
      rfl
    · have e : decide ((SM.ent s).1 = x) = false := decide_eq_false h
      rw [e, decide_eq_false h]
      exact ih
theorem Jm.lookup {w : World} {pj bm : Nat} {V : Value} {D : Nat → Prop} {sl ag : Nat} {ss : List SM} (h : Jm w pj bm V D sl ag ss) (x : Nm) :
    (Instr.lookup 161 (.map (some bm)) (nmV x) false).run Try.prog w = .ok (match getS x ss with | some s => .pointer (some ⟨s.p, 0, none⟩) | none => .pointer none) w := by
  rw [h.mp.lookup nmKey Try.underlying161 (nmZero w) x, find_ent]
  cases getS x ss <;> rfl
end Go.Proofs.Ytoeafacamapofaa
