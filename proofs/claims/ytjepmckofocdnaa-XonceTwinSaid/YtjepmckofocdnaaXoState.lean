
/-
  An end's State: its rows in memory.
-/
import Derived.Test.YtjepmckofocdnaaXoTake
namespace Go.Proofs.Ytjepmckofocdnaa
open Go.RowKit
set_option linter.unusedVariables false
set_option linter.unusedSimpArgs false

/-- a queue that can be read; frames -/
theorem LsG.lists {w : World} {a : Option Addr} {c : Nat} {qs : List PB} (h : LsQ w (.slice a qs.length c) qs) (hb : ∀ q ∈ qs, q.b.length ≤ 140737488351232) : Lists w a (qs.map (·.b)) := by
  intro i xs hi
  rw [List.getElem?_map] at hi
  cases hq : qs[i]? with
  | none => rw [hq] at hi; cases hi
  | some q =>
    rw [hq] at hi
    cases hi
    have hm := List.mem_of_getElem? hq
    obtain ⟨ba, bc, hv, _, _, _, hn⟩ := (h.el q hm).form
    obtain ⟨x, hx, hc⟩ := h.own.rd i q.v (by rw [qmap, List.getElem?_map, hq]; rfl)
    have ho := h.el q hm
    rw [hv] at hc ho
    exact ⟨x, ba, bc, hx, hc, ho.bs, fun e => (hn e).2, hb q hm⟩
theorem LsG.frs {w : World} {a : Option Addr} {c : Nat} {es : List FB} (h : LsF w (.slice a es.length c) es) (hb : ∀ q ∈ es, q.b.length ≤ 140737488351232) : Frs w a (es.map fun f => (f.seq, f.b)) := by
  intro i f hi
  rw [List.getElem?_map] at hi
  cases hq : es[i]? with
  | none => rw [hq] at hi; cases hi
  | some q =>
    rw [hq] at hi
    cases hi
    have hm := List.mem_of_getElem? hq
    obtain ⟨ba, bc, hv, _, _, _, hn⟩ := (h.el q hm).form
    have ho := h.el q hm
    obtain ⟨y, hy⟩ := rowL_some FB.cells_len (by decide) h.own i (List.getElem?_eq_some_iff.1 hq).1
    subst hy
    have h0 := rowL_elem FB.cells_len h.own i q hq 0 _ (by decide) rfl
    have h1 := rowL_elem FB.cells_len h.own i q hq 1 _ (by decide) rfl
    rw [hv] at h1 ho
    exact ⟨y, ba, bc, rfl, h0, h1, ho.bs, fun e => (hn e).2, hb q hm⟩
/-- a row of a state in memory -/
structure SB where
  v : PV
  qs : List PB
  es : List FB
def SB.Vq (r : SB) : Value := .slice r.v.qa r.v.qn r.v.qc
def SB.Ve (r : SB) : Value := .slice r.v.ea r.v.en r.v.ec
def SB.cells (r : SB) : List Value := r.v.cells.toList
theorem SB.cells_len (r : SB) : r.cells.length = 6 := rfl
def SB.pl (r : SB) : XP := ⟨r.v.sent, r.v.acked, r.v.mask, r.v.delivered, r.qs.map (·.b), r.es.map fun f => (f.seq, f.b)⟩
def SB.fp (r : SB) : Nat → Prop := fun j => fpL PB.v r.Vq r.qs j ∨ fpL FB.v r.Ve r.es j
structure SB.Ok (w : World) (r : SB) : Prop where
  lq : LsQ w r.Vq r.qs
  lf : LsF w r.Ve r.es
def sb0 : SB := ⟨⟨0, 0, 0, 0, none, 0, 0, none, 0, 0⟩, [], []⟩
theorem sb0_ok (w : World) : sb0.Ok w := ⟨LsG.nil w, LsG.nil w⟩
theorem sb0_fp {j : Nat} : ¬ sb0.fp j := fun h => h.elim (fun x => fpL_nil x) (fun x => fpL_nil x)
theorem sb0_pl : sb0.pl = xp0 := rfl
theorem SB.Ok.in {w : World} {r : SB} (h : r.Ok w) : In r.fp w := fun j hj => hj.elim (h.lq.in j) (h.lf.in j)
theorem SB.Ok.st {w w' : World} {r : SB} {G G' : Nat → Prop} (h : r.Ok w) (s : St G w G' w') (hd : Dj G r.fp) : r.Ok w' :=
  ⟨h.lq.st s (fun j a b => hd j a (.inl b)), h.lf.st s (fun j a b => hd j a (.inr b))⟩
/-- a state in memory -/
structure StM (w : World) (V : Value) (rows : List SB) : Prop where
  own : Own w 69 6 V rows.length (rows.flatMap SB.cells)
  el : ∀ r ∈ rows, r.Ok w
  sep : ∀ r ∈ rows, Dj (fpV V) r.fp
def fpS (V : Value) (rows : List SB) : Nat → Prop := fun j => fpV V j ∨ ∃ r ∈ rows, r.fp j
theorem StM.in {w : World} {V : Value} {rows : List SB} (h : StM w V rows) : In (fpS V rows) w := by
  rintro j (hj | ⟨r, hr, hj⟩)
  · exact h.own.in j hj
  · exact (h.el r hr).in j hj
theorem StM.st {w w' : World} {V : Value} {rows : List SB} {G G' : Nat → Prop} (h : StM w V rows) (s : St G w G' w') (hd : Dj G (fpS V rows)) : StM w' V rows :=
  ⟨h.own.st s (fun j a b => hd j a (.inl b)), fun r hr => (h.el r hr).st s (fun j a b => hd j a (.inr ⟨r, hr, b⟩)), h.sep⟩
theorem rows_set (f : SB → List Value) : ∀ (rows : List SB) (h : Nat) (r : SB), h < rows.length → (∀ x : SB, (SB.cells x).length = 6) →
    ((((((rows.flatMap SB.cells).set (h * 6) (.int .u64 r.v.sent)).set (h * 6 + 1) (.int .u64 r.v.acked)).set (h * 6 + 2) r.Vq).set (h * 6 + 3) (.int .u64 (r.v.mask.toNat : Int))).set (h * 6 + 4) (.int .u64 r.v.delivered)).set (h * 6 + 5) r.Ve = (rows.set h r).flatMap SB.cells
  | [], h, r, hh, _ => by simp at hh
  | x :: xs, 0, r, _, _ => by
    simp [SB.cells, PV.cells, SB.Vq, SB.Ve, List.flatMap_cons]
  | x :: xs, h + 1, r, hh, hc => by
    have ih := rows_set f xs h r (by simpa using hh) hc
    have e : (h + 1) * 6 = h * 6 + 1 + 1 + 1 + 1 + 1 + 1 := by omega
    have e1 : (h + 1) * 6 + 1 = (h * 6 + 1) + 1 + 1 + 1 + 1 + 1 + 1 := by omega
    have e2 : (h + 1) * 6 + 2 = (h * 6 + 2) + 1 + 1 + 1 + 1 + 1 + 1 := by omega
    have e3 : (h + 1) * 6 + 3 = (h * 6 + 3) + 1 + 1 + 1 + 1 + 1 + 1 := by omega
    have e4 : (h + 1) * 6 + 4 = (h * 6 + 4) + 1 + 1 + 1 + 1 + 1 + 1 := by omega
    have e5 : (h + 1) * 6 + 5 = (h * 6 + 5) + 1 + 1 + 1 + 1 + 1 + 1 := by omega
    rw [e1, e2, e3, e4, e5, e]
    rw [List.flatMap_cons, List.set_cons_succ, List.flatMap_cons, ← ih]
    simp [SB.cells, PV.cells, List.set_cons_succ]
/-- a row laid -/
theorem StM.row {w w' : World} {g n h : Nat} {rows : List SB} {r : SB} (hM : StM w (.slice (some ⟨g, 0, none⟩) n n) rows) (hn : rows.length = n) (hh : h < rows.length) (hr : r.Ok w) (hg : ¬ r.fp g)
    (e : w' = (((((w.setCell ⟨g, h * 6, none⟩ (.int .u64 r.v.sent)).setCell ⟨g, h * 6 + 1, none⟩ (.int .u64 r.v.acked)).setCell ⟨g, h * 6 + 2, none⟩ r.Vq).setCell ⟨g, h * 6 + 3, none⟩ (.int .u64 (r.v.mask.toNat : Int))).setCell ⟨g, h * 6 + 4, none⟩ (.int .u64 r.v.delivered)).setCell ⟨g, h * 6 + 5, none⟩ r.Ve) :
    StM w' (.slice (some ⟨g, 0, none⟩) n n) (rows.set h r) ∧ St (fpB0 g) w (fpB0 g) w' := by
  subst hn
  have ho := ((((((hM.own.set (h * 6) (.int .u64 r.v.sent)).set (h * 6 + 1) (.int .u64 r.v.acked)).set (h * 6 + 2) r.Vq).set (h * 6 + 3) (.int .u64 (r.v.mask.toNat : Int))).set (h * 6 + 4) (.int .u64 r.v.delivered)).set (h * 6 + 5) r.Ve)
  rw [rows_set SB.cells rows h r hh SB.cells_len, ← e] at ho
  have s : St (fpB0 g) w (fpB0 g) w' := by
    rw [e]
    exact (((((St.setCell (F := fpB0 g) _ ⟨g, _, none⟩ _ rfl).trans (St.setCell (F := fpB0 g) _ ⟨g, _, none⟩ _ rfl)).trans (St.setCell (F := fpB0 g) _ ⟨g, _, none⟩ _ rfl)).trans (St.setCell (F := fpB0 g) _ ⟨g, _, none⟩ _ rfl)).trans (St.setCell (F := fpB0 g) _ ⟨g, _, none⟩ _ rfl)).trans (St.setCell (F := fpB0 g) _ ⟨g, _, none⟩ _ rfl)
  refine ⟨⟨by rw [List.length_set]; exact ho, ?_, ?_⟩, s⟩
  · intro x hx
    rcases List.mem_or_eq_of_mem_set hx with hx | rfl
    · exact (hM.el x hx).st s (fun j a b => hM.sep x hx j (fpV_at.2 a) b)
    · exact hr.st s (fun j a b => hg (by rw [← (show j = g from a)]; exact b))
  · intro x hx
    rcases List.mem_or_eq_of_mem_set hx with hx | rfl
    · exact hM.sep x hx
    · exact fun j a b => hg (by rw [← fpV_at.1 a]; exact b)
def stL (k : EC) (m : Nat) (X : Nat → XP) : List XP := (List.range k.hosts).map fun h => if h < m ∧ h ≠ k.self then X h else xp0
def StateJ (w : World) (k : EC) (X : Nat → XP) (r : Ending) (w' : World) : Prop :=
  ∃ V rows, r = .returned (.agg #[V]) ∧ StM w' V rows ∧ rows.map SB.pl = stL k k.hosts X ∧ St No w (fpS V rows) w'
theorem esInfo : (Try.prog.info? 24).map (·.size) = some 1 := by kernel_rfl
theorem infPS : (Try.prog.info? 69).map (fun i => (i.zero, i.size, decide (i.bytes ≤ 1000))) = some (some (.agg sb0.v.cells), 6, true) := by kernel_rfl
theorem infPS' : ∃ i, Try.prog.info? 69 = some i ∧ i.zero = some (.agg sb0.v.cells) ∧ i.size = 6 ∧ i.bytes ≤ 1000 := by
  have h := infPS
  cases hi : Try.prog.info? 69 with
  | none => rw [hi] at h; cases h
  | some i =>
    rw [hi] at h
    simp only [Option.map_some, Option.some.injEq, Prod.mk.injEq] at h
    exact ⟨i, rfl, h.1, h.2.1, of_decide_eq_true h.2.2⟩
end Go.Proofs.Ytjepmckofocdnaa
