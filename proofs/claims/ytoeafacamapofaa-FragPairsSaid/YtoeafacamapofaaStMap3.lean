
/-
  Maps in memory whose keys are structs of two numbers: look-up, store, delete.
  Maps in memory: their entries in the order in which they came; look-up, delete, a new entry, range.
  A loop over a map: whatever the order, each entry once.
-/
import Derived.Test.YtoeafacamapofaaStRows2
import Derived.MapKept
import Derived.Laws.StructEq
import Derived.Maps.RangeRun
import Derived.Maps.RangeWalk
namespace Go.Proofs.Ytoeafacamapofaa
open Go.RowKit
set_option linter.unusedVariables false
set_option linter.unusedSimpArgs false

/-- keys of a type, as the laws ask it -/
structure KeyEq {α : Type} [DecidableEq α] (P : Program) (k : TypeId) (key : α → Value) : Prop where
  check : ∀ (e : Bool) (x : α) (w : World), (Instr.checkKey e 10000 k (key x)).run P w = .ok () w
  eq : ∀ (x y : α) (w : World), (Op.equal k (key x) (key y)).run P w = .ok (decide (x = y)) w
  now : ∃ d, P.underlying k = some d ∧ ∀ x y, Instr.sameNow d (key x) (key y) = none
  stay : ∀ (x : α) (w : World), (Instr.keyThatStays (key x) (key x)).run P w = .ok (key x) w
/-- where a key stands -/
def findL {α : Type} [DecidableEq α] (x : α) : List (α × Value) → Nat → Option (Nat × Value)
  | [], _ => none
  | p :: r, i => if p.1 = x then some (i, p.2) else findL x r (i + 1)
/-- entries that hold these keys and values -/
def MapIs {α : Type} (key : α → Value) (es : List MapEntry) (L : List (α × Value)) : Prop := es.map (fun e => (e.key, e.val)) = L.map (fun p => (key p.1, p.2))
section
variable {α : Type} [DecidableEq α] {P : Program} {k : TypeId} {key : α → Value}
theorem run_findAsking (K : KeyEq P k key) (x : α) (w : World) : ∀ (es : List MapEntry) (L : List (α × Value)) (i : Nat), MapIs key es L → (Instr.findAsking k (key x) es i).run P w = .ok (findL x L i) w := by
  intro es
  induction es with
  | nil =>
    intro L i h
    have : L = [] := by cases L with
      | nil => rfl
      | cons p r => simp [MapIs] at h
    subst this
    rfl
  | cons e es ih =>
    intro L i h
    cases L with
    | nil => simp [MapIs] at h
    | cons p r =>
      unfold MapIs at h
      simp only [List.map_cons, List.cons.injEq, Prod.mk.injEq] at h
      obtain ⟨⟨h1, h2⟩, h3⟩ := h
      simp only [Instr.findAsking, Sem.run_bind, h1, K.eq, Result.andThen_ok, findL, Sem.run_ite, Sem.run_pure]
      by_cases hx : x = p.1
      · rw [if_pos (by simpa using hx), if_pos hx.symm, h2]
      · rw [if_neg (by simpa using hx), if_neg (fun h => hx h.symm)]
        exact ih r (i + 1) h3
theorem run_findKey' (K : KeyEq P k key) (x : α) (w : World) (es : List MapEntry) (L : List (α × Value)) (h : MapIs key es L) : (Instr.findKey k (key x) es).run P w = .ok (findL x L 0) w := by
  obtain ⟨d, hd, hn⟩ := K.now
  cases es with
  | nil =>
    have : L = [] := by cases L with
      | nil => rfl
      | cons p r => simp [MapIs] at h
    subst this
    simp [Instr.findKey, run_underlying hd, Instr.findNow, findL]
  | cons e es =>
    cases L with
    | nil => simp [MapIs] at h
    | cons p r =>
      have h1 : e.key = key p.1 := by simp [MapIs] at h; exact h.1.1
      have hf : Instr.findNow d (key x) (e :: es) 0 = none := by simp only [Instr.findNow, h1, hn]
      simp only [Instr.findKey, Sem.run_bind, run_underlying hd, Result.andThen_ok, hf]
      exact run_findAsking K x w (e :: es) (p :: r) 0 h
theorem run_lookup (K : KeyEq P k key) {t e : TypeId} (ht : P.underlying t = some (.map k e)) {z : Value} {w : World} (hz : (zeroValue e).run P w = .ok z w) {b : Nat} {es : Array MapEntry} {clock : Nat} (hb : w.heap[b]? = some (.map es clock)) (x : α) (L : List (α × Value)) (h : MapIs key es.toList L) (ok : Bool) :
    (Instr.lookup t (.map (some b)) (key x) ok).run P w = .ok (if ok then .tuple #[((findL x L 0).map (·.2)).getD z, .bool (findL x L 0).isSome] else ((findL x L 0).map (·.2)).getD z) w := by
  cases hf : findL x L 0 with
  | none => cases ok <;> simp [Instr.lookup, run_underlying ht, MapKept.run_getObj_map hb, K.check, run_findKey' K x w _ L h, hf, hz, Result.andThen]
  | some q =>
    obtain ⟨i, v⟩ := q
    cases ok <;> simp [Instr.lookup, run_underlying ht, MapKept.run_getObj_map hb, K.check, run_findKey' K x w _ L h, hf, Result.andThen]
end
section
variable {P : Program}
/-- structs of two numbers -/
def key2 (k1 k2 : IntKind) (x : Int × Int) : Value := .agg #[.int k1 x.1, .int k2 x.2]
theorem run_eq2 (k1 k2 : IntKind) (t t1 t2 : TypeId) (f1 f2 : Field) (ht : P.underlying t = some (.struct #[f1, f2])) (hp : P.stoodInHeld t = false) (h1 : f1.name ≠ "_") (h2 : f2.name ≠ "_") (o1 : f1.offset = 0) (o2 : f2.offset = 1) (e1 : f1.type = t1) (e2 : f2.type = t2)
    (hu1 : P.underlying t1 = some (.int k1)) (hu2 : P.underlying t2 = some (.int k2)) (ha1 : ∀ w, (isAgg t1).run P w = .ok false w) (ha2 : ∀ w, (isAgg t2).run P w = .ok false w) (x y : Int × Int) (w : World) :
    (Op.equal t (key2 k1 k2 x) (key2 k1 k2 y)).run P w = .ok (decide (x = y)) w := by
  obtain ⟨a, c⟩ := x
  obtain ⟨a', c'⟩ := y
  have hf : P.fieldsOf t = #[f1, f2] := by unfold Program.fieldsOf; rw [ht]
  unfold Op.equal key2
  rw [show Op.maxDepth = (9998 + 1) + 1 from rfl, run_equalIn_struct w (9998 + 1) t _ _ (by rw [hf]; exact ht) hp, hf]
  have pa : ∀ (v u : Value) (w : World), (part t1 #[v, u] 0).run P w = .ok v w := fun v u w => by simp [part, ha1, Result.andThen]
  have pb : ∀ (v u : Value) (w : World), (part t2 #[v, u] 1).run P w = .ok u w := fun v u w => by simp [part, ha2, Result.andThen]
  have q1 : ∀ (a b : Int) (w : World), (Op.equalIn (9998 + 1) t1 (.int k1 a) (.int k1 b)).run P w = .ok (a == b) w := fun a b w => run_equalIn_int w 9998 t1 k1 k1 a b hu1
  have q2 : ∀ (a b : Int) (w : World), (Op.equalIn (9998 + 1) t2 (.int k2 a) (.int k2 b)).run P w = .ok (a == b) w := fun a b w => run_equalIn_int w 9998 t2 k2 k2 a b hu2
  have q3 : ∀ (a b : Int) (w : World), (Op.equalIn 9999 t2 (.int k2 a) (.int k2 b)).run P w = .ok (a == b) w := q2
  simp only [Op.eqFields, h1, h2, ne_eq, not_false_eq_true, if_true, Sem.run_bind, e1, e2, o1, o2, pa, pb, Result.andThen_ok, q1, q2]
  by_cases hac : a = a'
  · subst hac
    by_cases hcc : c = c'
    · subst hcc; simp [pb, q3, Result.andThen]
    · have e : (c == c') = false := beq_eq_false_iff_ne.2 hcc
      simp [pb, q3, e, hcc, Result.andThen]
  · have e : (a == a') = false := beq_eq_false_iff_ne.2 hac
    simp [e, hac]
theorem stay2 (k1 k2 : IntKind) (x : Int × Int) (w : World) : (Instr.keyThatStays (key2 k1 k2 x) (key2 k1 k2 x)).run P w = .ok (key2 k1 k2 x) w := by
  have h : Instr.sameBits 10000 (key2 k1 k2 x) (key2 k1 k2 x) = true := by
    show Instr.sameBits (9999 + 1) (.agg _) (.agg _) = true
    simp [Instr.sameBits]
  simp [Instr.keyThatStays, h]
end
end Go.Proofs.Ytoeafacamapofaa
namespace Go.Proofs.Ytoeafacamapofaa
open Go.RowKit
set_option linter.unusedVariables false
set_option linter.unusedSimpArgs false
set_option linter.unusedSectionVars false

/-- one block -/
def fpB (b : Nat) : Nat → Prop := fun k => k = b
theorem St.setB {F : Nat → Prop} (w : World) (b : Nat) (o : Obj) (hb : F b) : St F w F { w with heap := w.heap.setIfInBounds b o } :=
  ⟨rfl, rfl, rfl, by simp, fun k hk hn => by
    have : b ≠ k := fun e => hn (e ▸ hb)
    simp [this], fun _ h => .inl h⟩
section
variable {α : Type} [DecidableEq α] {P : Program} {k : TypeId} {key : α → Value}
theorem findL_find (x : α) : ∀ (L : List (α × Value)) (i : Nat), (findL x L i).map (·.2) = (L.find? (fun p => decide (p.1 = x))).map (·.2)
  | [], _ => rfl
  | p :: r, i => by
    simp only [findL, List.find?_cons]
    by_cases h : p.1 = x
    · simp [h]
    · simp only [h, if_false, decide_false]; exact findL_find x r (i + 1)
theorem findL_none {x : α} : ∀ {L : List (α × Value)} {i : Nat}, (∀ p ∈ L, p.1 ≠ x) → findL x L i = none
  | [], _, _ => rfl
  | p :: r, i, h => by
    simp only [findL]
    rw [if_neg (h p (List.mem_cons_self ..))]
    exact findL_none (fun q hq => h q (List.mem_cons_of_mem _ hq))
theorem findL_some {x : α} : ∀ {L : List (α × Value)} {i j : Nat} {v : Value}, findL x L i = some (j, v) → i ≤ j ∧ L[j - i]? = some (x, v)
  | [], _, _, _, h => by simp [findL] at h
  | p :: r, i, j, v, h => by
    simp only [findL] at h
    split at h
    · rename_i hp
      injection h with h
      injection h with h1 h2
      subst h1; subst h2
      refine ⟨Nat.le_refl _, ?_⟩
      rw [Nat.sub_self]
      show some p = _
      rw [← hp]
    · have := findL_some h
      refine ⟨by omega, ?_⟩
      rw [show j - i = (j - (i + 1)) + 1 by omega]
      exact this.2
theorem erase_filter {x : α} : ∀ {L : List (α × Value)} {j : Nat} {v : Value}, (L.map (·.1)).Nodup → L[j]? = some (x, v) → L.eraseIdx j = L.filter (fun p => decide (p.1 ≠ x))
  | [], _, _, _, h => by simp at h
  | p :: r, 0, v, hn, h => by
    simp at h
    subst h
    simp only [List.map_cons, List.nodup_cons, List.mem_map, not_exists, not_and] at hn
    simp only [List.eraseIdx_cons_zero, List.filter_cons]
    rw [if_neg (by simp)]
    exact (List.filter_eq_self.2 (fun q hq => by simpa using fun e => hn.1 q hq e)).symm
  | p :: r, j + 1, v, hn, h => by
    simp only [List.map_cons, List.nodup_cons, List.mem_map, not_exists, not_and] at hn
    simp only [List.getElem?_cons_succ] at h
    simp only [List.eraseIdx_cons_succ, List.filter_cons]
    have hm : (x, v) ∈ r := List.mem_of_getElem? h
    rw [if_pos (by simpa using fun e => hn.1 (x, v) hm e.symm), erase_filter hn.2 h]
/-- a map in memory -/
def Mp (w : World) (b : Nat) (key : α → Value) (L : List (α × Value)) : Prop :=
  ∃ es clock, w.heap[b]? = some (.map es clock) ∧ MapIs key es.toList L ∧ MapKept.Stamped es clock ∧ (L.map (·.1)).Nodup
theorem Mp.lt {w : World} {b : Nat} {L : List (α × Value)} (h : Mp w b key L) : b < w.heap.size := by
  obtain ⟨es, cl, hb, _⟩ := h
  exact (Array.getElem?_eq_some_iff.1 hb).1
theorem Mp.move {w w' : World} {b : Nat} {L : List (α × Value)} (h : Mp w b key L) (e : w'.heap[b]? = w.heap[b]?) : Mp w' b key L := by
  obtain ⟨es, cl, hb, r⟩ := h
  exact ⟨es, cl, e.trans hb, r⟩
theorem Mp.st {w w' : World} {b : Nat} {L : List (α × Value)} {F F' : Nat → Prop} (h : Mp w b key L) (s : St F w F' w') (hd : ¬ F b) : Mp w' b key L := h.move (s.block b h.lt hd)
theorem Mp.nodup {w : World} {b : Nat} {L : List (α × Value)} (h : Mp w b key L) : (L.map (·.1)).Nodup := by
  obtain ⟨es, cl, _, _, _, h⟩ := h
  exact h
theorem Mp.lookup {w : World} {b : Nat} {L : List (α × Value)} (h : Mp w b key L) (K : KeyEq P k key) {t e : TypeId} (ht : P.underlying t = some (.map k e)) {z : Value} (hz : (zeroValue e).run P w = .ok z w) (x : α) :
    (Instr.lookup t (.map (some b)) (key x) false).run P w = .ok (((L.find? (fun p => decide (p.1 = x))).map (·.2)).getD z) w := by
  obtain ⟨es, cl, hb, hm, _⟩ := h
  rw [run_lookup K ht hz hb x L hm false, findL_find]
  rfl
theorem Mp.len {w : World} {b : Nat} {L : List (α × Value)} (h : Mp w b key L) : ∃ es clock, w.heap[b]? = some (.map es clock) ∧ es.size = L.length := by
  obtain ⟨es, cl, hb, hm, _⟩ := h
  refine ⟨es, cl, hb, ?_⟩
  have := congrArg List.length hm
  simpa using this
theorem Mp.delete {w : World} {b : Nat} {L : List (α × Value)} (h : Mp w b key L) (K : KeyEq P k key) {t e ty : TypeId} (ht : P.underlying t = some (.map k e)) (x : α) :
    ∃ w', (Builtin.delete_ #[t, k] ty #[.map (some b), key x]).run P w = .ok (.tuple #[]) w' ∧ Mp w' b key (L.filter (fun p => decide (p.1 ≠ x))) ∧ St (fpB b) w (fpB b) w' ∧ w'.heap.size = w.heap.size := by
  obtain ⟨es, cl, hb, hm, hst, hn⟩ := h
  cases hf : findL x L 0 with
  | none =>
    refine ⟨{ w with heap := w.heap.setIfInBounds b (.map es cl) }, ?_, ⟨es, cl, (MapKept.heap_set hb).1, ?_, hst, ?_⟩, St.setB w b _ rfl, by simp⟩
    · simp [Builtin.delete_, run_underlying ht, MapKept.run_getObj_map hb, K.check, run_findKey' K x w _ L hm, hf, MapKept.run_setObj_map _ hb, Result.andThen]
    · have hq : ∀ p ∈ L, p.1 ≠ x := by
        intro p hp e
        have h1 := findL_find x L 0
        rw [hf] at h1
        have : L.find? (fun p => decide (p.1 = x)) = none := by
          cases hh : L.find? (fun p => decide (p.1 = x)) with
          | none => rfl
          | some q => rw [hh] at h1; simp at h1
        have := List.find?_eq_none.1 this p hp
        simp [e] at this
      rw [List.filter_eq_self.2 (fun p hp => by simpa using hq p hp)]
      exact hm
    · exact hn.sublist (List.Sublist.map _ List.filter_sublist)
  | some q =>
    obtain ⟨j, v⟩ := q
    have hj := (findL_some hf).2
    rw [Nat.sub_zero] at hj
    have hlen : es.size = L.length := by have := congrArg List.length hm; simpa using this
    have hjs : j < es.size := by rw [hlen]; exact (List.getElem?_eq_some_iff.1 hj).1
    have hsub : (es.eraseIdxIfInBounds j).toList = es.toList.eraseIdx j := by
      unfold Array.eraseIdxIfInBounds
      rw [dif_pos hjs]
      simp
    refine ⟨{ w with heap := w.heap.setIfInBounds b (.map (es.eraseIdxIfInBounds j) cl) }, ?_, ⟨_, cl, (MapKept.heap_set hb).1, ?_, MapKept.stamped_erase hst j, ?_⟩, St.setB w b _ rfl, by simp⟩
    · simp [Builtin.delete_, run_underlying ht, MapKept.run_getObj_map hb, K.check, run_findKey' K x w _ L hm, hf, MapKept.run_setObj_map _ hb, Result.andThen]
    · rw [hsub, ← erase_filter hn hj]
      unfold MapIs at hm ⊢
      rw [ChangeMaps.map_eraseIdx, hm, ChangeMaps.map_eraseIdx]
    · exact hn.sublist (List.Sublist.map _ List.filter_sublist)
/-- a new entry -/
theorem Mp.push {w : World} {b : Nat} {L : List (α × Value)} (h : Mp w b key L) (K : KeyEq P k key) (hinj : ∀ x y, key x = key y → x = y) {t e : TypeId} (ht : P.underlying t = some (.map k e)) (x : α) (v : Value) (hx : ∀ p ∈ L, p.1 ≠ x) :
    ∃ w', (Instr.mapUpdate t (.map (some b)) (key x) v).run P w = .ok () w' ∧ Mp w' b key (L ++ [(x, v)]) ∧ St (fpB b) w (fpB b) w' ∧ w'.heap.size = w.heap.size := by
  obtain ⟨es, cl, hb, hm, hst, hn⟩ := h
  have hf := findL_none (i := 0) hx
  refine ⟨{ w with heap := w.heap.setIfInBounds b (.map (es.push ⟨key x, v, cl⟩) (cl + 1)) }, ?_, ⟨_, _, (MapKept.heap_set hb).1, ?_, MapKept.stamped_push hst ?_, ?_⟩, St.setB w b _ rfl, by simp⟩
  · simp [Instr.mapUpdate, run_underlying ht, MapKept.run_getObj_map hb, K.check, run_findKey' K x w _ L hm, hf, MapKept.run_setObj_map _ hb, Result.andThen]
  · unfold MapIs at hm ⊢
    simp [hm]
  · intro en hen e
    have : (en.key, en.val) ∈ L.map (fun p => (key p.1, p.2)) := by rw [← hm]; exact List.mem_map.2 ⟨en, hen, rfl⟩
    obtain ⟨p, hp, he⟩ := List.mem_map.1 this
    injection he with h1 h2
    exact hx p hp (hinj _ _ (h1.trans e))
  · rw [List.map_append, List.nodup_append]
    refine ⟨hn, by simp, ?_⟩
    intro a ha b' hb'
    simp at hb'
    subst hb'
    obtain ⟨p, hp, rfl⟩ := List.mem_map.1 ha
    exact hx p hp
theorem Mp.make (w : World) : Mp (w.alloc (.map #[] 0)) w.heap.size key ([] : List (α × Value)) := ⟨#[], 0, heap_alloc_new w _, rfl, MapKept.stamped_empty 0, by simp⟩
end
end Go.Proofs.Ytoeafacamapofaa
namespace Go.Proofs.Ytoeafacamapofaa
open Go.RowKit
set_option linter.unusedVariables false
set_option linter.unusedSimpArgs false
set_option linter.unusedSectionVars false

section
variable {α : Type} [DecidableEq α] {P : Program} {k : TypeId} {key : α → Value}
/-- a loop over the map at b is under way, its iterator at r; the entries at D have been -/
def Rng (w : World) (b r : Nat) (key : α → Value) (L : List (α × Value)) (D : List α) : Prop :=
  ∃ es clock since seen c0, w.heap[b]? = some (.map es clock) ∧ MapIs key es.toList L ∧ MapKept.Stamped es clock ∧ (L.map (·.1)).Nodup ∧
    w.heap[r]? = some (.mapIter (some b) since seen c0) ∧ (∀ x ∈ es.toList, x.born < since) ∧ since ≤ c0 ∧ since ≤ clock ∧
    (∀ (i : Nat) (e : MapEntry) (p : α × Value), es.toList[i]? = some e → L[i]? = some p → (seen.contains e.born = true ↔ p.1 ∈ D)) ∧ D.Nodup ∧ (∀ x ∈ D, x ∈ L.map (·.1))
theorem Rng.mp {w : World} {b r : Nat} {L : List (α × Value)} {D : List α} (h : Rng w b r key L D) : Mp w b key L := by
  obtain ⟨es, cl, _, _, _, hb, hm, hs, hn, _⟩ := h
  exact ⟨es, cl, hb, hm, hs, hn⟩
theorem Rng.ne {w : World} {b r : Nat} {L : List (α × Value)} {D : List α} (h : Rng w b r key L D) : r ≠ b := by
  obtain ⟨es, cl, _, _, _, hb, _, _, _, hr, _⟩ := h
  intro e
  rw [e, hb] at hr
  cases hr
theorem Rng.lt {w : World} {b r : Nat} {L : List (α × Value)} {D : List α} (h : Rng w b r key L D) : r < w.heap.size := by
  obtain ⟨es, cl, _, _, _, hb, _, _, _, hr, _⟩ := h
  exact (Array.getElem?_eq_some_iff.1 hr).1
theorem Rng.move {w w' : World} {b r : Nat} {L : List (α × Value)} {D : List α} (h : Rng w b r key L D) (e : w'.heap[b]? = w.heap[b]?) (e' : w'.heap[r]? = w.heap[r]?) : Rng w' b r key L D := by
  obtain ⟨es, cl, s, sn, c0, hb, hm, hs, hn, hr, rest⟩ := h
  exact ⟨es, cl, s, sn, c0, e.trans hb, hm, hs, hn, e'.trans hr, rest⟩
theorem Rng.st {w w' : World} {b r : Nat} {L : List (α × Value)} {D : List α} {F F' : Nat → Prop} (h : Rng w b r key L D) (s : St F w F' w') (hb : ¬ F b) (hr : ¬ F r) : Rng w' b r key L D :=
  h.move (s.block b h.mp.lt hb) (s.block r h.lt hr)
theorem Mp.range {w : World} {b : Nat} {L : List (α × Value)} (h : Mp w b key L) {t e : TypeId} (ht : P.underlying t = some (.map k e)) :
    ∃ w', (Instr.range t (.map (some b))).run P w = .ok (.pointer (some ⟨w.heap.size, 0, none⟩)) w' ∧ Rng w' b w.heap.size key L [] ∧ St No w (fpB w.heap.size) w' := by
  have hlt := h.lt
  obtain ⟨es, cl, hb, hm, hs, hn⟩ := h
  refine ⟨_, run_range_map w t k e b es cl ht hb, ⟨es, cl, cl, #[], cl, ((MapKept.heap_alloc w _).2 b hlt).trans hb, hm, hs, hn, (MapKept.heap_alloc w _).1, hs.1, Nat.le_refl _, Nat.le_refl _, ?_, by simp, by simp⟩, ?_⟩
  · intro i e p _ _; simp
  · exact (St.alloc No w _).drop (fun k hk => .inr (.inr hk))
theorem Rng.next {w : World} {b r : Nat} {L : List (α × Value)} {D : List α} (h : Rng w b r key L D) (ty : TypeId) :
    ((∀ p ∈ L, p.1 ∈ D) ∧ (Instr.next (.pointer (some ⟨r, 0, none⟩)) false ty).run P w = .ok (.tuple #[.bool false]) w) ∨
    ∃ (i : Nat) (p : α × Value) (w' : World), L[i]? = some p ∧ p.1 ∉ D ∧ (Instr.next (.pointer (some ⟨r, 0, none⟩)) false ty).run P w = .ok (.tuple #[.bool true, key p.1, p.2]) w' ∧ Rng w' b r key L (p.1 :: D) ∧ St (fpB r) w (fpB r) w' ∧
      w'.heap.size = w.heap.size ∧ w'.rangeLeft b r < w.rangeLeft b r ∧ (Instr.entry (.pointer (some ⟨r, 0, none⟩))).run P w' = .ok (.tuple #[key p.1, p.2]) w' := by
  have hne := h.ne
  obtain ⟨es, cl, since, seen, c0, hb, hm, hs, hn, hr, hold, hsc, hsk, hD, hDn, hDL⟩ := h
  have hlen : es.toList.length = L.length := by have := congrArg List.length hm; simpa using this
  have hkv : ∀ (i : Nat) (e : MapEntry) (p : α × Value), es.toList[i]? = some e → L[i]? = some p → e.key = key p.1 ∧ e.val = p.2 := by
    intro i e p he hp
    have h1 := congrArg (fun l => l[i]?) hm
    simp only [List.getElem?_map, he, hp, Option.map_some] at h1
    injection h1 with h1
    injection h1 with h1 h2
    exact ⟨h1, h2⟩
  rcases run_next_at (P := P) w ty r b since c0 seen es cl hr hb hold hsc with ⟨h0, hrun⟩ | ⟨e, he, w1, hal, hrun⟩
  · refine .inl ⟨fun p hp => ?_, hrun⟩
    obtain ⟨i, hi⟩ := List.getElem?_of_mem hp
    have hil : i < es.toList.length := by rw [hlen]; exact (List.getElem?_eq_some_iff.1 hi).1
    exact (hD i _ p (List.getElem?_eq_getElem hil) hi).1 (all_seen es seen h0 _ (List.getElem_mem hil))
  · obtain ⟨hem, hes⟩ := mem_left he
    obtain ⟨i, hi⟩ := List.getElem?_of_mem hem
    have hil : i < L.length := by rw [← hlen]; exact (List.getElem?_eq_some_iff.1 hi).1
    have hp := List.getElem?_eq_getElem hil
    obtain ⟨hk1, hk2⟩ := hkv i e _ hi hp
    have hr1 : w1.heap[r]? = some (.mapIter (some b) since seen c0) := by rcases hal with rfl | rfl <;> exact hr
    have hb1 : w1.heap[b]? = some (.map es cl) := by rcases hal with rfl | rfl <;> exact hb
    have hset := MapKept.heap_set (o' := .mapIter (some b) since (seen.push e.born) cl) hr1
    have hb' : (ChangeMaps.setBlock w1 r (.mapIter (some b) since (seen.push e.born) cl)).heap[b]? = some (.map es cl) := (hset.2 b (fun e1 => hne e1.symm)).trans hb1
    have hnd : L[i].1 ∉ D := fun hin => by have := (hD i e _ hi hp).2 hin; rw [hes] at this; cases this
    have hst := (MapKept.stamped_iff es cl).1 hs
    refine .inr ⟨i, L[i], _, hp, hnd, by rw [← hk1, ← hk2]; exact hrun, ⟨es, cl, since, seen.push e.born, cl, hb', hm, hs, hn, hset.1, hold, hsk, hsk, ?_, ?_, ?_⟩, ?_, ?_, ?_, ?_⟩
    · intro j e' p' hj hpj
      rw [contains_push, Bool.or_eq_true, hD j e' p' hj hpj, List.mem_cons, or_comm]
      refine or_congr ?_ Iff.rfl
      rw [beq_iff_eq]
      constructor
      · intro hb
        have : e' = e := born_inj hst.2.1 (List.mem_of_getElem? hj) hem hb
        subst this
        have hij : (es.toList.map (·.born))[j]? = (es.toList.map (·.born))[i]? := by simp [hj, hi]
        have : j = i := by
          have h1 := List.getElem?_inj (i := j) (j := i) (l := es.toList.map (·.born)) (by simp; have := (List.getElem?_eq_some_iff.1 hj).1; simpa using this) hst.2.1
          exact h1.1 hij
        subst this
        rw [hp] at hpj
        injection hpj with hpj
        rw [hpj]
      · intro hpe
        have hij : (L.map (·.1))[j]? = (L.map (·.1))[i]? := by simp [hpj, hp, hpe]
        have : j = i := by
          have h1 := List.getElem?_inj (i := j) (j := i) (l := L.map (·.1)) (by simp; exact (List.getElem?_eq_some_iff.1 hpj).1) hn
          exact h1.1 hij
        subst this
        rw [hi] at hj
        injection hj with hj
        rw [hj]
    · exact List.nodup_cons.2 ⟨hnd, hDn⟩
    · intro x hx
      rcases List.mem_cons.1 hx with rfl | hx
      · exact List.mem_map.2 ⟨_, List.getElem_mem hil, rfl⟩
      · exact hDL x hx
    · rcases hal with rfl | rfl <;> exact ⟨rfl, rfl, rfl, by simp [ChangeMaps.setBlock], fun k hk hn => hset.2 k (fun e => hn e), fun _ h => .inl h⟩
    · rcases hal with rfl | rfl <;> simp [ChangeMaps.setBlock]
    · simp only [World.rangeLeft, hb, hr, hb', hset.1]
      have h1 : (ChangeMaps.setBlock w1 r (.mapIter (some b) since (seen.push e.born) cl)).heap[r]? = some (.mapIter (some b) since (seen.push e.born) cl) := hset.1
      rw [h1]
      exact left_shrinks es seen e he
    · rw [← hk1, ← hk2]
      exact run_entry_at _ r b since seen es cl e hset.1 hb' hem hst.2.1
variable {w : World} {ops : Array Oper} {rest : List Oper} {o : Oper} {a : Act} {Q : Exit → Act → World → Prop}
theorem wpList_rangeM (hg : o.guard = none) (m : Operand) (t : TypeId) (hop : o.op = Op.range t m) (k e : TypeId) (ht : P.underlying t = some (.map k e)) (b : Nat) (L : List (α × Value)) (hm : a.eval m = .map (some b)) (h : Mp w b key L)
    (hK : ∀ w', Rng w' b w.heap.size key L [] → St No w (fpB w.heap.size) w' → wpList P ops Q rest (a.put o.dst (.pointer (some ⟨w.heap.size, 0, none⟩))) w') : wpList P ops Q (o :: rest) a w := by
  refine wpList_plain hg fun K' hK' => ?_
  obtain ⟨w', hrun, r1, r2⟩ := h.range ht
  unfold Oper.wp
  simp [execOp, hop, hm, hrun, Result.andThen]
  exact hK' _ _ (hK w' r1 r2)
theorem wpList_nextM (hg : o.guard = none) (it : Operand) (hop : o.op = Op.next it false) (b r : Nat) (L : List (α × Value)) (D : List α) (hit : a.eval it = .pointer (some ⟨r, 0, none⟩)) (h : Rng w b r key L D)
    (hDone : (∀ p ∈ L, p.1 ∈ D) → wpList P ops Q rest (a.put o.dst (.tuple #[.bool false])) w)
    (hMore : ∀ (i : Nat) (p : α × Value) (w' : World), L[i]? = some p → p.1 ∉ D → Rng w' b r key L (p.1 :: D) → St (fpB r) w (fpB r) w' → w'.heap.size = w.heap.size → w'.rangeLeft b r < w.rangeLeft b r →
      (Instr.entry (.pointer (some ⟨r, 0, none⟩))).run P w' = .ok (.tuple #[key p.1, p.2]) w' → wpList P ops Q rest (a.put o.dst (.tuple #[.bool true, key p.1, p.2])) w') : wpList P ops Q (o :: rest) a w := by
  refine wpList_plain hg fun K' hK' => ?_
  unfold Oper.wp
  rcases h.next (P := P) o.type with ⟨h0, hrun⟩ | ⟨i, p, w', hp, hnd, hrun, hrg, hst, hsz, hlf, hen⟩
  · simp [execOp, hop, hit, hrun, Result.andThen]
    exact hK' _ _ (hDone h0)
  · simp [execOp, hop, hit, hrun, Result.andThen]
    exact hK' _ _ (hMore i p w' hp hnd hrg hst hsz hlf hen)
end
end Go.Proofs.Ytoeafacamapofaa
