
/-
  Maps in memory whose keys are structs of two numbers: look-up, store, delete.
-/
import Derived.Test.YtoeafacamapofaaStRows
import Derived.MapKept
import Derived.Laws.StructEq
namespace Go.Proofs.Ytoeafacamapofaa
open Go.RowKit
set_option linter.unusedVariables false
set_option linter.unusedSimpArgs false

/-- keys of a type, as the laws ask it -/
structure KeyEq {α : Type} [DecidableEq α] (P : Program) (k : TypeId) (key : α → Value) : Prop where
  check : ∀ (e : Bool) (x : α) (w : World), (Instr.checkKey e 10000 k (key x)).run P w = .ok () w
  eq : ∀ (x y : α) (w : World), (Op.equal k (key x) (key y)).run P w = .ok (decide (x = y)) w
  now : ∃ d, P.underlying k = some d ∧ ∀ x y, Instr.sameNow d (key x) (key y) = none
  stay : ∀ (x : α) (w : World), (Instr.keyThatStays (key x) (key x)).run P w = .ok (key x) w
/-- where a key stands -/
def findL {α : Type} [DecidableEq α] (x : α) : List (α × Value) → Nat → Option (Nat × Value)
  | [], _ => none
  | p :: r, i => if p.1 = x then some (i, p.2) else findL x r (i + 1)
/-- entries that hold these keys and values -/
def MapIs {α : Type} (key : α → Value) (es : List MapEntry) (L : List (α × Value)) : Prop := es.map (fun e => (e.key, e.val)) = L.map (fun p => (key p.1, p.2))
section
variable {α : Type} [DecidableEq α] {P : Program} {k : TypeId} {key : α → Value}
theorem run_findAsking (K : KeyEq P k key) (x : α) (w : World) : ∀ (es : List MapEntry) (L : List (α × Value)) (i : Nat), MapIs key es L → (Instr.findAsking k (key x) es i).run P w = .ok (findL x L i) w := by
  intro es
  induction es with
  | nil =>
    intro L i h
    have : L = [] := by cases L with
      | nil => rfl
      | cons p r => simp [MapIs] at h
    subst this
    rfl
  | cons e es ih =>
    intro L i h
    cases L with
    | nil => simp [MapIs] at h
    | cons p r =>
      unfold MapIs at h
      simp only [List.map_cons, List.cons.injEq, Prod.mk.injEq] at h
      obtain ⟨⟨h1, h2⟩, h3⟩ := h
      simp only [Instr.findAsking, Sem.run_bind, h1, K.eq, Result.andThen_ok, findL, Sem.run_ite, Sem.run_pure]
      by_cases hx : x = p.1
      · rw [if_pos (by simpa using hx), if_pos hx.symm, h2]
      · rw [if_neg (by simpa using hx), if_neg (fun h => hx h.symm)]
        exact ih r (i + 1) h3
theorem run_findKey' (K : KeyEq P k key) (x : α) (w : World) (es : List MapEntry) (L : List (α × Value)) (h : MapIs key es L) : (Instr.findKey k (key x) es).run P w = .ok (findL x L 0) w := by
  obtain ⟨d, hd, hn⟩ := K.now
  cases es with
  | nil =>
    have : L = [] := by cases L with
      | nil => rfl
      | cons p r => simp [MapIs] at h
    subst this
    simp [Instr.findKey, run_underlying hd, Instr.findNow, findL]
  | cons e es =>
    cases L with
    | nil => simp [MapIs] at h
    | cons p r =>
      have h1 : e.key = key p.1 := by simp [MapIs] at h; exact h.1.1
      have hf : Instr.findNow d (key x) (e :: es) 0 = none := by simp only [Instr.findNow, h1, hn]
      simp only [Instr.findKey, Sem.run_bind, run_underlying hd, Result.andThen_ok, hf]
      exact run_findAsking K x w (e :: es) (p :: r) 0 h
theorem run_lookup (K : KeyEq P k key) {t e : TypeId} (ht : P.underlying t = some (.map k e)) {z : Value} {w : World} (hz : (zeroValue e).run P w = .ok z w) {b : Nat} {es : Array MapEntry} {clock : Nat} (hb : w.heap[b]? = some (.map es clock)) (x : α) (L : List (α × Value)) (h : MapIs key es.toList L) (ok : Bool) :
    (Instr.lookup t (.map (some b)) (key x) ok).run P w = .ok (if ok then .tuple #[((findL x L 0).map (·.2)).getD z, .bool (findL x L 0).isSome] else ((findL x L 0).map (·.2)).getD z) w := by
  cases hf : findL x L 0 with
  | none => cases ok <;> simp [Instr.lookup, run_underlying ht, MapKept.run_getObj_map hb, K.check, run_findKey' K x w _ L h, hf, hz, Result.andThen]
  | some q =>
    obtain ⟨i, v⟩ := q
    cases ok <;> simp [Instr.lookup, run_underlying ht, MapKept.run_getObj_map hb, K.check, run_findKey' K x w _ L h, hf, Result.andThen]
end
section
variable {P : Program}
/-- structs of two numbers -/
def key2 (k1 k2 : IntKind) (x : Int × Int) : Value := .agg #[.int k1 x.1, .int k2 x.2]
theorem run_eq2 (k1 k2 : IntKind) (t t1 t2 : TypeId) (f1 f2 : Field) (ht : P.underlying t = some (.struct #[f1, f2])) (hp : P.stoodInHeld t = false) (h1 : f1.name ≠ "_") (h2 : f2.name ≠ "_") (o1 : f1.offset = 0) (o2 : f2.offset = 1) (e1 : f1.type = t1) (e2 : f2.type = t2)
    (hu1 : P.underlying t1 = some (.int k1)) (hu2 : P.underlying t2 = some (.int k2)) (ha1 : ∀ w, (isAgg t1).run P w = .ok false w) (ha2 : ∀ w, (isAgg t2).run P w = .ok false w) (x y : Int × Int) (w : World) :
    (Op.equal t (key2 k1 k2 x) (key2 k1 k2 y)).run P w = .ok (decide (x = y)) w := by
  obtain ⟨a, c⟩ := x
  obtain ⟨a', c'⟩ := y
  have hf : P.fieldsOf t = #[f1, f2] := by unfold Program.fieldsOf; rw [ht]
  unfold Op.equal key2
  rw [show Op.maxDepth = (9998 + 1) + 1 from rfl, run_equalIn_struct w (9998 + 1) t _ _ (by rw [hf]; exact ht) hp, hf]
  have pa : ∀ (v u : Value) (w : World), (part t1 #[v, u] 0).run P w = .ok v w := fun v u w => by simp [part, ha1, Result.andThen]
  have pb : ∀ (v u : Value) (w : World), (part t2 #[v, u] 1).run P w = .ok u w := fun v u w => by simp [part, ha2, Result.andThen]
  have q1 : ∀ (a b : Int) (w : World), (Op.equalIn (9998 + 1) t1 (.int k1 a) (.int k1 b)).run P w = .ok (a == b) w := fun a b w => run_equalIn_int w 9998 t1 k1 k1 a b hu1
  have q2 : ∀ (a b : Int) (w : World), (Op.equalIn (9998 + 1) t2 (.int k2 a) (.int k2 b)).run P w = .ok (a == b) w := fun a b w => run_equalIn_int w 9998 t2 k2 k2 a b hu2
  have q3 : ∀ (a b : Int) (w : World), (Op.equalIn 9999 t2 (.int k2 a) (.int k2 b)).run P w = .ok (a == b) w := q2
  simp only [Op.eqFields, h1, h2, ne_eq, not_false_eq_true, if_true, Sem.run_bind, e1, e2, o1, o2, pa, pb, Result.andThen_ok, q1, q2]
  by_cases hac : a = a'
  · subst hac
    by_cases hcc : c = c'
    · subst hcc; simp [pb, q3, Result.andThen]
    · have e : (c == c') = false := beq_eq_false_iff_ne.2 hcc
      simp [pb, q3, e, hcc, Result.andThen]
  · have e : (a == a') = false := beq_eq_false_iff_ne.2 hac
    simp [e, hac]
theorem stay2 (k1 k2 : IntKind) (x : Int × Int) (w : World) : (Instr.keyThatStays (key2 k1 k2 x) (key2 k1 k2 x)).run P w = .ok (key2 k1 k2 x) w := by
  have h : Instr.sameBits 10000 (key2 k1 k2 x) (key2 k1 k2 x) = true := by
    show Instr.sameBits (9999 + 1) (.agg _) (.agg _) = true
    simp [Instr.sameBits]
  simp [Instr.keyThatStays, h]
end
end Go.Proofs.Ytoeafacamapofaa
