
/-
  A loop over a map: whatever the order, each entry once.
-/
import Derived.Test.YtoeafacamapofaaStMap2
import Derived.Maps.RangeWalk
namespace Go.Proofs.Ytoeafacamapofaa
open Go.RowKit
set_option linter.unusedVariables false
set_option linter.unusedSimpArgs false
set_option linter.unusedSectionVars false

section
variable {α : Type} [DecidableEq α] {P : Program} {k : TypeId} {key : α → Value}
/-- a loop over the map at b is under way, its iterator at r; the entries at D have been -/
def Rng (w : World) (b r : Nat) (key : α → Value) (L : List (α × Value)) (D : List α) : Prop :=
  ∃ es clock since seen c0, w.heap[b]? = some (.map es clock) ∧ MapIs key es.toList L ∧ MapKept.Stamped es clock ∧ (L.map (·.1)).Nodup ∧
    w.heap[r]? = some (.mapIter (some b) since seen c0) ∧ (∀ x ∈ es.toList, x.born < since) ∧ since ≤ c0 ∧ since ≤ clock ∧
    (∀ (i : Nat) (e : MapEntry) (p : α × Value), es.toList[i]? = some e → L[i]? = some p → (seen.contains e.born = true ↔ p.1 ∈ D)) ∧ D.Nodup ∧ (∀ x ∈ D, x ∈ L.map (·.1))
theorem Rng.mp {w : World} {b r : Nat} {L : List (α × Value)} {D : List α} (h : Rng w b r key L D) : Mp w b key L := by
  obtain ⟨es, cl, _, _, _, hb, hm, hs, hn, _⟩ := h
  exact ⟨es, cl, hb, hm, hs, hn⟩
theorem Rng.ne {w : World} {b r : Nat} {L : List (α × Value)} {D : List α} (h : Rng w b r key L D) : r ≠ b := by
  obtain ⟨es, cl, _, _, _, hb, _, _, _, hr, _⟩ := h
  intro e
  rw [e, hb] at hr
  cases hr
theorem Rng.lt {w : World} {b r : Nat} {L : List (α × Value)} {D : List α} (h : Rng w b r key L D) : r < w.heap.size := by
  obtain ⟨es, cl, _, _, _, hb, _, _, _, hr, _⟩ := h
  exact (Array.getElem?_eq_some_iff.1 hr).1
theorem Rng.move {w w' : World} {b r : Nat} {L : List (α × Value)} {D : List α} (h : Rng w b r key L D) (e : w'.heap[b]? = w.heap[b]?) (e' : w'.heap[r]? = w.heap[r]?) : Rng w' b r key L D := by
  obtain ⟨es, cl, s, sn, c0, hb, hm, hs, hn, hr, rest⟩ := h
  exact ⟨es, cl, s, sn, c0, e.trans hb, hm, hs, hn, e'.trans hr, rest⟩
theorem Rng.st {w w' : World} {b r : Nat} {L : List (α × Value)} {D : List α} {F F' : Nat → Prop} (h : Rng w b r key L D) (s : St F w F' w') (hb : ¬ F b) (hr : ¬ F r) : Rng w' b r key L D :=
  h.move (s.block b h.mp.lt hb) (s.block r h.lt hr)
theorem Mp.range {w : World} {b : Nat} {L : List (α × Value)} (h : Mp w b key L) {t e : TypeId} (ht : P.underlying t = some (.map k e)) :
    ∃ w', (Instr.range t (.map (some b))).run P w = .ok (.pointer (some ⟨w.heap.size, 0, none⟩)) w' ∧ Rng w' b w.heap.size key L [] ∧ St No w (fpB w.heap.size) w' := by
  have hlt := h.lt
  obtain ⟨es, cl, hb, hm, hs, hn⟩ := h
  refine ⟨_, run_range_map w t k e b es cl ht hb, ⟨es, cl, cl, #[], cl, ((MapKept.heap_alloc w _).2 b hlt).trans hb, hm, hs, hn, (MapKept.heap_alloc w _).1, hs.1, Nat.le_refl _, Nat.le_refl _, ?_, by simp, by simp⟩, ?_⟩
  · intro i e p _ _; simp
  · exact (St.alloc No w _).drop (fun k hk => .inr (.inr hk))
theorem Rng.next {w : World} {b r : Nat} {L : List (α × Value)} {D : List α} (h : Rng w b r key L D) (ty : TypeId) :
    ((∀ p ∈ L, p.1 ∈ D) ∧ (Instr.next (.pointer (some ⟨r, 0, none⟩)) false ty).run P w = .ok (.tuple #[.bool false]) w) ∨
    ∃ (i : Nat) (p : α × Value) (w' : World), L[i]? = some p ∧ p.1 ∉ D ∧ (Instr.next (.pointer (some ⟨r, 0, none⟩)) false ty).run P w = .ok (.tuple #[.bool true, key p.1, p.2]) w' ∧ Rng w' b r key L (p.1 :: D) ∧ St (fpB r) w (fpB r) w' ∧
      w'.heap.size = w.heap.size ∧ w'.rangeLeft b r < w.rangeLeft b r ∧ (Instr.entry (.pointer (some ⟨r, 0, none⟩))).run P w' = .ok (.tuple #[key p.1, p.2]) w' := by
  have hne := h.ne
  obtain ⟨es, cl, since, seen, c0, hb, hm, hs, hn, hr, hold, hsc, hsk, hD, hDn, hDL⟩ := h
  have hlen : es.toList.length = L.length := by have := congrArg List.length hm; simpa using this
  have hkv : ∀ (i : Nat) (e : MapEntry) (p : α × Value), es.toList[i]? = some e → L[i]? = some p → e.key = key p.1 ∧ e.val = p.2 := by
    intro i e p he hp
    have h1 := congrArg (fun l => l[i]?) hm
    simp only [List.getElem?_map, he, hp, Option.map_some] at h1
    injection h1 with h1
    injection h1 with h1 h2
    exact ⟨h1, h2⟩
  rcases run_next_at (P := P) w ty r b since c0 seen es cl hr hb hold hsc with ⟨h0, hrun⟩ | ⟨e, he, w1, hal, hrun⟩
  · refine .inl ⟨fun p hp => ?_, hrun⟩
    obtain ⟨i, hi⟩ := List.getElem?_of_mem hp
    have hil : i < es.toList.length := by rw [hlen]; exact (List.getElem?_eq_some_iff.1 hi).1
    exact (hD i _ p (List.getElem?_eq_getElem hil) hi).1 (all_seen es seen h0 _ (List.getElem_mem hil))
  · obtain ⟨hem, hes⟩ := mem_left he
    obtain ⟨i, hi⟩ := List.getElem?_of_mem hem
    have hil : i < L.length := by rw [← hlen]; exact (List.getElem?_eq_some_iff.1 hi).1
    have hp := List.getElem?_eq_getElem hil
    obtain ⟨hk1, hk2⟩ := hkv i e _ hi hp
    have hr1 : w1.heap[r]? = some (.mapIter (some b) since seen c0) := by rcases hal with rfl | rfl <;> exact hr
    have hb1 : w1.heap[b]? = some (.map es cl) := by rcases hal with rfl | rfl <;> exact hb
    have hset := MapKept.heap_set (o' := .mapIter (some b) since (seen.push e.born) cl) hr1
    have hb' : (ChangeMaps.setBlock w1 r (.mapIter (some b) since (seen.push e.born) cl)).heap[b]? = some (.map es cl) := (hset.2 b (fun e1 => hne e1.symm)).trans hb1
    have hnd : L[i].1 ∉ D := fun hin => by have := (hD i e _ hi hp).2 hin; rw [hes] at this; cases this
    have hst := (MapKept.stamped_iff es cl).1 hs
    refine .inr ⟨i, L[i], _, hp, hnd, by rw [← hk1, ← hk2]; exact hrun, ⟨es, cl, since, seen.push e.born, cl, hb', hm, hs, hn, hset.1, hold, hsk, hsk, ?_, ?_, ?_⟩, ?_, ?_, ?_, ?_⟩
    · intro j e' p' hj hpj
      rw [contains_push, Bool.or_eq_true, hD j e' p' hj hpj, List.mem_cons, or_comm]
      refine or_congr ?_ Iff.rfl
      rw [beq_iff_eq]
      constructor
      · intro hb
        have : e' = e := born_inj hst.2.1 (List.mem_of_getElem? hj) hem hb
        subst this
        have hij : (es.toList.map (·.born))[j]? = (es.toList.map (·.born))[i]? := by simp [hj, hi]
        have : j = i := by
          have h1 := List.getElem?_inj (i := j) (j := i) (l := es.toList.map (·.born)) (by simp; have := (List.getElem?_eq_some_iff.1 hj).1; simpa using this) hst.2.1
          exact h1.1 hij
        subst this
        rw [hp] at hpj
        injection hpj with hpj
        rw [hpj]
      · intro hpe
        have hij : (L.map (·.1))[j]? = (L.map (·.1))[i]? := by simp [hpj, hp, hpe]
        have : j = i := by
          have h1 := List.getElem?_inj (i := j) (j := i) (l := L.map (·.1)) (by simp; exact (List.getElem?_eq_some_iff.1 hpj).1) hn
          exact h1.1 hij
        subst this
        rw [hi] at hj
        injection hj with hj
        rw [hj]
    · exact List.nodup_cons.2 ⟨hnd, hDn⟩
    · intro x hx
      rcases List.mem_cons.1 hx with rfl | hx
      · exact List.mem_map.2 ⟨_, List.getElem_mem hil, rfl⟩
      · exact hDL x hx
    · rcases hal with rfl | rfl <;> exact ⟨rfl, rfl, rfl, by simp [ChangeMaps.setBlock], fun k hk hn => hset.2 k (fun e => hn e), fun _ h => .inl h⟩
    · rcases hal with rfl | rfl <;> simp [ChangeMaps.setBlock]
    · simp only [World.rangeLeft, hb, hr, hb', hset.1]
      have h1 : (ChangeMaps.setBlock w1 r (.mapIter (some b) since (seen.push e.born) cl)).heap[r]? = some (.mapIter (some b) since (seen.push e.born) cl) := hset.1
      rw [h1]
      exact left_shrinks es seen e he
    · rw [← hk1, ← hk2]
      exact run_entry_at _ r b since seen es cl e hset.1 hb' hem hst.2.1
variable {w : World} {ops : Array Oper} {rest : List Oper} {o : Oper} {a : Act} {Q : Exit → Act → World → Prop}
theorem wpList_rangeM (hg : o.guard = none) (m : Operand) (t : TypeId) (hop : o.op = Op.range t m) (k e : TypeId) (ht : P.underlying t = some (.map k e)) (b : Nat) (L : List (α × Value)) (hm : a.eval m = .map (some b)) (h : Mp w b key L)
    (hK : ∀ w', Rng w' b w.heap.size key L [] → St No w (fpB w.heap.size) w' → wpList P ops Q rest (a.put o.dst (.pointer (some ⟨w.heap.size, 0, none⟩))) w') : wpList P ops Q (o :: rest) a w := by
  refine wpList_plain hg fun K' hK' => ?_
  obtain ⟨w', hrun, r1, r2⟩ := h.range ht
  unfold Oper.wp
  simp [execOp, hop, hm, hrun, Result.andThen]
  exact hK' _ _ (hK w' r1 r2)
theorem wpList_nextM (hg : o.guard = none) (it : Operand) (hop : o.op = Op.next it false) (b r : Nat) (L : List (α × Value)) (D : List α) (hit : a.eval it = .pointer (some ⟨r, 0, none⟩)) (h : Rng w b r key L D)
    (hDone : (∀ p ∈ L, p.1 ∈ D) → wpList P ops Q rest (a.put o.dst (.tuple #[.bool false])) w)
    (hMore : ∀ (i : Nat) (p : α × Value) (w' : World), L[i]? = some p → p.1 ∉ D → Rng w' b r key L (p.1 :: D) → St (fpB r) w (fpB r) w' → w'.heap.size = w.heap.size → w'.rangeLeft b r < w.rangeLeft b r →
      (Instr.entry (.pointer (some ⟨r, 0, none⟩))).run P w' = .ok (.tuple #[key p.1, p.2]) w' → wpList P ops Q rest (a.put o.dst (.tuple #[.bool true, key p.1, p.2])) w') : wpList P ops Q (o :: rest) a w := by
  refine wpList_plain hg fun K' hK' => ?_
  unfold Oper.wp
  rcases h.next (P := P) o.type with ⟨h0, hrun⟩ | ⟨i, p, w', hp, hnd, hrun, hrg, hst, hsz, hlf, hen⟩
  · simp [execOp, hop, hit, hrun, Result.andThen]
    exact hK' _ _ (hDone h0)
  · simp [execOp, hop, hit, hrun, Result.andThen]
    exact hK' _ _ (hMore i p w' hp hnd hrg hst hsz hlf hen)
end
end Go.Proofs.Ytoeafacamapofaa
