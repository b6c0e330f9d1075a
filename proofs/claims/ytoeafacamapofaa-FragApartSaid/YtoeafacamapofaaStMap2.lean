
/-
  Maps in memory: their entries in the order in which they came; look-up, delete, a new entry, range.
-/
import Derived.Test.YtoeafacamapofaaStMap
import Derived.Maps.RangeRun
namespace Go.Proofs.Ytoeafacamapofaa
open Go.RowKit
set_option linter.unusedVariables false
set_option linter.unusedSimpArgs false
set_option linter.unusedSectionVars false

/-- one block -/
def fpB (b : Nat) : Nat → Prop := fun k => k = b
theorem St.setB {F : Nat → Prop} (w : World) (b : Nat) (o : Obj) (hb : F b) : St F w F { w with heap := w.heap.setIfInBounds b o } :=
  ⟨rfl, rfl, rfl, by simp, fun k hk hn => by
    have : b ≠ k := fun e => hn (e ▸ hb)
    simp [this], fun _ h => .inl h⟩
section
variable {α : Type} [DecidableEq α] {P : Program} {k : TypeId} {key : α → Value}
theorem findL_find (x : α) : ∀ (L : List (α × Value)) (i : Nat), (findL x L i).map (·.2) = (L.find? (fun p => decide (p.1 = x))).map (·.2)
  | [], _ => rfl
  | p :: r, i => by
    simp only [findL, List.find?_cons]
    by_cases h : p.1 = x
    · simp [h]
    · simp only [h, if_false, decide_false]; exact findL_find x r (i + 1)
theorem findL_none {x : α} : ∀ {L : List (α × Value)} {i : Nat}, (∀ p ∈ L, p.1 ≠ x) → findL x L i = none
  | [], _, _ => rfl
  | p :: r, i, h => by
    simp only [findL]
    rw [if_neg (h p (List.mem_cons_self ..))]
    exact findL_none (fun q hq => h q (List.mem_cons_of_mem _ hq))
theorem findL_some {x : α} : ∀ {L : List (α × Value)} {i j : Nat} {v : Value}, findL x L i = some (j, v) → i ≤ j ∧ L[j - i]? = some (x, v)
  | [], _, _, _, h => by simp [findL] at h
  | p :: r, i, j, v, h => by
    simp only [findL] at h
    split at h
    · rename_i hp
      injection h with h
      injection h with h1 h2
      subst h1; subst h2
      refine ⟨Nat.le_refl _, ?_⟩
      rw [Nat.sub_self]
      show some p = _
      rw [← hp]
    · have := findL_some h
      refine ⟨by omega, ?_⟩
      rw [show j - i = (j - (i + 1)) + 1 by omega]
      exact this.2
theorem erase_filter {x : α} : ∀ {L : List (α × Value)} {j : Nat} {v : Value}, (L.map (·.1)).Nodup → L[j]? = some (x, v) → L.eraseIdx j = L.filter (fun p => decide (p.1 ≠ x))
  | [], _, _, _, h => by simp at h
  | p :: r, 0, v, hn, h => by
    simp at h
    subst h
    simp only [List.map_cons, List.nodup_cons, List.mem_map, not_exists, not_and] at hn
    simp only [List.eraseIdx_cons_zero, List.filter_cons]
    rw [if_neg (by simp)]
    exact (List.filter_eq_self.2 (fun q hq => by simpa using fun e => hn.1 q hq e)).symm
  | p :: r, j + 1, v, hn, h => by
    simp only [List.map_cons, List.nodup_cons, List.mem_map, not_exists, not_and] at hn
    simp only [List.getElem?_cons_succ] at h
    simp only [List.eraseIdx_cons_succ, List.filter_cons]
    have hm : (x, v) ∈ r := List.mem_of_getElem? h
    rw [if_pos (by simpa using fun e => hn.1 (x, v) hm e.symm), erase_filter hn.2 h]
/-- a map in memory -/
def Mp (w : World) (b : Nat) (key : α → Value) (L : List (α × Value)) : Prop :=
  ∃ es clock, w.heap[b]? = some (.map es clock) ∧ MapIs key es.toList L ∧ MapKept.Stamped es clock ∧ (L.map (·.1)).Nodup
theorem Mp.lt {w : World} {b : Nat} {L : List (α × Value)} (h : Mp w b key L) : b < w.heap.size := by
  obtain ⟨es, cl, hb, _⟩ := h
  exact (Array.getElem?_eq_some_iff.1 hb).1
theorem Mp.move {w w' : World} {b : Nat} {L : List (α × Value)} (h : Mp w b key L) (e : w'.heap[b]? = w.heap[b]?) : Mp w' b key L := by
  obtain ⟨es, cl, hb, r⟩ := h
  exact ⟨es, cl, e.trans hb, r⟩
theorem Mp.st {w w' : World} {b : Nat} {L : List (α × Value)} {F F' : Nat → Prop} (h : Mp w b key L) (s : St F w F' w') (hd : ¬ F b) : Mp w' b key L := h.move (s.block b h.lt hd)
theorem Mp.nodup {w : World} {b : Nat} {L : List (α × Value)} (h : Mp w b key L) : (L.map (·.1)).Nodup := by
  obtain ⟨es, cl, _, _, _, h⟩ := h
  exact h
theorem Mp.lookup {w : World} {b : Nat} {L : List (α × Value)} (h : Mp w b key L) (K : KeyEq P k key) {t e : TypeId} (ht : P.underlying t = some (.map k e)) {z : Value} (hz : (zeroValue e).run P w = .ok z w) (x : α) :
    (Instr.lookup t (.map (some b)) (key x) false).run P w = .ok (((L.find? (fun p => decide (p.1 = x))).map (·.2)).getD z) w := by
  obtain ⟨es, cl, hb, hm, _⟩ := h
  rw [run_lookup K ht hz hb x L hm false, findL_find]
  rfl
theorem Mp.len {w : World} {b : Nat} {L : List (α × Value)} (h : Mp w b key L) : ∃ es clock, w.heap[b]? = some (.map es clock) ∧ es.size = L.length := by
  obtain ⟨es, cl, hb, hm, _⟩ := h
  refine ⟨es, cl, hb, ?_⟩
  have := congrArg List.length hm
  simpa using this
theorem Mp.delete {w : World} {b : Nat} {L : List (α × Value)} (h : Mp w b key L) (K : KeyEq P k key) {t e ty : TypeId} (ht : P.underlying t = some (.map k e)) (x : α) :
    ∃ w', (Builtin.delete_ #[t, k] ty #[.map (some b), key x]).run P w = .ok (.tuple #[]) w' ∧ Mp w' b key (L.filter (fun p => decide (p.1 ≠ x))) ∧ St (fpB b) w (fpB b) w' ∧ w'.heap.size = w.heap.size := by
  obtain ⟨es, cl, hb, hm, hst, hn⟩ := h
  cases hf : findL x L 0 with
  | none =>
    refine ⟨{ w with heap := w.heap.setIfInBounds b (.map es cl) }, ?_, ⟨es, cl, (MapKept.heap_set hb).1, ?_, hst, ?_⟩, St.setB w b _ rfl, by simp⟩
    · simp [Builtin.delete_, run_underlying ht, MapKept.run_getObj_map hb, K.check, run_findKey' K x w _ L hm, hf, MapKept.run_setObj_map _ hb, Result.andThen]
    · have hq : ∀ p ∈ L, p.1 ≠ x := by
        intro p hp e
        have h1 := findL_find x L 0
        rw [hf] at h1
        have : L.find? (fun p => decide (p.1 = x)) = none := by
          cases hh : L.find? (fun p => decide (p.1 = x)) with
          | none => rfl
          | some q => rw [hh] at h1; simp at h1
        have := List.find?_eq_none.1 this p hp
        simp [e] at this
      rw [List.filter_eq_self.2 (fun p hp => by simpa using hq p hp)]
      exact hm
    · exact hn.sublist (List.Sublist.map _ List.filter_sublist)
  | some q =>
    obtain ⟨j, v⟩ := q
    have hj := (findL_some hf).2
    rw [Nat.sub_zero] at hj
    have hlen : es.size = L.length := by have := congrArg List.length hm; simpa using this
    have hjs : j < es.size := by rw [hlen]; exact (List.getElem?_eq_some_iff.1 hj).1
    have hsub : (es.eraseIdxIfInBounds j).toList = es.toList.eraseIdx j := by
      unfold Array.eraseIdxIfInBounds
      rw [dif_pos hjs]
      simp
    refine ⟨{ w with heap := w.heap.setIfInBounds b (.map (es.eraseIdxIfInBounds j) cl) }, ?_, ⟨_, cl, (MapKept.heap_set hb).1, ?_, MapKept.stamped_erase hst j, ?_⟩, St.setB w b _ rfl, by simp⟩
    · simp [Builtin.delete_, run_underlying ht, MapKept.run_getObj_map hb, K.check, run_findKey' K x w _ L hm, hf, MapKept.run_setObj_map _ hb, Result.andThen]
    · rw [hsub, ← erase_filter hn hj]
      unfold MapIs at hm ⊢
      rw [ChangeMaps.map_eraseIdx, hm, ChangeMaps.map_eraseIdx]
    · exact hn.sublist (List.Sublist.map _ List.filter_sublist)
/-- a new entry -/
theorem Mp.push {w : World} {b : Nat} {L : List (α × Value)} (h : Mp w b key L) (K : KeyEq P k key) (hinj : ∀ x y, key x = key y → x = y) {t e : TypeId} (ht : P.underlying t = some (.map k e)) (x : α) (v : Value) (hx : ∀ p ∈ L, p.1 ≠ x) :
    ∃ w', (Instr.mapUpdate t (.map (some b)) (key x) v).run P w = .ok () w' ∧ Mp w' b key (L ++ [(x, v)]) ∧ St (fpB b) w (fpB b) w' ∧ w'.heap.size = w.heap.size := by
  obtain ⟨es, cl, hb, hm, hst, hn⟩ := h
  have hf := findL_none (i := 0) hx
  refine ⟨{ w with heap := w.heap.setIfInBounds b (.map (es.push ⟨key x, v, cl⟩) (cl + 1)) }, ?_, ⟨_, _, (MapKept.heap_set hb).1, ?_, MapKept.stamped_push hst ?_, ?_⟩, St.setB w b _ rfl, by simp⟩
  · simp [Instr.mapUpdate, run_underlying ht, MapKept.run_getObj_map hb, K.check, run_findKey' K x w _ L hm, hf, MapKept.run_setObj_map _ hb, Result.andThen]
  · unfold MapIs at hm ⊢
    simp [hm]
  · intro en hen e
    have : (en.key, en.val) ∈ L.map (fun p => (key p.1, p.2)) := by rw [← hm]; exact List.mem_map.2 ⟨en, hen, rfl⟩
    obtain ⟨p, hp, he⟩ := List.mem_map.1 this
    injection he with h1 h2
    exact hx p hp (hinj _ _ (h1.trans e))
  · rw [List.map_append, List.nodup_append]
    refine ⟨hn, by simp, ?_⟩
    intro a ha b' hb'
    simp at hb'
    subst hb'
    obtain ⟨p, hp, rfl⟩ := List.mem_map.1 ha
    exact hx p hp
theorem Mp.make (w : World) : Mp (w.alloc (.map #[] 0)) w.heap.size key ([] : List (α × Value)) := ⟨#[], 0, heap_alloc_new w _, rfl, MapKept.stamped_empty 0, by simp⟩
end
end Go.Proofs.Ytoeafacamapofaa
