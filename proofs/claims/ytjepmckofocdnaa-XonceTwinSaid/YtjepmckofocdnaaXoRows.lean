
/-
  Rows written in the middle, cut, made longer; copy and clear at rows of more than one cell.
-/
import Derived.Test.YtjepmckofocdnaaXoSearch
import Derived.Lib.AppendZerosOnto
import Derived.Lib.Overlaps
import Derived.Laws.IdiomCopy
import Derived.Laws.Externs
import Derived.Laws.NewBlocks
import Derived.Deep.RegionLaw
namespace Go.Proofs.Ytjepmckofocdnaa
open Go.RowKit
set_option linter.unusedVariables false
set_option linter.unusedSimpArgs false

theorem splice_set {α : Type} (xs vs : List α) (v : α) (o : Nat) (h : o < xs.length) : (xs.set o v).take (o + 1) ++ vs ++ (xs.set o v).drop (o + 1 + vs.length) = xs.take o ++ v :: vs ++ xs.drop (o + (v :: vs).length) := by
  have e1 : (xs.set o v).take (o + 1) = xs.take o ++ [v] := by
    rw [List.take_succ_eq_append_getElem (by rw [List.length_set]; exact h), List.take_set_of_le (Nat.le_refl _), List.getElem_set_self]
  have e2 : (xs.set o v).drop (o + 1 + vs.length) = xs.drop (o + (v :: vs).length) := by
    rw [List.drop_set_of_lt (by omega), List.length_cons]
    congr 1
    omega
  rw [e1, e2]
  simp
theorem Own.cells {e size g c n : Nat} : ∀ (vs : List Value) (o : Nat) (xs : List Value) (w : World), Own w e size (.slice (some ⟨g, 0, none⟩) n c) n xs → o + vs.length ≤ xs.length → Own (w.setCells g o vs) e size (.slice (some ⟨g, 0, none⟩) n c) n (xs.take o ++ vs ++ xs.drop (o + vs.length))
  | [], o, xs, w, h, _ => by
    rw [List.append_nil, List.length_nil, Nat.add_zero, List.take_append_drop]
    exact h
  | v :: vs, o, xs, w, h, hl => by
    have hlt : o < xs.length := by rw [List.length_cons] at hl; omega
    have h1 := Own.cells vs (o + 1) (xs.set o v) _ (h.set o v) (by rw [List.length_set]; rw [List.length_cons] at hl; omega)
    rw [splice_set xs vs v o hlt] at h1
    exact h1
theorem Own.trim {w : World} {e size g c n m : Nat} {xs : List Value} (h : Own w e size (.slice (some ⟨g, 0, none⟩) n c) n xs) (hm : m ≤ n) : Own w e size (.slice (some ⟨g, 0, none⟩) m c) m (xs.take (m * size)) := by
  obtain ⟨h1, h2⟩ := h
  have hml : m * size ≤ n * size := Nat.mul_le_mul_right _ hm
  refine ⟨by rw [List.length_take]; omega, ?_⟩
  rcases h2 with ⟨e1, _⟩ | ⟨g', cap, cur, e1, h3, h4, h5, h6, h7, h8⟩
  · cases e1
  · cases e1
    refine .inr ⟨g, c, cur, rfl, h3, h4, by omega, h6, h7, ?_⟩
    rw [← h8, List.take_take, Nat.min_eq_left hml]
theorem Own.longer {w : World} {e size g c n m : Nat} {xs : List Value} (h : Own w e size (.slice (some ⟨g, 0, none⟩) n c) n xs) (hn : n ≤ m) (hm : m ≤ c) : ∃ ys, ys.length = (m - n) * size ∧ Own w e size (.slice (some ⟨g, 0, none⟩) m c) m (xs ++ ys) := by
  obtain ⟨h1, h2⟩ := h
  rcases h2 with ⟨e1, _⟩ | ⟨g', cap, cur, e1, h3, h4, h5, h6, h7, h8⟩
  · cases e1
  · cases e1
    have hcl : cur.toList.length = c * size := by simpa using h7
    have hmc : m * size ≤ c * size := Nat.mul_le_mul_right _ hm
    have hnm : n * size ≤ m * size := Nat.mul_le_mul_right _ hn
    have e2 : (m - n) * size = m * size - n * size := Nat.sub_mul _ _ _
    refine ⟨(cur.toList.drop (n * size)).take ((m - n) * size), by rw [List.length_take, List.length_drop]; omega, ?_, .inr ⟨g, c, cur, rfl, h3, h4, hm, h6, h7, ?_⟩⟩
    · rw [List.length_append, List.length_take, List.length_drop]; omega
    · rw [← h8, show m * size = n * size + (m - n) * size by omega, List.take_add]
theorem Own.isAt {w : World} {e size g c n : Nat} {xs : List Value} (h : Own w e size (.slice (some ⟨g, 0, none⟩) n c) n xs) {j : Nat} {v : Value} (hv : xs[j]? = some v) : w.cell? ⟨g, j, none⟩ = some v := by
  obtain ⟨x, hx, hc⟩ := h.rd j v hv
  cases hx
  have e : (Addr.add ⟨g, 0, none⟩ j) = ⟨g, j, none⟩ := by simp [Addr.add]; exact fun x => x.symm
  rw [e] at hc
  exact hc
theorem Own.some {w : World} {e size g c n : Nat} {xs : List Value} (h : Own w e size (.slice (some ⟨g, 0, none⟩) n c) n xs) {j : Nat} (hj : j < xs.length) : (w.cell? ⟨g, j, none⟩).isSome = true := by
  rw [h.isAt (List.getElem?_eq_getElem hj)]; rfl
theorem St.cells {F : Nat → Prop} (g : Nat) (h : F g) : ∀ (vs : List Value) (o : Nat) (w : World), St F w F (w.setCells g o vs) := St.xsets g h
/-- copy at rows of more than one cell -/
theorem run_copy_rows {P : Program} (w : World) (dT sT ty elem : TypeId) (size b o dLen dCap : Nat) (a : Addr) (sLen sCap : Nat) (cs : List Value)
    (hu : P.underlying dT = some (.slice elem)) (hs : (P.info? elem).map (·.size) = some size) (hn : cs.length = Nat.min sLen dLen * size)
    (hsrc : ∀ j v, cs[j]? = some v → w.cell? (a.add j) = some v) (hc : ∀ j, j < cs.length → (w.cell? ⟨b, o + j, none⟩).isSome = true) (hf : ∀ j, j < cs.length → w.frozen? ⟨b, o + j, none⟩ = false) (h1 : ∀ v ∈ cs, v.oneCell' = true) :
    (Builtin.copy_ #[dT, sT] ty #[.slice (some ⟨b, o, none⟩) dLen dCap, .slice (some a) sLen sCap]).run P w = .ok (goInt (Nat.min sLen dLen : Nat)) (w.setCells b o cs) := by
  have hl := run_loadCells_list (P := P) w a cs hsrc
  have hst := run_storeCells_cells (P := P) b o cs 0 w (by simpa using hc) (by simpa using hf) h1
  cases hq : P.info? elem with
  | none => simp [hq] at hs
  | some i =>
    have hi : i.size = size := by simpa [hq] using hs
    simp [Builtin.copy_, run_underlying hu, Builtin.lenOf, Builtin.firstCells, sizeOf, typeInfo, hq, hi, ← hn, hl, hst]
/-- clear of one row -/
theorem run_clear_row {P : Program} (w : World) (t e ty : TypeId) (z : Value) (vs : List Value) (ht : P.underlying t = some (.slice e)) (hv : ∀ w, (zeroValue e).run P w = .ok z w) (hz : (Builtin.zeroCells z.cells 1).toList = vs) (h1 : ∀ v ∈ vs, v.oneCell' = true) (b o c : Nat)
    (hc : ∀ j, j < vs.length → (w.cell? ⟨b, o + j, none⟩).isSome = true) (hf : ∀ j, j < vs.length → w.frozen? ⟨b, o + j, none⟩ = false) :
    (Builtin.clear_ #[t] ty #[.slice (some ⟨b, o, none⟩) 1 c]).run P w = .ok (.tuple #[]) (w.setCells b o vs) := by
  have hst := run_storeCells_cells (P := P) b o vs 0 w (by simpa using hc) (by simpa using hf) h1
  simp only [Nat.add_zero] at hst
  simp [Builtin.clear_, run_underlying ht, hv, hz, hst]
/-- the list without its first row; with one row more -/
theorem LsG.rest {w w' : World} {g c n : Nat} {f : FB} {es : List FB} (h : LsF w (.slice (some ⟨g, 0, none⟩) (n + 1) c) (f :: es)) (ho : Own w' 133 2 (.slice (some ⟨g, 0, none⟩) n c) n (es.flatMap FB.cells)) (hn : es.length = n) (s : St (fpB0 g) w (fpB0 g) w') :
    LsF w' (.slice (some ⟨g, 0, none⟩) n c) es := by
  have hp := List.pairwise_cons.1 h.sep
  have hp2 := List.pairwise_cons.1 (show List.Pairwise Dj ((f :: es).map fun x => fpV x.v) from hp.2)
  have hg : ∀ x ∈ es, Dj (fpB0 g) (fpV x.v) := fun x hx j a b => hp.1 _ (List.mem_map.2 ⟨x, List.mem_cons_of_mem _ hx, rfl⟩) j (fpV_at.2 a) b
  refine ⟨by rw [hn]; exact ho, fun x hx => (h.el x (List.mem_cons_of_mem _ hx)).st s (hg x hx), ?_⟩
  refine List.pairwise_cons.2 ⟨?_, hp2.2⟩
  intro R hR
  obtain ⟨x, hx, rfl⟩ := List.mem_map.1 hR
  exact fun j a b => hg x hx j (fpV_at.1 a) b
theorem LsG.ins {w w' : World} {V V' : Value} {es : List FB} {x : FB} {i : Nat} (h : LsF w V es) (hx : OwB w x.v x.b) (hd : Dj (fpV x.v) (fpL FB.v V es)) (hi : i ≤ es.length)
    (ho : Own w' 133 2 V' (es.length + 1) ((es.take i).flatMap FB.cells ++ x.cells ++ (es.drop i).flatMap FB.cells)) (s : St (fpV V) w (fpV V') w') : LsF w' V' (es.take i ++ x :: es.drop i) := by
  have hp := List.pairwise_cons.1 h.sep
  have hV : ∀ u : Value, In (fpV u) w → Dj (fpV V) (fpV u) → Dj (fpV V') (fpV u) := fun u hi hj k a b => (s.new k a).elim (fun e => hj k e b) (fun hl => absurd (hi k b) (Nat.not_lt.2 hl))
  have hm : ∀ y, y ∈ es.take i ++ x :: es.drop i → y ∈ es ∨ y = x := fun y hy => by
    rcases List.mem_append.1 hy with hy | hy
    · exact .inl (List.mem_of_mem_take hy)
    · rcases List.mem_cons.1 hy with rfl | hy
      · exact .inr rfl
      · exact .inl (List.mem_of_mem_drop hy)
  refine ⟨?_, ?_, ?_⟩
  · have e : (es.take i ++ x :: es.drop i).length = es.length + 1 := by rw [List.length_append, List.length_cons, List.length_take, List.length_drop]; omega
    rw [e, List.flatMap_append, List.flatMap_cons, ← List.append_assoc]
    exact ho
  · intro y hy
    rcases hm y hy with hy | rfl
    · exact (h.el y hy).st s (hp.1 _ (List.mem_map.2 ⟨y, hy, rfl⟩))
    · exact hx.st s (fun k a b => hd k b (fpL_iff.2 (.inl a)))
  · refine List.pairwise_cons.2 ⟨?_, ?_⟩
    · intro R hR
      obtain ⟨y, hy, rfl⟩ := List.mem_map.1 hR
      rcases hm y hy with hy | rfl
      · exact hV _ (h.el y hy).in (hp.1 _ (List.mem_map.2 ⟨y, hy, rfl⟩))
      · exact hV _ hx.in (fun k a b => hd k b (fpL_iff.2 (.inl a)))
    · have hp2 : List.Pairwise Dj ((es.take i ++ es.drop i).map fun x => fpV x.v) := by rw [List.take_append_drop]; exact hp.2
      rw [List.map_append] at hp2
      have hq := List.pairwise_append.1 hp2
      have hxd : ∀ y ∈ es, Dj (fpV x.v) (fpV y.v) := fun y hy k a b => hd k a (fpL_iff.2 (.inr ⟨y, hy, b⟩))
      rw [List.map_append]
      refine List.pairwise_append.2 ⟨hq.1, List.pairwise_cons.2 ⟨?_, hq.2.1⟩, ?_⟩
      · intro R hR
        obtain ⟨y, hy, rfl⟩ := List.mem_map.1 hR
        exact hxd y (List.mem_of_mem_drop hy)
      · intro R hR R' hR'
        rw [List.map_cons] at hR'
        rcases List.mem_cons.1 hR' with rfl | hR'
        · obtain ⟨y, hy, rfl⟩ := List.mem_map.1 hR
          exact fun k a b => hxd y (List.mem_of_mem_take hy) k b a
        · exact hq.2.2 R hR R' hR'
end Go.Proofs.Ytjepmckofocdnaa
