
/-
  The program's Joiner: a part is laid into a slot.
-/
import Derived.Test.YtoeafacamapofaaJnBegin
namespace Go.Proofs.Ytoeafacamapofaa
open Go.RowKit
set_option linter.unusedVariables false
set_option linter.unusedSimpArgs false

theorem blkS_self {ss : List SM} {i : Nat} {s : SM} (hn : (blkS ss).Nodup) (hi : ss[i]? = some s) : s.p ≠ s.g := by
  induction ss generalizing i with
  | nil => simp at hi
  | cons x r ih =>
    have e : blkS (x :: r) = [x.p, x.g] ++ blkS r := rfl
    rw [e, List.nodup_append] at hn
    cases i with
    | zero =>
      simp at hi
      subst hi
      have := hn.1
      simpa using this
    | succ i => exact ih hn.2.1 hi
theorem blkS_apart {ss : List SM} : ∀ {i j : Nat} {s t : SM}, (blkS ss).Nodup → ss[i]? = some s → ss[j]? = some t → i ≠ j → s.p ≠ t.p ∧ s.p ≠ t.g ∧ s.g ≠ t.p ∧ s.g ≠ t.g := by
  induction ss with
  | nil => intro i j s t _ hi; simp at hi
  | cons x r ih =>
    intro i j s t hn hi hj hij
    have e : blkS (x :: r) = [x.p, x.g] ++ blkS r := rfl
    rw [e, List.nodup_append] at hn
    have key : ∀ (u : SM), u ∈ r → x.p ≠ u.p ∧ x.p ≠ u.g ∧ x.g ≠ u.p ∧ x.g ≠ u.g := fun u hu =>
      ⟨hn.2.2 x.p (by simp) u.p (blkS_mem hu).1, hn.2.2 x.p (by simp) u.g (blkS_mem hu).2, hn.2.2 x.g (by simp) u.p (blkS_mem hu).1, hn.2.2 x.g (by simp) u.g (blkS_mem hu).2⟩
    cases i with
    | zero =>
      cases j with
      | zero => omega
      | succ j =>
        simp at hi
        subst hi
        exact key t (List.mem_of_getElem? hj)
    | succ i =>
      cases j with
      | zero =>
        simp at hj
        subst hj
        obtain ⟨a, b, c, d⟩ := key s (List.mem_of_getElem? hi)
        exact ⟨a.symm, c.symm, b.symm, d.symm⟩
      | succ j => exact ih hn.2.1 hi hj (by omega)
theorem blkS_set {ss : List SM} {i : Nat} {s s' : SM} (hi : ss[i]? = some s) (hp : s'.p = s.p) (hg : s'.g = s.g) : blkS (ss.set i s') = blkS ss := by
  induction ss generalizing i with
  | nil => simp at hi
  | cons x r ih =>
    cases i with
    | zero =>
      simp at hi
      subst hi
      simp [blkS, hp, hg]
    | succ i =>
      show [x.p, x.g] ++ blkS (r.set i s') = [x.p, x.g] ++ blkS r
      rw [ih hi]
theorem map_set_same {α β : Type} (f : α → β) {ss : List α} {i : Nat} {s s' : α} (hi : ss[i]? = some s) (he : f s' = f s) : (ss.set i s').map f = ss.map f := by
  rw [List.map_set, he]
  apply List.ext_getElem?
  intro j
  by_cases h : i = j
  · subst h
    rw [List.getElem?_set_self (by simpa using (List.getElem?_eq_some_iff.1 hi).1)]
    simp [hi]
  · rw [List.getElem?_set_ne h]
theorem fill_len (ps : List PR) (idx : Nat) (h : idx < ps.length) (r : PR) (h0 : ps[idx].bs = []) (h1 : r.bs ≠ []) : ((ps.set idx r).filter (fun r => !r.bs.isEmpty)).length = (ps.filter (fun r => !r.bs.isEmpty)).length + 1 := by
  induction ps generalizing idx with
  | nil => simp at h
  | cons x t ih =>
    cases idx with
    | zero =>
      simp at h0
      rw [List.set_cons_zero, List.filter_cons_of_pos (by simpa using h1), List.filter_cons_of_neg (by simp [h0])]
      simp
    | succ idx =>
      have := ih idx (by simpa using h) (by simpa using h0)
      rw [List.set_cons_succ]
      simp only [List.filter_cons]
      split
      · rw [List.length_cons, List.length_cons, this]
      · exact this
def SM.fill (s : SM) (idx : Nat) (r : PR) : SM := { s with got := s.got + 1, ps := s.ps.set idx r }
theorem Jm.put {w : World} {pj bm : Nat} {V : Value} {D : Nat → Prop} {sl ag : Nat} {ss : List SM} (h : Jm w pj bm V D sl ag ss) {i : Nat} {s : SM} (hi : ss[i]? = some s) {idx : Nat} (hx : idx < s.ps.length) (h0 : s.ps[idx].bs = [])
    (r : PR) (hrb : Bs w r.a r.bs) (hr1 : r.bs ≠ []) (hr2 : r.a ≠ none) (hr3 : r.bs.length ≤ r.c) (hr4 : r.c ≤ maxLen) (hr5 : r.bs.length ≤ 1024) (hrf : ∀ k, fpA r.a k → ¬ fpJ pj bm V D ss k ∧ k < w.heap.size) :
    Jm ((w.setCell ⟨s.g, idx, none⟩ r.val).setCell ⟨s.p, 1, none⟩ (.int .i64 ((s.got + 1 : Nat) : Int))) pj bm V (fun k => D k ∨ fpA r.a k) sl ag (ss.set i (s.fill idx r)) ∧
      St (fun k => k = s.p ∨ k = s.g) w (fun k => k = s.p ∨ k = s.g) ((w.setCell ⟨s.g, idx, none⟩ r.val).setCell ⟨s.p, 1, none⟩ (.int .i64 ((s.got + 1 : Nat) : Int))) := by
  have hsm := List.mem_of_getElem? hi
  have hbk := blkS_mem hsm
  have hap := h.apart
  simp only [List.nodup_cons, List.mem_cons, not_or] at hap
  obtain ⟨⟨hpb, hpj⟩, hbm, hnd⟩ := hap
  have hpg := blkS_self hnd hi
  have hil := (List.getElem?_eq_some_iff.1 hi).1
  have st : St (fun k => k = s.p ∨ k = s.g) w (fun k => k = s.p ∨ k = s.g) ((w.setCell ⟨s.g, idx, none⟩ r.val).setCell ⟨s.p, 1, none⟩ (.int .i64 ((s.got + 1 : Nat) : Int))) :=
    (St.setCell w ⟨s.g, idx, none⟩ r.val (.inr rfl)).trans (St.setCell _ ⟨s.p, 1, none⟩ _ (.inl rfl))
  refine ⟨?_, st⟩
  have hD : ∀ k, (k = s.p ∨ k = s.g) → ¬ (D k ∨ fpA r.a k) := by
    rintro k (rfl | rfl) (hd | hd)
    · exact h.notD s.p (by simp [hbk.1]) hd
    · exact (hrf s.p hd).1 (.inl (by simp [hbk.1]))
    · exact h.notD s.g (by simp [hbk.2]) hd
    · exact (hrf s.g hd).1 (.inl (by simp [hbk.2]))
  have hwide : ∀ r', PROk w D r' → PROk w (fun k => D k ∨ fpA r.a k) r' := fun r' hr => ⟨hr.bs, fun k hk => .inl (hr.d k hk), hr.nil, hr.cap, hr.le, hr.few, hr.len⟩
  have hbS : blkS (ss.set i (s.fill idx r)) = blkS ss := blkS_set hi rfl rfl
  have hnew : PROk w (fun k => D k ∨ fpA r.a k) r := ⟨hrb, fun k hk => .inr hk, ⟨fun e => absurd e hr2, fun e => absurd e hr1⟩, fun e => absurd e hr2, hr3, hr4, hr5⟩
  have hs := h.slots s hsm
  refine ⟨?_, ?_, ?_, ?_, ?_, ?_, ?_, ?_, ?_⟩
  · exact h.ob.move (st.block _ h.ob.lt (fun e => e.elim (fun e => hpj (e ▸ hbk.1)) (fun e => hpj (e ▸ hbk.2))))
  · rw [map_set_same (s' := s.fill idx r) SM.ent hi rfl]
    exact h.mp.st st (fun e => e.elim (fun e => hbm (e ▸ hbk.1)) (fun e => hbm (e ▸ hbk.2)))
  · rw [List.length_set, ← List.flatMap_map, map_set_same (s' := s.fill idx r) SM.key hi rfl, List.flatMap_map]
    exact h.ord.st st (fun k hk hv => hk.elim (fun e => h.notV s.p (by simp [hbk.1]) (e ▸ hv)) (fun e => h.notV s.g (by simp [hbk.2]) (e ▸ hv)))
  · intro t ht
    obtain ⟨j, hj⟩ := List.getElem?_of_mem ht
    by_cases hij : i = j
    · subst hij
      rw [List.getElem?_set_self hil] at hj
      injection hj with hj
      subst hj
      refine ⟨?_, ?_, ?_, hs.total, by simpa [SM.fill] using hs.count, ?_, hs.age, hs.from0⟩
      · have h1 : Ob (w.setCell ⟨s.g, idx, none⟩ r.val) s.p 177 s.cells := hs.ob.move (Below.heap_setCell _ _ _ _ (fun e => hpg e))
        have h2 := h1.set 1 (.int .i64 ((s.got + 1 : Nat) : Int))
        have e : (s.fill idx r).cells = s.cells.setIfInBounds 1 (.int .i64 ((s.got + 1 : Nat) : Int)) := by simp [SM.fill, SM.cells]
        show Ob _ s.p _ (s.fill idx r).cells
        rw [e]
        exact h2
      · have h1 := hs.row.set idx r.val
        have h2 : Ob ((w.setCell ⟨s.g, idx, none⟩ r.val).setCell ⟨s.p, 1, none⟩ (.int .i64 ((s.got + 1 : Nat) : Int))) s.g _ _ := h1.move (Below.heap_setCell _ _ _ _ (fun e => hpg e.symm))
        have e : ((s.fill idx r).ps.map PR.val).toArray = (s.ps.map PR.val).toArray.setIfInBounds idx r.val := by simp [SM.fill, List.map_set]
        show Ob _ s.g _ ((s.fill idx r).ps.map PR.val).toArray
        rw [e]
        exact h2
      · intro r' hr'
        have : r' = r ∨ r' ∈ s.ps := by
          have := List.mem_or_eq_of_mem_set hr'
          exact this.symm.imp id id
        rcases this with rfl | hr'
        · exact hnew.st st (fun k hk => hD k hk)
        · exact (hwide r' (hs.parts r' hr')).st st (fun k hk => hD k hk)
      · show s.got + 1 = _
        rw [hs.got]
        exact (fill_len s.ps idx hx r h0 hr1).symm
    · rw [List.getElem?_set_ne hij] at hj
      have hab := blkS_apart hnd hi hj hij
      have ht' := h.slots t (List.mem_of_getElem? hj)
      have hw : SMOk w (fun k => D k ∨ fpA r.a k) t := ⟨ht'.ob, ht'.row, fun r' hr => hwide r' (ht'.parts r' hr), ht'.total, ht'.count, ht'.got, ht'.age, ht'.from0⟩
      exact hw.st st (fun e => e.elim (fun e => hab.1 e.symm) (fun e => hab.2.2.1 e.symm)) (fun e => e.elim (fun e => hab.2.1 e.symm) (fun e => hab.2.2.2 e.symm)) (fun k hk => hD k hk)
  · intro k hk
    exact Nat.lt_of_lt_of_le (hk.elim (h.inD k) (fun hk => (hrf k hk).2)) st.size
  · rw [hbS]; exact h.apart
  · rw [hbS]; exact h.notV
  · rw [hbS]
    intro k hk hd
    rcases hd with hd | hd
    · exact h.notD k hk hd
    · exact (hrf k hd).1 (.inl hk)
  · intro k hk hd
    rcases hd with hd | hd
    · exact h.vD k hk hd
    · exact (hrf k hd).1 (.inr (.inl hk))
end Go.Proofs.Ytoeafacamapofaa
