
/-
  The program's Joiner: a part is laid into a slot.
  The program's Joiner: the plain function.
-/
import Derived.Test.YtoeafacamapofaaJnBegin
namespace Go.Proofs.Ytoeafacamapofaa
open Go.RowKit
set_option linter.unusedVariables false
set_option linter.unusedSimpArgs false

theorem blkS_self {ss : List SM} {i : Nat} {s : SM} (hn : (blkS ss).Nodup) (hi : ss[i]? = some s) : s.p ≠ s.g := by
  induction ss generalizing i with
  | nil => simp at hi
  | cons x r ih =>
    have e : blkS (x :: r) = [x.p, x.g] ++ blkS r := rfl
    rw [e, List.nodup_append] at hn
    cases i with
    | zero =>
      simp at hi
      subst hi
      have := hn.1
      simpa using this
    | succ i => exact ih hn.2.1 hi
theorem blkS_apart {ss : List SM} : ∀ {i j : Nat} {s t : SM}, (blkS ss).Nodup → ss[i]? = some s → ss[j]? = some t → i ≠ j → s.p ≠ t.p ∧ s.p ≠ t.g ∧ s.g ≠ t.p ∧ s.g ≠ t.g := by
  induction ss with
  | nil => intro i j s t _ hi; simp at hi
  | cons x r ih =>
    intro i j s t hn hi hj hij
    have e : blkS (x :: r) = [x.p, x.g] ++ blkS r := rfl
    rw [e, List.nodup_append] at hn
    have key : ∀ (u : SM), u ∈ r → x.p ≠ u.p ∧ x.p ≠ u.g ∧ x.g ≠ u.p ∧ x.g ≠ u.g := fun u hu =>
      ⟨hn.2.2 x.p (by simp) u.p (blkS_mem hu).1, hn.2.2 x.p (by simp) u.g (blkS_mem hu).2, hn.2.2 x.g (by simp) u.p (blkS_mem hu).1, hn.2.2 x.g (by simp) u.g (blkS_mem hu).2⟩
    cases i with
    | zero =>
      cases j with
      | zero => omega
      | succ j =>
        simp at hi
        subst hi
        exact key t (List.mem_of_getElem? hj)
    | succ i =>
      cases j with
      | zero =>
        simp at hj
        subst hj
        obtain ⟨a, b, c, d⟩ := key s (List.mem_of_getElem? hi)
        exact ⟨a.symm, c.symm, b.symm, d.symm⟩
      | succ j => exact ih hn.2.1 hi hj (by omega)
theorem blkS_set {ss : List SM} {i : Nat} {s s' : SM} (hi : ss[i]? = some s) (hp : s'.p = s.p) (hg : s'.g = s.g) : blkS (ss.set i s') = blkS ss := by
  induction ss generalizing i with
  | nil => simp at hi
  | cons x r ih =>
    cases i with
    | zero =>
      simp at hi
      subst hi
      simp [blkS, hp, hg]
    | succ i =>
      show [x.p, x.g] ++ blkS (r.set i s') = [x.p, x.g] ++ blkS r
      rw [ih hi]
theorem map_set_same {α β : Type} (f : α → β) {ss : List α} {i : Nat} {s s' : α} (hi : ss[i]? = some s) (he : f s' = f s) : (ss.set i s').map f = ss.map f := by
  rw [List.map_set, he]
  apply List.ext_getElem?
  intro j
  by_cases h : i = j
  · subst h
    rw [List.getElem?_set_self (by simpa using (List.getElem?_eq_some_iff.1 hi).1)]
    simp [hi]
  · rw [List.getElem?_set_ne h]
theorem fill_len (ps : List PR) (idx : Nat) (h : idx < ps.length) (r : PR) (h0 : ps[idx].bs = []) (h1 : r.bs ≠ []) : ((ps.set idx r).filter (fun r => !r.bs.isEmpty)).length = (ps.filter (fun r => !r.bs.isEmpty)).length + 1 := by
  induction ps generalizing idx with
  | nil => simp at h
  | cons x t ih =>
    cases idx with
    | zero =>
      simp at h0
      rw [List.set_cons_zero, List.filter_cons_of_pos (by simpa using h1), List.filter_cons_of_neg (by simp [h0])]
      simp
    | succ idx =>
      have := ih idx (by simpa using h) (by simpa using h0)
      rw [List.set_cons_succ]
      simp only [List.filter_cons]
      split
      · rw [List.length_cons, List.length_cons, this]
      · exact this
def SM.fill (s : SM) (idx : Nat) (r : PR) : SM := { s with got := s.got + 1, ps := s.ps.set idx r }
theorem Jm.put {w : World} {pj bm : Nat} {V : Value} {D : Nat → Prop} {sl ag : Nat} {ss : List SM} (h : Jm w pj bm V D sl ag ss) {i : Nat} {s : SM} (hi : ss[i]? = some s) {idx : Nat} (hx : idx < s.ps.length) (h0 : s.ps[idx].bs = [])
    (r : PR) (hrb : Bs w r.a r.bs) (hr1 : r.bs ≠ []) (hr2 : r.a ≠ none) (hr3 : r.bs.length ≤ r.c) (hr4 : r.c ≤ maxLen) (hr5 : r.bs.length ≤ 1024) (hrf : ∀ k, fpA r.a k → ¬ fpJ pj bm V D ss k ∧ k < w.heap.size) :
    Jm ((w.setCell ⟨s.g, idx, none⟩ r.val).setCell ⟨s.p, 1, none⟩ (.int .i64 ((s.got + 1 : Nat) : Int))) pj bm V (fun k => D k ∨ fpA r.a k) sl ag (ss.set i (s.fill idx r)) ∧
      St (fun k => k = s.p ∨ k = s.g) w (fun k => k = s.p ∨ k = s.g) ((w.setCell ⟨s.g, idx, none⟩ r.val).setCell ⟨s.p, 1, none⟩ (.int .i64 ((s.got + 1 : Nat) : Int))) := by
  have hsm := List.mem_of_getElem? hi
  have hbk := blkS_mem hsm
  have hap := h.apart
  simp only [List.nodup_cons, List.mem_cons, not_or] at hap
  obtain ⟨⟨hpb, hpj⟩, hbm, hnd⟩ := hap
  have hpg := blkS_self hnd hi
  have hil := (List.getElem?_eq_some_iff.1 hi).1
  have st : St (fun k => k = s.p ∨ k = s.g) w (fun k => k = s.p ∨ k = s.g) ((w.setCell ⟨s.g, idx, none⟩ r.val).setCell ⟨s.p, 1, none⟩ (.int .i64 ((s.got + 1 : Nat) : Int))) :=
    (St.setCell w ⟨s.g, idx, none⟩ r.val (.inr rfl)).trans (St.setCell _ ⟨s.p, 1, none⟩ _ (.inl rfl))
  refine ⟨?_, st⟩
  have hD : ∀ k, (k = s.p ∨ k = s.g) → ¬ (D k ∨ fpA r.a k) := by
    rintro k (rfl | rfl) (hd | hd)
    · exact h.notD s.p (by simp [hbk.1]) hd
    · exact (hrf s.p hd).1 (.inl (by simp [hbk.1]))
    · exact h.notD s.g (by simp [hbk.2]) hd
    · exact (hrf s.g hd).1 (.inl (by simp [hbk.2]))
  have hwide : ∀ r', PROk w D r' → PROk w (fun k => D k ∨ fpA r.a k) r' := fun r' hr => ⟨hr.bs, fun k hk => .inl (hr.d k hk), hr.nil, hr.cap, hr.le, hr.few, hr.len⟩
  have hbS : blkS (ss.set i (s.fill idx r)) = blkS ss := blkS_set hi rfl rfl
  have hnew : PROk w (fun k => D k ∨ fpA r.a k) r := ⟨hrb, fun k hk => .inr hk, ⟨fun e => absurd e hr2, fun e => absurd e hr1⟩, fun e => absurd e hr2, hr3, hr4, hr5⟩
  have hs := h.slots s hsm
  refine ⟨?_, ?_, ?_, ?_, ?_, ?_, ?_, ?_, ?_⟩
  · exact h.ob.move (st.block _ h.ob.lt (fun e => e.elim (fun e => hpj (e ▸ hbk.1)) (fun e => hpj (e ▸ hbk.2))))
  · rw [map_set_same (s' := s.fill idx r) SM.ent hi rfl]
    exact h.mp.st st (fun e => e.elim (fun e => hbm (e ▸ hbk.1)) (fun e => hbm (e ▸ hbk.2)))
  · rw [List.length_set, ← List.flatMap_map, map_set_same (s' := s.fill idx r) SM.key hi rfl, List.flatMap_map]
    exact h.ord.st st (fun k hk hv => hk.elim (fun e => h.notV s.p (by simp [hbk.1]) (e ▸ hv)) (fun e => h.notV s.g (by simp [hbk.2]) (e ▸ hv)))
  · intro t ht
    obtain ⟨j, hj⟩ := List.getElem?_of_mem ht
    by_cases hij : i = j
    · subst hij
      rw [List.getElem?_set_self hil] at hj
      injection hj with hj
      subst hj
      refine ⟨?_, ?_, ?_, hs.total, by simpa [SM.fill] using hs.count, ?_, hs.age, hs.from0⟩
      · have h1 : Ob (w.setCell ⟨s.g, idx, none⟩ r.val) s.p 177 s.cells := hs.ob.move (Below.heap_setCell _ _ _ _ (fun e => hpg e))
        have h2 := h1.set 1 (.int .i64 ((s.got + 1 : Nat) : Int))
        have e : (s.fill idx r).cells = s.cells.setIfInBounds 1 (.int .i64 ((s.got + 1 : Nat) : Int)) := by simp [SM.fill, SM.cells]
        show Ob _ s.p _ (s.fill idx r).cells
        rw [e]
        exact h2
      · have h1 := hs.row.set idx r.val
        have h2 : Ob ((w.setCell ⟨s.g, idx, none⟩ r.val).setCell ⟨s.p, 1, none⟩ (.int .i64 ((s.got + 1 : Nat) : Int))) s.g _ _ := h1.move (Below.heap_setCell _ _ _ _ (fun e => hpg e.symm))
        have e : ((s.fill idx r).ps.map PR.val).toArray = (s.ps.map PR.val).toArray.setIfInBounds idx r.val := by simp [SM.fill, List.map_set]
        show Ob _ s.g _ ((s.fill idx r).ps.map PR.val).toArray
        rw [e]
        exact h2
      · intro r' hr'
        have : r' = r ∨ r' ∈ s.ps := by
          have := List.mem_or_eq_of_mem_set hr'
          exact this.symm.imp id id
        rcases this with rfl | hr'
        · exact hnew.st st (fun k hk => hD k hk)
        · exact (hwide r' (hs.parts r' hr')).st st (fun k hk => hD k hk)
      · show s.got + 1 = _
        rw [hs.got]
        exact (fill_len s.ps idx hx r h0 hr1).symm
    · rw [List.getElem?_set_ne hij] at hj
      have hab := blkS_apart hnd hi hj hij
      have ht' := h.slots t (List.mem_of_getElem? hj)
      have hw : SMOk w (fun k => D k ∨ fpA r.a k) t := ⟨ht'.ob, ht'.row, fun r' hr => hwide r' (ht'.parts r' hr), ht'.total, ht'.count, ht'.got, ht'.age, ht'.from0⟩
      exact hw.st st (fun e => e.elim (fun e => hab.1 e.symm) (fun e => hab.2.2.1 e.symm)) (fun e => e.elim (fun e => hab.2.1 e.symm) (fun e => hab.2.2.2 e.symm)) (fun k hk => hD k hk)
  · intro k hk
    exact Nat.lt_of_lt_of_le (hk.elim (h.inD k) (fun hk => (hrf k hk).2)) st.size
  · rw [hbS]; exact h.apart
  · rw [hbS]; exact h.notV
  · rw [hbS]
    intro k hk hd
    rcases hd with hd | hd
    · exact h.notD k hk hd
    · exact (hrf k hd).1 (.inl hk)
  · intro k hk hd
    rcases hd with hd | hd
    · exact h.vD k hk hd
    · exact (hrf k hd).1 (.inr (.inl hk))
end Go.Proofs.Ytoeafacamapofaa
namespace Go.Proofs.Ytoeafacamapofaa
open Go.RowKit
set_option linter.unusedVariables false
set_option linter.unusedSimpArgs false

/-- laid into so many bytes -/
def layT (t : Nat) (xs : List B8) : List B8 := (xs ++ List.replicate t 0#8).take t
theorem layT_len (t : Nat) (xs : List B8) : (layT t xs).length = t := by unfold layT; simp
theorem layT_nil (t : Nat) : layT t [] = List.replicate t 0#8 := by unfold layT; simp
theorem layT_fit {t : Nat} {xs : List B8} (h : xs.length = t) : layT t xs = xs := by unfold layT; rw [← h]; simp
theorem layT_step (t : Nat) (F xs : List B8) : layT t (F ++ xs) = (layT t F).take (min t F.length) ++ xs.take (min xs.length (t - min t F.length)) ++ (layT t F).drop (min t F.length + min xs.length (t - min t F.length)) := by
  unfold layT
  apply List.ext_getElem?
  intro i
  simp only [List.getElem?_append, List.getElem?_take, List.getElem?_drop, List.getElem?_replicate, List.length_append, List.length_take, List.length_replicate]
  grind
structure TP where
  out : List B8
  whole : Bool
  er : Int
  ss : List PS
def keepP (q : Nm → Bool) (ss : List PS) : List PS := ss.filter (fun s => !q s.key)
def srcP (a : Int) (ss : List PS) : Nat := (ss.filter (fun s => decide (s.key.1 = a))).length
def firstP (a : Int) (ss : List PS) : Nm := ((ss.find? (fun s => decide (s.key.1 = a))).map (·.key)).getD (0, 0)
def beginP (sl : Nat) (x : Nm) (ss : List PS) : List PS := if sl ≤ srcP x.1 ss then keepP (fun y => decide (y = firstP x.1 ss)) ss else ss
def newP (x : Nm) (total count : Nat) : PS := ⟨x, total, 0, 0, List.replicate count []⟩
def PS.fill (s : PS) (i : Nat) (p : List B8) : PS := { s with got := s.got + 1, parts := s.parts.set i p }
def putP (k : Nm) (t : PS) (ss : List PS) : List PS := ss.map (fun s => if s.key = k then t else s)
def getP (k : Nm) (ss : List PS) : Option PS := ss.find? (fun s => decide (s.key = k))
def fillP (ss : List PS) (k : Nm) (f : Fg) : TP :=
  match getP k ss with
  | none => ⟨[], false, 0, ss⟩
  | some s =>
    if s.total ≠ f.total ∨ s.parts.length ≠ f.count then ⟨[], false, 44, ss⟩
    else if s.parts.getD f.index [] ≠ [] then ⟨[], false, if s.parts.getD f.index [] = f.part then 0 else 44, ss⟩
    else if s.got + 1 < f.count then ⟨[], false, 0, putP k (s.fill f.index f.part) ss⟩
    else ⟨layT s.total (s.fill f.index f.part).parts.flatten, true, 0, keepP (fun y => decide (y = k)) ss⟩
def openP (sl : Nat) (ss : List PS) (k : Nm) (f : Fg) : List PS :=
  match getP k ss with
  | some _ => ss
  | none => beginP sl k ss ++ [newP k f.total f.count]
def takeP (sl : Nat) (ss : List PS) (frm : Int) (d : List B8) : TP :=
  if frm = 255 then ⟨[], false, 45, ss⟩
  else if lookE d ≠ 0 then ⟨[], false, lookE d, ss⟩
  else if (lookF d).count = 1 then ⟨(lookF d).part, true, 0, ss⟩
  else fillP (openP sl ss (frm, ((lookF d).id.toNat : Int)) (lookF d)) (frm, ((lookF d).id.toNat : Int)) (lookF d)
-- the memory's lists tell the plain ones
theorem keepS_pl (q : Nm → Bool) (ss : List SM) : (keepS q ss).map SM.pl = keepP q (ss.map SM.pl) := by
  unfold keepS keepP
  rw [List.filter_map]
  rfl
theorem srcN_pl (a : Int) (ss : List SM) : srcP a (ss.map SM.pl) = srcN a ss := by
  unfold srcP srcN
  rw [List.filter_map, List.length_map]
  rfl
theorem firstK_pl (a : Int) (ss : List SM) : firstP a (ss.map SM.pl) = firstK a ss := by
  unfold firstP firstK
  rw [List.find?_map, Option.map_map]
  rfl
theorem beginS_pl (sl : Nat) (x : Nm) (ss : List SM) : (beginS sl x ss).map SM.pl = beginP sl x (ss.map SM.pl) := by
  unfold beginS beginP
  rw [srcN_pl, firstK_pl]
  split
  · rw [keepS_pl]
  · rfl
theorem newSM_pl (x : Nm) (p g total count : Nat) : (newSM x p g total count).pl = newP x total count := by simp [newSM, SM.pl, newP]
theorem getS_pl (k : Nm) (ss : List SM) : getP k (ss.map SM.pl) = (getS k ss).map SM.pl := by
  unfold getP getS
  rw [List.find?_map]
  rfl
theorem fill_pl (s : SM) (i : Nat) (r : PR) : (s.fill i r).pl = s.pl.fill i r.bs := by simp [SM.fill, SM.pl, PS.fill, List.map_set]
theorem set_pl {ss : List SM} (hn : (ss.map (·.key)).Nodup) {i : Nat} {s t : SM} (hi : ss[i]? = some s) : (ss.set i t).map SM.pl = putP s.key t.pl (ss.map SM.pl) := by
  unfold putP
  rw [List.map_map, List.map_set]
  apply List.ext_getElem?
  intro j
  have hil := (List.getElem?_eq_some_iff.1 hi).1
  by_cases h : i = j
  · subst h
    rw [List.getElem?_set_self (by simpa using hil)]
    simp [hi, SM.pl]
  · rw [List.getElem?_set_ne h]
    cases hj : ss[j]? with
    | none => simp [hj]
    | some u =>
      have hne : u.key ≠ s.key := by
        intro e
        have hjl := (List.getElem?_eq_some_iff.1 hj).1
        have h1 := List.getElem?_inj (i := j) (j := i) (l := ss.map (·.key)) (by simpa using hjl) hn
        exact h (h1.1 (by simp [hj, hi, e])).symm
      have hne' : ¬ (SM.pl u).key = s.key := hne
      simp [hj, hne']
end Go.Proofs.Ytoeafacamapofaa
