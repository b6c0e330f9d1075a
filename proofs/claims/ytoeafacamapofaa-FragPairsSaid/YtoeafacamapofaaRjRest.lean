
/-
  The reference's Joiner, plain: its slots, its Take; how they answer to the program's.
  The reference's Joiner, plain: its Take answers as the program's.
  The reference's Joiner, plain: Tick, Forget, Tell answer as the program's.
-/
import Derived.Test.YtoeafacamapofaaJnOld
import Derived.Test.YtoeafacamapofaaJnSlots
namespace Go.Proofs.Ytoeafacamapofaa
open Go.RowKit
set_option linter.unusedVariables false
set_option linter.unusedSimpArgs false

/-- a slot of the reference's: the fragments as they came -/
structure RSl where
  key : Nm
  age : Nat
  l : List Fg
/-- the last of the first i slots that has this key; how many of a source; its first one -/
def atT (k : Nm) (rs : List RSl) : Nat → Int
  | 0 => -1
  | i + 1 => if (rs[i]?.map RSl.key) = some k then (i : Int) else atT k rs i
def hadT (a : Int) (rs : List RSl) : Nat → Nat
  | 0 => 0
  | i + 1 => if (rs[i]?.map fun r => r.key.1) = some a then hadT a rs i + 1 else hadT a rs i
def firstT (a : Int) (rs : List RSl) : Nat → Int
  | 0 => -1
  | i + 1 => if (rs[i]?.map fun r => r.key.1) = some a ∧ firstT a rs i < 0 then (i : Int) else firstT a rs i
/-- the packet of a slot that has all its parts -/
def wholeR (l : List Fg) : List B8 := ((List.range l.length).map fun i => ((l.filter (fun g => decide (g.index = i))).map (·.part)).flatten).flatten
structure RTP where
  out : List B8
  whole : Bool
  er : Int
  rs : List RSl
def rAdd (rs : List RSl) (i : Nat) (f : Fg) : RTP :=
  match rs[i]? with
  | none => ⟨[], false, 0, rs⟩
  | some s =>
    if (s.l.map (·.total)).headD 0 ≠ f.total ∨ (s.l.map (·.count)).headD 0 ≠ f.count then ⟨[], false, 44, rs⟩
    else match s.l.find? (fun g => decide (g.index = f.index)) with
      | some g => ⟨[], false, if g.part = f.part then 0 else 44, rs⟩
      | none => if s.l.length + 1 < f.count then ⟨[], false, 0, rs.set i { s with l := s.l ++ [f] }⟩ else ⟨wholeR (s.l ++ [f]), true, 0, rs.eraseIdx i⟩
def rOpen (sl : Nat) (rs : List RSl) (k : Nm) (f : Fg) : List RSl :=
  (if sl ≤ hadT k.1 rs rs.length then rs.eraseIdx (firstT k.1 rs rs.length).toNat else rs) ++ [⟨k, 0, [f]⟩]
def rTake (sl : Nat) (rs : List RSl) (frm : Int) (d : List B8) : RTP :=
  if frm = 255 then ⟨[], false, 45, rs⟩
  else if lookE d ≠ 0 then ⟨[], false, lookE d, rs⟩
  else if (lookF d).count = 1 then ⟨(lookF d).part, true, 0, rs⟩
  else if atT (frm, ((lookF d).id.toNat : Int)) rs rs.length < 0 then ⟨[], false, 0, rOpen sl rs (frm, ((lookF d).id.toNat : Int)) (lookF d)⟩
  else rAdd rs (atT (frm, ((lookF d).id.toNat : Int)) rs rs.length).toNat (lookF d)
def rTick (ag : Nat) (rs : List RSl) : List RSl := (rs.map fun r => { r with age := r.age + 1 }).filter fun r => decide (r.age < ag)
def rForget (a : Int) (rs : List RSl) : List RSl := rs.filter fun r => !decide (r.key.1 = a)
def RSl.tell (r : RSl) : FS := ⟨r.key.1, r.key.2, r.l.length, (r.l.map (·.count)).headD 0, r.age⟩
/-- a slot of the program's and one of the reference's hold the same -/
structure RelS (s : PS) (r : RSl) : Prop where
  key : s.key = r.key
  age : s.age = r.age
  got : s.got = r.l.length
  ne : r.l ≠ []
  same : ∀ g ∈ r.l, g.total = s.total ∧ g.count = s.parts.length ∧ shapedN g.total g.count g.index g.part.length ∧ 1 ≤ g.part.length
  inj : (r.l.map (·.index)).Nodup
  parts : ∀ g ∈ r.l, s.parts.getD g.index [] = g.part
  none : ∀ i, i < s.parts.length → (∀ g ∈ r.l, g.index ≠ i) → s.parts.getD i [] = []
  few : r.l.length < s.parts.length
structure Rel (ss : List PS) (rs : List RSl) : Prop where
  len : ss.length = rs.length
  each : ∀ (i : Nat) (s : PS) (r : RSl), ss[i]? = some s → rs[i]? = some r → RelS s r
  keys : (ss.map PS.key).Nodup
theorem Rel.nil : Rel [] [] := ⟨rfl, fun i s r h => by simp at h, by simp⟩
theorem Rel.key {ss : List PS} {rs : List RSl} (h : Rel ss rs) (i : Nat) : rs[i]?.map RSl.key = ss[i]?.map PS.key := by
  by_cases hi : i < ss.length
  · have hr : i < rs.length := by rw [← h.len]; exact hi
    rw [List.getElem?_eq_getElem hi, List.getElem?_eq_getElem hr]
    simp [(h.each i ss[i] rs[i] (List.getElem?_eq_getElem hi) (List.getElem?_eq_getElem hr)).key]
  · have hl := h.len
    have e1 : ss[i]? = none := List.getElem?_eq_none (by omega)
    have e2 : rs[i]? = none := List.getElem?_eq_none (by omega)
    rw [e1, e2]
    rfl
theorem key_at {ss : List PS} (hn : (ss.map PS.key).Nodup) {i j : Nat} {s t : PS} (hi : ss[i]? = some s) (hj : ss[j]? = some t) (hk : s.key = t.key) : i = j := by
  have hil := (List.getElem?_eq_some_iff.1 hi).1
  exact (List.getElem?_inj (i := i) (j := j) (l := ss.map PS.key) (by simpa using hil) hn).1 (by simp [hi, hj, hk])
/-- the slot of a key is dropped: the place is -/
theorem keep_at {ss : List PS} (hn : (ss.map PS.key).Nodup) {i : Nat} {s : PS} (hi : ss[i]? = some s) : keepP (fun y => decide (y = s.key)) ss = ss.eraseIdx i := by
  induction ss generalizing i with
  | nil => simp at hi
  | cons t r ih =>
    rw [List.map_cons, List.nodup_cons] at hn
    cases i with
    | zero =>
      simp at hi
      subst hi
      unfold keepP
      rw [List.filter_cons]
      have h1 : (!decide (t.key = t.key)) = false := by simp
      rw [h1]
      simp only [Bool.false_eq_true, if_false, List.eraseIdx_cons_zero]
      rw [List.filter_eq_self]
      intro u hu
      have : ¬ u.key = t.key := fun e => hn.1 (List.mem_map.2 ⟨u, hu, e⟩)
      simp [this]
    | succ i =>
      have hi' : r[i]? = some s := by simpa using hi
      have hne : ¬ t.key = s.key := fun e => hn.1 (List.mem_map.2 ⟨s, List.mem_of_getElem? hi', e.symm⟩)
      have := ih hn.2 hi'
      unfold keepP at this ⊢
      rw [List.filter_cons]
      have h1 : (!decide (t.key = s.key)) = true := by simp [hne]
      rw [h1, if_pos rfl, this, List.eraseIdx_cons_succ]
theorem put_at {ss : List PS} (hn : (ss.map PS.key).Nodup) {i : Nat} {s t : PS} (hi : ss[i]? = some s) : putP s.key t ss = ss.set i t := by
  unfold putP
  apply List.ext_getElem?
  intro j
  have hil := (List.getElem?_eq_some_iff.1 hi).1
  rw [List.getElem?_map]
  by_cases e : i = j
  · subst e
    rw [List.getElem?_set_self hil, hi]
    simp
  · rw [List.getElem?_set_ne e]
    cases hj : ss[j]? with
    | none => rfl
    | some u =>
      have : ¬ u.key = s.key := fun h => e (key_at hn hi hj h.symm)
      simp [this]
theorem get_at {ss : List PS} (hn : (ss.map PS.key).Nodup) {i : Nat} {s : PS} (hi : ss[i]? = some s) : getP s.key ss = some s := by
  cases h : getP s.key ss with
  | none => exact absurd rfl (getP_none.1 h s (List.mem_of_getElem? hi))
  | some u =>
    obtain ⟨h1, h2⟩ := getP_key h
    obtain ⟨j, hj⟩ := List.getElem?_of_mem h2
    have := key_at hn hj hi h1
    subst this
    rw [hi] at hj
    exact hj.symm
theorem Rel.erase {ss : List PS} {rs : List RSl} (h : Rel ss rs) (i : Nat) : Rel (ss.eraseIdx i) (rs.eraseIdx i) := by
  refine ⟨by rw [List.length_eraseIdx, List.length_eraseIdx, h.len], fun j s r hs hr => ?_, ?_⟩
  · rw [List.getElem?_eraseIdx] at hs hr
    split at hs
    · rw [if_pos (by assumption)] at hr
      exact h.each j s r hs hr
    · rw [if_neg (by assumption)] at hr
      exact h.each (j + 1) s r hs hr
  · exact h.keys.sublist ((List.eraseIdx_sublist _ _).map _)
theorem Rel.set {ss : List PS} {rs : List RSl} (h : Rel ss rs) {i : Nat} {s t : PS} {r : RSl} (hi : ss[i]? = some s) (hk : t.key = s.key) (ht : RelS t r) : Rel (ss.set i t) (rs.set i r) := by
  refine ⟨by simp [h.len], fun j u v hu hv => ?_, ?_⟩
  · by_cases e : i = j
    · subst e
      have hl := (List.getElem?_eq_some_iff.1 hi).1
      rw [List.getElem?_set_self hl] at hu
      rw [List.getElem?_set_self (by rw [← h.len]; exact hl)] at hv
      rw [← Option.some.inj hu, ← Option.some.inj hv]
      exact ht
    · rw [List.getElem?_set_ne e] at hu hv
      exact h.each j u v hu hv
  · have : (ss.set i t).map PS.key = ss.map PS.key := by
      rw [List.map_set, hk]
      apply List.ext_getElem?
      intro j
      by_cases e : i = j
      · subst e
        have hl := (List.getElem?_eq_some_iff.1 hi).1
        rw [List.getElem?_set_self (by simpa using hl)]
        simp [hi]
      · rw [List.getElem?_set_ne e]
    rw [this]
    exact h.keys
-- what find tells
theorem atT_neg {k : Nm} {rs : List RSl} : ∀ n, (∀ i, i < n → rs[i]?.map RSl.key ≠ some k) → atT k rs n = -1
  | 0, _ => rfl
  | n + 1, h => by
    unfold atT
    rw [if_neg (h n (by omega))]
    exact atT_neg n (fun i hi => h i (by omega))
theorem atT_some {k : Nm} {rs : List RSl} {j : Nat} (hj : rs[j]?.map RSl.key = some k) (hu : ∀ i, rs[i]?.map RSl.key = some k → i = j) : ∀ n, j < n → atT k rs n = (j : Int)
  | 0, h => by omega
  | n + 1, h => by
    unfold atT
    by_cases e : rs[n]?.map RSl.key = some k
    · rw [if_pos e, hu n e]
    · rw [if_neg e]
      exact atT_some hj hu n (by
        rcases Nat.lt_or_eq_of_le (Nat.lt_succ_iff.1 h) with h1 | h1
        · exact h1
        · exact absurd (h1 ▸ hj) e)
theorem Rel.at {ss : List PS} {rs : List RSl} (h : Rel ss rs) (k : Nm) : (getP k ss = none ∧ atT k rs rs.length = -1) ∨ ∃ (i : Nat) (s : PS) (r : RSl), getP k ss = some s ∧ ss[i]? = some s ∧ rs[i]? = some r ∧ s.key = k ∧ atT k rs rs.length = (i : Int) := by
  cases hg : getP k ss with
  | none =>
    left
    refine ⟨rfl, atT_neg _ (fun i hi e => ?_)⟩
    rw [h.key i] at e
    obtain ⟨s, hs, hk⟩ := Option.map_eq_some_iff.1 e
    exact getP_none.1 hg s (List.mem_of_getElem? hs) hk
  | some s =>
    right
    obtain ⟨hk, hm⟩ := getP_key hg
    obtain ⟨i, hi⟩ := List.getElem?_of_mem hm
    have hil := (List.getElem?_eq_some_iff.1 hi).1
    have hir : i < rs.length := by rw [← h.len]; exact hil
    refine ⟨i, s, rs[i], rfl, hi, List.getElem?_eq_getElem hir, hk, atT_some ?_ (fun j hj => ?_) _ hir⟩
    · rw [h.key i, hi]
      simp [hk]
    · rw [h.key j] at hj
      obtain ⟨t, ht, htk⟩ := Option.map_eq_some_iff.1 hj
      exact key_at h.keys ht hi (by rw [htk, hk])
theorem hadT_take (a : Int) (rs : List RSl) : ∀ n, n ≤ rs.length → hadT a rs n = ((rs.take n).filter (fun r => decide (r.key.1 = a))).length
  | 0, _ => by simp [hadT]
  | n + 1, h => by
    unfold hadT
    rw [List.take_succ_eq_append_getElem (by omega), List.filter_append, List.length_append, ← hadT_take a rs n (by omega), List.getElem?_eq_getElem (by omega)]
    by_cases e : rs[n].key.1 = a
    · simp [e]
    · simp [e]
theorem Rel.had {ss : List PS} {rs : List RSl} (h : Rel ss rs) (a : Int) : srcP a ss = hadT a rs rs.length := by
  rw [hadT_take a rs _ (Nat.le_refl _), List.take_length]
  have hk : ss.map PS.key = rs.map RSl.key := by
    apply List.ext_getElem?
    intro i
    rw [List.getElem?_map, List.getElem?_map, h.key i]
  have h1 : srcP a ss = ((ss.map PS.key).filter (fun y => decide (y.1 = a))).length := by
    unfold srcP
    rw [List.filter_map, List.length_map]
    rfl
  rw [h1, hk, List.filter_map, List.length_map]
  rfl
theorem firstT_at (a : Int) (rs : List RSl) : ∀ n, n ≤ rs.length → (firstT a rs n = -1 ∧ ∀ i (h : i < rs.length), i < n → rs[i].key.1 ≠ a) ∨ ∃ (i : Nat) (h : i < rs.length), i < n ∧ firstT a rs n = (i : Int) ∧ rs[i].key.1 = a ∧ ∀ j (hj : j < rs.length), j < i → rs[j].key.1 ≠ a
  | 0, _ => .inl ⟨rfl, fun i h hi => by omega⟩
  | n + 1, hn => by
    have hl : n < rs.length := by omega
    unfold firstT
    rw [List.getElem?_eq_getElem hl]
    rcases firstT_at a rs n (by omega) with ⟨h1, h2⟩ | ⟨i, hi, hin, h1, h2, h3⟩
    · by_cases e : rs[n].key.1 = a
      · right
        refine ⟨n, hl, by omega, ?_, e, fun j hj hjn => h2 j hj hjn⟩
        rw [if_pos ⟨by simp [e], by omega⟩]
      · left
        refine ⟨by rw [if_neg (by simp [e])]; exact h1, fun i h hi => ?_⟩
        by_cases ei : i = n
        · subst ei; exact e
        · exact h2 i h (by omega)
    · right
      refine ⟨i, hi, by omega, ?_, h2, h3⟩
      rw [if_neg (fun h => by omega)]
      exact h1
theorem Rel.first {ss : List PS} {rs : List RSl} (h : Rel ss rs) (a : Int) (h1 : 1 ≤ srcP a ss) : ∃ (i : Nat) (s : PS), firstT a rs rs.length = (i : Int) ∧ ss[i]? = some s ∧ firstP a ss = s.key := by
  obtain ⟨_, t, ht, _⟩ := firstP_in h1
  have hex : ∃ s ∈ ss, s.key.1 = a := by
    unfold srcP at h1
    obtain ⟨s, hs⟩ := List.exists_mem_of_length_pos (show 0 < (ss.filter (fun s => decide (s.key.1 = a))).length by omega)
    exact ⟨s, (List.mem_filter.1 hs).1, by simpa using (List.mem_filter.1 hs).2⟩
  have hkey : ∀ (i : Nat) (hi : i < rs.length), rs[i].key = (ss[i]'(by rw [h.len]; exact hi)).key := by
    intro i hi
    have := h.key i
    rw [List.getElem?_eq_getElem hi, List.getElem?_eq_getElem (by rw [h.len]; exact hi)] at this
    simpa using this
  rcases firstT_at a rs rs.length (Nat.le_refl _) with ⟨_, h2⟩ | ⟨i, hi, _, e1, e2, e3⟩
  · obtain ⟨s, hs, hsa⟩ := hex
    obtain ⟨j, hj⟩ := List.getElem?_of_mem hs
    have hjl := (List.getElem?_eq_some_iff.1 hj).1
    have hjr : j < rs.length := by rw [← h.len]; exact hjl
    refine absurd ?_ (h2 j hjr hjr)
    rw [hkey j hjr]
    have : ss[j] = s := by rw [List.getElem?_eq_getElem hjl] at hj; exact Option.some.inj hj
    rw [this, hsa]
  · have hil : i < ss.length := by rw [h.len]; exact hi
    refine ⟨i, ss[i], e1, List.getElem?_eq_getElem hil, ?_⟩
    unfold firstP
    have hf : ss.find? (fun s => decide (s.key.1 = a)) = some ss[i] := by
      rw [List.find?_eq_some_iff_getElem]
      refine ⟨by simpa [← hkey i hi] using e2, i, hil, rfl, fun j hj => ?_⟩
      have hjr : j < rs.length := by omega
      have := e3 j hjr hj
      rw [hkey j hjr] at this
      simpa using this
    rw [hf]
    rfl
end Go.Proofs.Ytoeafacamapofaa
namespace Go.Proofs.Ytoeafacamapofaa
open Go.RowKit
set_option linter.unusedVariables false
set_option linter.unusedSimpArgs false

theorem Rel.snoc {ss : List PS} {rs : List RSl} (h : Rel ss rs) {s : PS} {r : RSl} (hr : RelS s r) (hn : ∀ t ∈ ss, t.key ≠ s.key) : Rel (ss ++ [s]) (rs ++ [r]) := by
  refine ⟨by simp [h.len], fun i t u ht hu => ?_, ?_⟩
  · by_cases hi : i < ss.length
    · rw [List.getElem?_append_left hi] at ht
      rw [List.getElem?_append_left (by rw [← h.len]; exact hi)] at hu
      exact h.each i t u ht hu
    · have hl := h.len
      rw [List.getElem?_append_right (by omega)] at ht hu
      by_cases e : i = ss.length
      · subst e
        rw [Nat.sub_self] at ht
        rw [hl, Nat.sub_self] at hu
        simp at ht hu
        rw [← ht, ← hu]
        exact hr
      · rw [List.getElem?_eq_none (by simp; omega)] at ht
        cases ht
  · rw [List.map_append, List.nodup_append]
    refine ⟨h.keys, by simp, fun a ha b hb => ?_⟩
    obtain ⟨t, ht, rfl⟩ := List.mem_map.1 ha
    simp at hb
    rw [hb]
    exact hn t ht
theorem Rel.begin {ss : List PS} {rs : List RSl} (h : Rel ss rs) {sl : Nat} (hsl : 1 ≤ sl) (k : Nm) : Rel (beginP sl k ss) (if sl ≤ hadT k.1 rs rs.length then rs.eraseIdx (firstT k.1 rs rs.length).toNat else rs) := by
  unfold beginP
  rw [h.had]
  by_cases e : sl ≤ hadT k.1 rs rs.length
  · rw [if_pos e, if_pos e]
    obtain ⟨i, s, e1, e2, e3⟩ := h.first k.1 (by rw [h.had]; omega)
    rw [e3, e1, keep_at h.keys e2]
    exact h.erase i
  · rw [if_neg e, if_neg e]
    exact h
/-- the first fragment in a new slot: any fragment that is right -/
theorem fill_newF {bs : List PS} (k : Nm) (f : Fg) (hi : f.index < f.count) (hC : 2 ≤ f.count) (hb : getP k bs = none) :
    fillP (bs ++ [newP k f.total f.count]) k f = ⟨[], false, 0, bs ++ [(newP k f.total f.count).fill f.index f.part]⟩ := by
  have hg : getP k (bs ++ [newP k f.total f.count]) = some (newP k f.total f.count) := by
    rw [getP_app_none hb]
    simp [getP, newP]
  unfold fillP
  rw [hg]
  simp only
  have hz1 : ¬ ((newP k f.total f.count).total ≠ f.total ∨ (newP k f.total f.count).parts.length ≠ f.count) := by simp [newP]
  have hz2 : ¬ ((newP k f.total f.count).parts.getD f.index [] ≠ []) := by simp [newP, List.getD_eq_getElem?_getD, hi]
  have hz3 : (newP k f.total f.count).got + 1 < f.count := by show 0 + 1 < f.count; omega
  rw [if_neg hz1, if_neg hz2, if_pos hz3, put_app, put_none hb]
  unfold putP
  rw [List.map_cons, List.map_nil, if_pos (show (newP k f.total f.count).key = k from rfl)]
theorem getD_setL {ps : List (List B8)} {i j : Nat} {p : List B8} (hi : i < ps.length) : (ps.set i p).getD j [] = if j = i then p else ps.getD j [] := by
  rw [List.getD_eq_getElem?_getD, List.getD_eq_getElem?_getD]
  by_cases e : i = j
  · subst e
    rw [List.getElem?_set_self hi, if_pos rfl]
    rfl
  · rw [List.getElem?_set_ne e, if_neg (fun h => e h.symm)]
theorem RelS.new (k : Nm) (f : Fg) (hs : shapedN f.total f.count f.index f.part.length) (hp : 1 ≤ f.part.length) (hC : 2 ≤ f.count) : RelS ((newP k f.total f.count).fill f.index f.part) ⟨k, 0, [f]⟩ := by
  have hi : f.index < f.count := hs.2.2.2.2.1
  have hlen : ((newP k f.total f.count).fill f.index f.part).parts.length = f.count := by simp [PS.fill, newP]
  refine ⟨rfl, rfl, rfl, by simp, fun g hg => ?_, by simp, fun g hg => ?_, fun i hi2 hn => ?_, ?_⟩
  · rw [List.mem_singleton.1 hg]
    exact ⟨rfl, hlen.symm, hs, hp⟩
  · rw [List.mem_singleton.1 hg]
    show ((List.replicate f.count []).set f.index f.part).getD f.index [] = f.part
    rw [getD_setL (by simpa using hi), if_pos rfl]
  · show ((List.replicate f.count []).set f.index f.part).getD i [] = []
    rw [getD_setL (by simpa using hi), if_neg (fun e => hn f (by simp) e.symm)]
    rw [List.getD_eq_getElem?_getD, List.getElem?_replicate]
    split <;> rfl
  · rw [hlen]
    show 1 < f.count
    omega
theorem RelS.add {s : PS} {r : RSl} (h : RelS s r) (f : Fg) (hs : shapedN f.total f.count f.index f.part.length) (hp : 1 ≤ f.part.length) (ht : f.total = s.total) (hc : f.count = s.parts.length) (hn : ∀ g ∈ r.l, g.index ≠ f.index) (hlt : r.l.length + 1 < f.count) :
    RelS (s.fill f.index f.part) { r with l := r.l ++ [f] } := by
  have hi : f.index < s.parts.length := by rw [← hc]; exact hs.2.2.2.2.1
  have hlen : (s.fill f.index f.part).parts.length = s.parts.length := by simp [PS.fill]
  refine ⟨h.key, h.age, ?_, by simp, fun g hg => ?_, ?_, fun g hg => ?_, fun i hi2 hnn => ?_, ?_⟩
  · show s.got + 1 = (r.l ++ [f]).length
    rw [h.got, List.length_append]
    rfl
  · rw [hlen]
    rcases List.mem_append.1 hg with hg | hg
    · exact h.same g hg
    · rw [List.mem_singleton.1 hg]
      exact ⟨ht, hc, hs, hp⟩
  · rw [List.map_append, List.nodup_append]
    refine ⟨h.inj, by simp, fun a ha b hb => ?_⟩
    obtain ⟨g, hg, rfl⟩ := List.mem_map.1 ha
    simp at hb
    rw [hb]
    exact hn g hg
  · show (s.parts.set f.index f.part).getD g.index [] = g.part
    rw [getD_setL hi]
    rcases List.mem_append.1 hg with hg | hg
    · rw [if_neg (hn g hg)]
      exact h.parts g hg
    · rw [List.mem_singleton.1 hg, if_pos rfl]
  · show (s.parts.set f.index f.part).getD i [] = []
    rw [getD_setL hi, if_neg (fun e => hnn f (by simp) e.symm)]
    exact h.none i (by rw [← hlen]; exact hi2) (fun g hg => hnn g (List.mem_append.2 (.inl hg)))
  · rw [hlen, ← hc]
    show (r.l ++ [f]).length < f.count
    rw [List.length_append]
    exact hlt
theorem RelS.head {s : PS} {r : RSl} (h : RelS s r) : (r.l.map (·.total)).headD 0 = s.total ∧ (r.l.map (·.count)).headD 0 = s.parts.length := by
  obtain ⟨g, t, hl⟩ := List.exists_cons_of_ne_nil h.ne
  have := h.same g (by rw [hl]; simp)
  rw [hl]
  exact ⟨this.1, this.2.1⟩
-- all parts have come
theorem nodup_le : ∀ (C : Nat) (l : List Nat), l.Nodup → (∀ x ∈ l, x < C) → l.length ≤ C
  | 0, l, _, hb => by
    cases l with
    | nil => simp
    | cons a l => exact absurd (hb a (by simp)) (by omega)
  | C + 1, l, hn, hb => by
    by_cases h : C ∈ l
    · have h1 := nodup_le C (l.erase C) (hn.erase C) (fun x hx => by
        have h2 := (hn.mem_erase_iff).1 hx
        have := hb x h2.2
        have := h2.1
        omega)
      rw [List.length_erase_of_mem h] at h1
      omega
    · have := nodup_le C l hn (fun x hx => by
        have := hb x hx
        by_cases e : x = C
        · exact absurd (e ▸ hx) h
        · omega)
      omega
theorem full_hit {C : Nat} {l : List Nat} (hn : l.Nodup) (hb : ∀ x ∈ l, x < C) (hl : l.length = C) {i : Nat} (hi : i < C) : i ∈ l := by
  refine Classical.byContradiction (fun h => ?_)
  have := nodup_le C (i :: l) (List.nodup_cons.2 ⟨h, hn⟩) (fun x hx => by
    rcases List.mem_cons.1 hx with rfl | hx
    · exact hi
    · exact hb x hx)
  simp at this
  omega
theorem filter_one : ∀ {l : List Fg} {g : Fg}, (l.map (·.index)).Nodup → g ∈ l → l.filter (fun x => decide (x.index = g.index)) = [g]
  | [], g, _, h => by simp at h
  | a :: l, g, hn, h => by
    rw [List.map_cons, List.nodup_cons] at hn
    rw [List.filter_cons]
    rcases List.mem_cons.1 h with rfl | h
    · rw [decide_eq_true rfl, if_pos rfl]
      congr 1
      rw [List.filter_eq_nil_iff]
      intro x hx
      have : ¬ x.index = g.index := fun e => hn.1 (List.mem_map.2 ⟨x, hx, e⟩)
      simp [this]
    · have hne : ¬ a.index = g.index := fun e => hn.1 (List.mem_map.2 ⟨g, h, e.symm⟩)
      rw [decide_eq_false hne]
      simp only [Bool.false_eq_true, if_false]
      exact filter_one hn.2 h
theorem range_getD (ps : List (List B8)) : (List.range ps.length).map (fun i => ps.getD i []) = ps := by
  apply List.ext_getElem?
  intro i
  rw [List.getElem?_map]
  by_cases h : i < ps.length
  · rw [List.getElem?_range h]
    show some (ps.getD i []) = ps[i]?
    rw [List.getD_eq_getElem?_getD, List.getElem?_eq_getElem h]
    rfl
  · rw [List.getElem?_eq_none (by simpa using h), List.getElem?_eq_none (by omega)]
    rfl
theorem flat_len2 (f : Nat → List B8) (S : Nat) : ∀ n, (∀ i, i < n → (f i).length = S) → ((List.range n).map f).flatten.length = n * S
  | 0, _ => by simp
  | n + 1, h => by
    rw [List.range_succ, List.map_append, List.flatten_append, List.length_append, flat_len2 f S n (fun i hi => h i (by omega)), Nat.succ_mul]
    simp [h n (by omega)]
theorem whole_eq {ps : List (List B8)} {l : List Fg} {total : Nat} (hl : l.length = ps.length) (hn : (l.map (·.index)).Nodup) (hs : ∀ g ∈ l, g.total = total ∧ g.count = ps.length ∧ shapedN g.total g.count g.index g.part.length) (hp : ∀ g ∈ l, ps.getD g.index [] = g.part) (h1 : 1 ≤ ps.length) :
    layT total ps.flatten = wholeR l := by
  have hhit : ∀ i, i < ps.length → ∃ g ∈ l, g.index = i := fun i hi => by
    obtain ⟨g, hg, e⟩ := List.mem_map.1 (full_hit (C := ps.length) hn (fun x hx => by
      obtain ⟨g, hg, rfl⟩ := List.mem_map.1 hx
      have := hs g hg
      have := this.2.2.2.2.2.2.1
      omega) (by rw [List.length_map, hl]) hi)
    exact ⟨g, hg, e⟩
  have hw : wholeR l = ps.flatten := by
    unfold wholeR
    conv => rhs; rw [← range_getD ps]
    rw [hl]
    congr 1
    apply List.map_congr_left
    intro i hi
    obtain ⟨g, hg, e⟩ := hhit i (List.mem_range.1 hi)
    subst e
    rw [filter_one hn hg, hp g hg]
    simp
  have hlen : ps.flatten.length = total := by
    obtain ⟨g0, hg0, _⟩ := hhit 0 (by omega)
    have h0 := hs g0 hg0
    have hsh := h0.2.2
    rw [h0.1, h0.2.1] at hsh
    have hpl : ∀ i, i < ps.length → (ps.getD i []).length = if i < ps.length - 1 then sizeN total ps.length else total - (ps.length - 1) * sizeN total ps.length := fun i hi => by
      obtain ⟨g, hg, e⟩ := hhit i hi
      have h2 := hs g hg
      have h3 := h2.2.2.2.2.2.2.2.2
      rw [h2.1, h2.2.1, e] at h3
      rw [← e, hp g hg, h3, e]
    conv => lhs; rw [← range_getD ps]
    obtain ⟨c, hc⟩ : ∃ c, ps.length = c + 1 := ⟨ps.length - 1, by omega⟩
    rw [hc] at hpl hsh ⊢
    have hfl := flat_len2 (fun i => ps.getD i []) (sizeN total (c + 1)) c (fun i hi => by rw [hpl i (by omega), if_pos (by omega)])
    rw [List.range_succ, List.map_append, List.flatten_append, List.length_append, hfl]
    have hlast := hpl c (by omega)
    rw [if_neg (by omega)] at hlast
    simp only [Nat.add_sub_cancel] at hlast
    have hlt : c * sizeN total (c + 1) < total := hsh.2.2.2.2.2.1
    simp only [List.map_cons, List.map_nil, List.flatten_cons, List.flatten_nil, List.append_nil, hlast]
    generalize c * sizeN total (c + 1) = z at *
    omega
  rw [layT_fit hlen, hw]
/-- THE LAW: the two Joiners answer alike -/
theorem Rel.take {ss : List PS} {rs : List RSl} (h : Rel ss rs) {sl : Nat} (hsl : 1 ≤ sl) (frm : Int) (d : List B8) :
    (takeP sl ss frm d).out = (rTake sl rs frm d).out ∧ (takeP sl ss frm d).whole = (rTake sl rs frm d).whole ∧ (takeP sl ss frm d).er = (rTake sl rs frm d).er ∧ Rel (takeP sl ss frm d).ss (rTake sl rs frm d).rs := by
  unfold takeP rTake
  by_cases h255 : frm = 255
  · rw [if_pos h255, if_pos h255]; exact ⟨rfl, rfl, rfl, h⟩
  rw [if_neg h255, if_neg h255]
  by_cases hE : lookE d ≠ 0
  · rw [if_pos hE, if_pos hE]; exact ⟨rfl, rfl, rfl, h⟩
  rw [if_neg hE, if_neg hE]
  by_cases hC : (lookF d).count = 1
  · rw [if_pos hC, if_pos hC]; exact ⟨rfl, rfl, rfl, h⟩
  rw [if_neg hC, if_neg hC]
  obtain ⟨hs, hp, _⟩ := look_ok (Classical.not_not.1 hE)
  generalize lookF d = f at *
  have hix : f.index < f.count := hs.2.2.2.2.1
  have hC2 : 2 ≤ f.count := by have := hs.2.2.1; omega
  generalize hk : (frm, (f.id.toNat : Int)) = k at *
  rcases h.at k with ⟨hg, hat⟩ | ⟨i, s, r, hg, hi, hr, hks, hat⟩
  · rw [hat, if_pos (by omega)]
    have ho : openP sl ss k f = beginP sl k ss ++ [newP k f.total f.count] := by unfold openP; rw [hg]
    have hb := begin_none (sl := sl) hg
    rw [ho, fill_newF k f hix hC2 hb]
    refine ⟨rfl, rfl, rfl, ?_⟩
    exact (h.begin hsl k).snoc (RelS.new k f hs hp hC2) (fun t ht => getP_none.1 hb t ht)
  · rw [hat, if_neg (by omega)]
    have ho : openP sl ss k f = ss := by unfold openP; rw [hg]
    rw [ho]
    unfold fillP rAdd
    rw [hg]
    simp only [Int.toNat_natCast]
    rw [hr]
    simp only
    have hS := h.each i s r hi hr
    rw [hS.head.1, hS.head.2]
    by_cases hcl : s.total ≠ f.total ∨ s.parts.length ≠ f.count
    · rw [if_pos hcl, if_pos hcl]; exact ⟨rfl, rfl, rfl, h⟩
    rw [if_neg hcl, if_neg hcl]
    have ht : f.total = s.total := by omega
    have hc : f.count = s.parts.length := by omega
    cases hf : r.l.find? (fun g => decide (g.index = f.index)) with
    | some g =>
      have hgm := List.mem_of_find?_eq_some hf
      have hgi : g.index = f.index := by simpa using List.find?_some hf
      have hgp := hS.parts g hgm
      rw [hgi] at hgp
      have hne : g.part ≠ [] := fun e => by have := (hS.same g hgm).2.2.2; rw [e] at this; simp at this
      rw [hgp, if_pos hne]
      exact ⟨rfl, rfl, rfl, h⟩
    | none =>
      have hno : ∀ g ∈ r.l, g.index ≠ f.index := fun g hg => by
        have := List.find?_eq_none.1 hf g hg
        simpa using this
      rw [hS.none f.index (by rw [← hc]; exact hix) hno, if_neg (by simp), hS.got]
      by_cases hlt : r.l.length + 1 < f.count
      · rw [if_pos hlt]
        simp only
        rw [if_pos hlt, ← hks, put_at h.keys hi]
        exact ⟨rfl, rfl, rfl, h.set hi rfl (hS.add f hs hp ht hc hno hlt)⟩
      · rw [if_neg hlt]
        simp only
        rw [if_neg hlt, ← hks, keep_at h.keys hi]
        have hfew := hS.few
        have hlen : (s.fill f.index f.part).parts.length = s.parts.length := by simp [PS.fill]
        have hil : f.index < s.parts.length := by rw [← hc]; exact hix
        refine ⟨?_, rfl, rfl, h.erase i⟩
        refine whole_eq (by rw [hlen, List.length_append]; simp; omega) ?_ (fun g hg => ?_) (fun g hg => ?_) (by rw [hlen]; omega)
        · rw [List.map_append, List.nodup_append]
          refine ⟨hS.inj, by simp, fun a ha b hb => ?_⟩
          obtain ⟨g, hg, rfl⟩ := List.mem_map.1 ha
          simp at hb
          rw [hb]
          exact hno g hg
        · rw [hlen]
          rcases List.mem_append.1 hg with hg | hg
          · have := hS.same g hg
            exact ⟨this.1, this.2.1, this.2.2.1⟩
          · rw [List.mem_singleton.1 hg]
            exact ⟨ht, hc, hs⟩
        · show (s.parts.set f.index f.part).getD g.index [] = g.part
          rw [getD_setL hil]
          rcases List.mem_append.1 hg with hg | hg
          · rw [if_neg (hno g hg)]
            exact hS.parts g hg
          · rw [List.mem_singleton.1 hg, if_pos rfl]
end Go.Proofs.Ytoeafacamapofaa
namespace Go.Proofs.Ytoeafacamapofaa
open Go.RowKit
set_option linter.unusedVariables false
set_option linter.unusedSimpArgs false

/-- slot by slot -/
def Fr (ss : List PS) (rs : List RSl) : Prop := ss.length = rs.length ∧ ∀ (i : Nat) (s : PS) (r : RSl), ss[i]? = some s → rs[i]? = some r → RelS s r
theorem Fr.cons {s : PS} {r : RSl} {ss : List PS} {rs : List RSl} (h : RelS s r) (k : Fr ss rs) : Fr (s :: ss) (r :: rs) :=
  ⟨by simp [k.1], fun i t u ht hu => by
    cases i with
    | zero => simp at ht hu; rw [← ht, ← hu]; exact h
    | succ i => exact k.2 i t u (by simpa using ht) (by simpa using hu)⟩
theorem Fr.un {s : PS} {r : RSl} {ss : List PS} {rs : List RSl} (h : Fr (s :: ss) (r :: rs)) : RelS s r ∧ Fr ss rs :=
  ⟨h.2 0 s r rfl rfl, by have := h.1; simpa using this, fun i t u ht hu => h.2 (i + 1) t u (by simpa using ht) (by simpa using hu)⟩
theorem Fr.filter {p : PS → Bool} {q : RSl → Bool} (hpq : ∀ s r, RelS s r → p s = q r) : ∀ {ss : List PS} {rs : List RSl}, Fr ss rs → Fr (ss.filter p) (rs.filter q)
  | [], [], h => h
  | [], _ :: _, h => by have := h.1; simp at this
  | _ :: _, [], h => by have := h.1; simp at this
  | s :: ss, r :: rs, h => by
    obtain ⟨h1, h2⟩ := h.un
    rw [List.filter_cons, List.filter_cons, hpq s r h1]
    have h3 := Fr.filter hpq h2
    cases q r with
    | true => simp only [if_true]; exact h3.cons h1
    | false => simp only [Bool.false_eq_true, if_false]; exact h3
theorem Fr.tell : ∀ {ss : List PS} {rs : List RSl}, Fr ss rs → ss.map PS.tell = rs.map RSl.tell
  | [], [], h => rfl
  | [], _ :: _, h => by have := h.1; simp at this
  | _ :: _, [], h => by have := h.1; simp at this
  | s :: ss, r :: rs, h => by
    obtain ⟨h1, h2⟩ := h.un
    rw [List.map_cons, List.map_cons, h2.tell]
    congr 1
    unfold PS.tell RSl.tell
    rw [h1.key, h1.got, h1.age, h1.head.2]
theorem Rel.fr {ss : List PS} {rs : List RSl} (h : Rel ss rs) : Fr ss rs := ⟨h.len, h.each⟩
theorem Rel.filter {ss : List PS} {rs : List RSl} (h : Rel ss rs) {p : PS → Bool} {q : RSl → Bool} (hpq : ∀ s r, RelS s r → p s = q r) : Rel (ss.filter p) (rs.filter q) :=
  ⟨(h.fr.filter hpq).1, (h.fr.filter hpq).2, h.keys.sublist (List.filter_sublist.map _)⟩
theorem Rel.older {ss : List PS} {rs : List RSl} (h : Rel ss rs) : Rel (ss.map PS.older) (rs.map fun r => { r with age := r.age + 1 }) := by
  refine ⟨by simp [h.len], fun i s r hs hr => ?_, ?_⟩
  · rw [List.getElem?_map] at hs hr
    obtain ⟨t, ht, rfl⟩ := Option.map_eq_some_iff.1 hs
    obtain ⟨u, hu, rfl⟩ := Option.map_eq_some_iff.1 hr
    have k := h.each i t u ht hu
    exact ⟨k.key, congrArg (· + 1) k.age, k.got, k.ne, k.same, k.inj, k.parts, k.none, k.few⟩
  · rw [List.map_map]
    exact h.keys
theorem Rel.tick {ss : List PS} {rs : List RSl} (h : Rel ss rs) (ag : Nat) : Rel (tickP ag ss) (rTick ag rs) := by
  unfold tickP rTick
  refine h.older.filter (fun s r k => ?_)
  rw [k.age]
  by_cases e : r.age < ag
  · rw [decide_eq_true e, decide_eq_false (by omega)]; rfl
  · rw [decide_eq_false e, decide_eq_true (by omega)]; rfl
theorem Rel.forget {ss : List PS} {rs : List RSl} (h : Rel ss rs) (a : Int) : Rel (keepP (fun y => decide (y.1 = a)) ss) (rForget a rs) := by
  unfold keepP rForget
  exact h.filter (fun s r k => by rw [k.key])
def rTellTo (n : Nat) (rs : List RSl) : List FS := (List.range n).flatMap fun (a : Nat) => (rs.filter fun r => decide (r.key.1 = (a : Int))).map RSl.tell
theorem Rel.tell {ss : List PS} {rs : List RSl} (h : Rel ss rs) (n : Nat) : tellTo n ss = rTellTo n rs := by
  unfold tellTo rTellTo tellA
  congr 1
  funext a
  exact (h.filter (p := fun s => decide (s.key.1 = (a : Int))) (q := fun r => decide (r.key.1 = (a : Int))) (fun s r k => by rw [k.key])).fr.tell
end Go.Proofs.Ytoeafacamapofaa
