
/-
  The program's Joiner: the plain function.
-/
import Derived.Test.YtoeafacamapofaaJnPut
namespace Go.Proofs.Ytoeafacamapofaa
open Go.RowKit
set_option linter.unusedVariables false
set_option linter.unusedSimpArgs false

/-- laid into so many bytes -/
def layT (t : Nat) (xs : List B8) : List B8 := (xs ++ List.replicate t 0#8).take t
theorem layT_len (t : Nat) (xs : List B8) : (layT t xs).length = t := by unfold layT; simp
theorem layT_nil (t : Nat) : layT t [] = List.replicate t 0#8 := by unfold layT; simp
theorem layT_fit {t : Nat} {xs : List B8} (h : xs.length = t) : layT t xs = xs := by unfold layT; rw [← h]; simp
theorem layT_step (t : Nat) (F xs : List B8) : layT t (F ++ xs) = (layT t F).take (min t F.length) ++ xs.take (min xs.length (t - min t F.length)) ++ (layT t F).drop (min t F.length + min xs.length (t - min t F.length)) := by
  unfold layT
  apply List.ext_getElem?
  intro i
  simp only [List.getElem?_append, List.getElem?_take, List.getElem?_drop, List.getElem?_replicate, List.length_append, List.length_take, List.length_replicate]
  grind
structure TP where
  out : List B8
  whole : Bool
  er : Int
  ss : List PS
def keepP (q : Nm → Bool) (ss : List PS) : List PS := ss.filter (fun s => !q s.key)
def srcP (a : Int) (ss : List PS) : Nat := (ss.filter (fun s => decide (s.key.1 = a))).length
def firstP (a : Int) (ss : List PS) : Nm := ((ss.find? (fun s => decide (s.key.1 = a))).map (·.key)).getD (0, 0)
def beginP (sl : Nat) (x : Nm) (ss : List PS) : List PS := if sl ≤ srcP x.1 ss then keepP (fun y => decide (y = firstP x.1 ss)) ss else ss
def newP (x : Nm) (total count : Nat) : PS := ⟨x, total, 0, 0, List.replicate count []⟩
def PS.fill (s : PS) (i : Nat) (p : List B8) : PS := { s with got := s.got + 1, parts := s.parts.set i p }
def putP (k : Nm) (t : PS) (ss : List PS) : List PS := ss.map (fun s => if s.key = k then t else s)
def getP (k : Nm) (ss : List PS) : Option PS := ss.find? (fun s => decide (s.key = k))
def fillP (ss : List PS) (k : Nm) (f : Fg) : TP :=
  match getP k ss with
  | none => ⟨[], false, 0, ss⟩
  | some s =>
    if s.total ≠ f.total ∨ s.parts.length ≠ f.count then ⟨[], false, 44, ss⟩
    else if s.parts.getD f.index [] ≠ [] then ⟨[], false, if s.parts.getD f.index [] = f.part then 0 else 44, ss⟩
    else if s.got + 1 < f.count then ⟨[], false, 0, putP k (s.fill f.index f.part) ss⟩
    else ⟨layT s.total (s.fill f.index f.part).parts.flatten, true, 0, keepP (fun y => decide (y = k)) ss⟩
def openP (sl : Nat) (ss : List PS) (k : Nm) (f : Fg) : List PS :=
  match getP k ss with
  | some _ => ss
  | none => beginP sl k ss ++ [newP k f.total f.count]
def takeP (sl : Nat) (ss : List PS) (frm : Int) (d : List B8) : TP :=
  if frm = 255 then ⟨[], false, 45, ss⟩
  else if lookE d ≠ 0 then ⟨[], false, lookE d, ss⟩
  else if (lookF d).count = 1 then ⟨(lookF d).part, true, 0, ss⟩
  else fillP (openP sl ss (frm, ((lookF d).id.toNat : Int)) (lookF d)) (frm, ((lookF d).id.toNat : Int)) (lookF d)
-- the memory's lists tell the plain ones
theorem keepS_pl (q : Nm → Bool) (ss : List SM) : (keepS q ss).map SM.pl = keepP q (ss.map SM.pl) := by
  unfold keepS keepP
  rw [List.filter_map]
  rfl
theorem srcN_pl (a : Int) (ss : List SM) : srcP a (ss.map SM.pl) = srcN a ss := by
  unfold srcP srcN
  rw [List.filter_map, List.length_map]
  rfl
theorem firstK_pl (a : Int) (ss : List SM) : firstP a (ss.map SM.pl) = firstK a ss := by
  unfold firstP firstK
  rw [List.find?_map, Option.map_map]
  rfl
theorem beginS_pl (sl : Nat) (x : Nm) (ss : List SM) : (beginS sl x ss).map SM.pl = beginP sl x (ss.map SM.pl) := by
  unfold beginS beginP
  rw [srcN_pl, firstK_pl]
  split
  · rw [keepS_pl]
  · rfl
theorem newSM_pl (x : Nm) (p g total count : Nat) : (newSM x p g total count).pl = newP x total count := by simp [newSM, SM.pl, newP]
theorem getS_pl (k : Nm) (ss : List SM) : getP k (ss.map SM.pl) = (getS k ss).map SM.pl := by
  unfold getP getS
  rw [List.find?_map]
  rfl
theorem fill_pl (s : SM) (i : Nat) (r : PR) : (s.fill i r).pl = s.pl.fill i r.bs := by simp [SM.fill, SM.pl, PS.fill, List.map_set]
theorem set_pl {ss : List SM} (hn : (ss.map (·.key)).Nodup) {i : Nat} {s t : SM} (hi : ss[i]? = some s) : (ss.set i t).map SM.pl = putP s.key t.pl (ss.map SM.pl) := by
  unfold putP
  rw [List.map_map, List.map_set]
  apply List.ext_getElem?
  intro j
  have hil := (List.getElem?_eq_some_iff.1 hi).1
  by_cases h : i = j
  · subst h
    rw [List.getElem?_set_self (by simpa using hil)]
    simp [hi, SM.pl]
  · rw [List.getElem?_set_ne h]
    cases hj : ss[j]? with
    | none => simp [hj]
    | some u =>
      have hne : u.key ≠ s.key := by
        intro e
        have hjl := (List.getElem?_eq_some_iff.1 hj).1
        have h1 := List.getElem?_inj (i := j) (j := i) (l := ss.map (·.key)) (by simpa using hjl) hn
        exact h (h1.1 (by simp [hj, hi, e])).symm
      have hne' : ¬ (SM.pl u).key = s.key := hne
      simp [hj, hne']
end Go.Proofs.Ytoeafacamapofaa
