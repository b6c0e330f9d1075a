
/-
  The program's Joiner: a slot's age goes up.
-/
import Derived.Test.YtoeafacamapofaaJnPlain
namespace Go.Proofs.Ytoeafacamapofaa
open Go.RowKit
set_option linter.unusedVariables false
set_option linter.unusedSimpArgs false

def SM.older (s : SM) : SM := { s with age := s.age + 1 }
theorem Jm.age {w : World} {pj bm : Nat} {V : Value} {D : Nat → Prop} {sl ag : Nat} {ss : List SM} (h : Jm w pj bm V D sl ag ss) {i : Nat} {s : SM} (hi : ss[i]? = some s) (ha : s.age + 1 ≤ 64) (e1 : Int) (he : e1 = ((s.age + 1 : Nat) : Int)) :
    Jm (w.setCell ⟨s.p, 2, none⟩ (.int .i64 e1)) pj bm V D sl ag (ss.set i s.older) ∧ St (fpB s.p) w (fpB s.p) (w.setCell ⟨s.p, 2, none⟩ (.int .i64 e1)) := by
  subst he
  have hsm := List.mem_of_getElem? hi
  have hbk := blkS_mem hsm
  have hap := h.apart
  simp only [List.nodup_cons, List.mem_cons, not_or] at hap
  obtain ⟨⟨hpb, hpj⟩, hbm, hnd⟩ := hap
  have hpg := blkS_self hnd hi
  have hil := (List.getElem?_eq_some_iff.1 hi).1
  have st : St (fpB s.p) w (fpB s.p) (w.setCell ⟨s.p, 2, none⟩ (.int .i64 ((s.age + 1 : Nat) : Int))) := St.setCell w ⟨s.p, 2, none⟩ _ rfl
  refine ⟨?_, st⟩
  have hD : ∀ k, fpB s.p k → ¬ D k := by
    rintro k rfl
    exact h.notD s.p (by simp [hbk.1])
  have hbS : blkS (ss.set i s.older) = blkS ss := blkS_set hi rfl rfl
  have hs := h.slots s hsm
  refine ⟨?_, ?_, ?_, ?_, ?_, ?_, ?_, ?_, ?_⟩
  · exact h.ob.move (st.block _ h.ob.lt (fun e => hpj (by have e' : pj = s.p := e; rw [e']; exact hbk.1)))
  · rw [map_set_same (s' := s.older) SM.ent hi rfl]
    exact h.mp.st st (fun e => hbm (by have e' : bm = s.p := e; rw [e']; exact hbk.1))
  · rw [List.length_set, ← List.flatMap_map, map_set_same (s' := s.older) SM.key hi rfl, List.flatMap_map]
    exact h.ord.st st (fun k hk hv => h.notV s.p (by simp [hbk.1]) (by have e' : k = s.p := hk; rw [← e']; exact hv))
  · intro t ht
    obtain ⟨j, hj⟩ := List.getElem?_of_mem ht
    by_cases hij : i = j
    · subst hij
      rw [List.getElem?_set_self hil] at hj
      injection hj with hj
      subst hj
      refine ⟨?_, ?_, ?_, hs.total, hs.count, hs.got, ha, hs.from0⟩
      · have h2 := hs.ob.set 2 (.int .i64 ((s.age + 1 : Nat) : Int))
        have e : s.older.cells = s.cells.setIfInBounds 2 (.int .i64 ((s.age + 1 : Nat) : Int)) := by simp [SM.older, SM.cells]
        show Ob _ s.p _ s.older.cells
        rw [e]
        exact h2
      · exact hs.row.move (st.block _ hs.row.lt (fun e => hpg (by have e' : s.g = s.p := e; exact e'.symm)))
      · intro r' hr'
        exact (hs.parts r' hr').st st hD
    · rw [List.getElem?_set_ne hij] at hj
      have hab := blkS_apart hnd hi hj hij
      exact (h.slots t (List.mem_of_getElem? hj)).st st (fun e => hab.1 (by have e' : t.p = s.p := e; exact e'.symm)) (fun e => hab.2.1 (by have e' : t.g = s.p := e; exact e'.symm)) hD
  · intro k hk
    exact Nat.lt_of_lt_of_le (h.inD k hk) st.size
  · rw [hbS]; exact h.apart
  · rw [hbS]; exact h.notV
  · rw [hbS]; exact h.notD
  · exact h.vD
/-- the slots of these names are older -/
def ageS (Dn : List Nm) (ss : List SM) : List SM := ss.map (fun s => if s.key ∈ Dn then s.older else s)
theorem ageS_nil (ss : List SM) : ageS [] ss = ss := by simp [ageS]
theorem ageS_len (Dn : List Nm) (ss : List SM) : (ageS Dn ss).length = ss.length := by simp [ageS]
theorem ageS_ent (Dn : List Nm) (ss : List SM) : (ageS Dn ss).map SM.ent = ss.map SM.ent := by
  unfold ageS
  rw [List.map_map]
  apply List.map_congr_left
  intro s _
  simp only [Function.comp]
  split <;> rfl
theorem ageS_blk (Dn : List Nm) (ss : List SM) : blkS (ageS Dn ss) = blkS ss := by
  unfold ageS blkS
  rw [List.flatMap_map]
  congr 1
  funext s
  split <;> rfl
theorem ageS_at {Dn : List Nm} {ss : List SM} {i : Nat} {s : SM} (hi : ss[i]? = some s) (hn : s.key ∉ Dn) : (ageS Dn ss)[i]? = some s := by simp [ageS, hi, hn]
theorem ageS_cons {Dn : List Nm} {ss : List SM} (hk : (ss.map (·.key)).Nodup) {i : Nat} {s : SM} (hi : ss[i]? = some s) (hn : s.key ∉ Dn) : ageS (s.key :: Dn) ss = (ageS Dn ss).set i s.older := by
  apply List.ext_getElem?
  intro j
  have hil := (List.getElem?_eq_some_iff.1 hi).1
  by_cases h : i = j
  · subst h
    rw [List.getElem?_set_self (by rw [ageS_len]; exact hil)]
    simp [ageS, hi]
  · rw [List.getElem?_set_ne h]
    cases hj : ss[j]? with
    | none => simp [ageS, hj]
    | some u =>
      have hne : u.key ≠ s.key := by
        intro e
        have hjl := (List.getElem?_eq_some_iff.1 hj).1
        have h1 := List.getElem?_inj (i := j) (j := i) (l := ss.map (·.key)) (by simpa using hjl) hk
        exact h (h1.1 (by simp [hj, hi, e])).symm
      simp [ageS, hj, hne]
theorem ageS_all {Dn : List Nm} {ss : List SM} (h : ∀ p ∈ ss.map SM.ent, p.1 ∈ Dn) : ageS Dn ss = ss.map SM.older := by
  unfold ageS
  apply List.map_congr_left
  intro s hs
  exact if_pos (h s.ent (List.mem_map.2 ⟨s, hs, rfl⟩))
end Go.Proofs.Ytoeafacamapofaa
