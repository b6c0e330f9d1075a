
/-
  A row's argument, opened: a list of bools.
-/
import Derived.Test.YtoeafacamapofaaRowLists
import Derived.Deep.Slices
import Derived.Deep.Fields
import Derived.ChangeSame
namespace Go.Proofs.Ytoeafacamapofaa
open Go.RowKit Go.ChangeShapes Go.WideShapes Go.Deep
set_option linter.unusedVariables false
set_option linter.unusedSimpArgs false

def BlsIn (w : World) (a : Option Addr) (rs : List Bool) : Prop := ∀ (i : Nat) (r : Bool), rs[i]? = some r → ∃ x, a = some x ∧ w.cell? (x.add i) = some (.bool r)
theorem BlsIn.st {w w' : World} {a : Option Addr} {rs : List Bool} {F : Nat → Prop} (h : BlsIn w a rs) (t : St No w F w') : BlsIn w' a rs := by
  intro i r hi
  obtain ⟨x, e1, e2⟩ := h i r hi
  refine ⟨x, e1, ?_⟩
  have hl := World.block_lt_of_cell? w _ e2
  rw [World.cell?_of_block (w := w)]
  · exact e2
  · exact t.block _ hl (fun hf => hf)
set_option maxRecDepth 100000 in
/-- an argument that is a slice of bools -/
theorem open_bls {H : Type} {enc : TypeId × Value → H} {W : World} {base : Nat} {spare : Nat → Bool} {held : Bool} {t : TypeId} {a : Option Addr} {len cap : Nat} {d : DataW H} {ps : List MemPlace} {ts : List TypeId} {ds : List (DataW H)} {j : Nat}
    (hsz : (DataW.weightsEach Try.prog ts ds).all (· ≤ reachBytes) = true) (ht : ts[j]? = some t) (hd : ds[j]? = some d)
    (h : DataW.Trod enc Try.prog W base spare held t (.slice a len cap) d ps) (htt : t = 92 := by rfl) :
    ∃ rs : List Bool, len = rs.length ∧ BlsIn W a rs ∧ rs.length ≤ 140737488351232 := by
  subst htt
  have hu := Try.underlying92
  have hC : Try.prog.cellsOf 4 = 1 := by kernel_rfl
  have hB : 1 ≤ Try.prog.bytesOf 4 := of_decide_eq_true (by kernel_rfl)
  obtain ⟨fuel, hf⟩ := h
  rcases open_slice hu hf with ⟨hcs, _⟩ | ⟨x, l, c, m, n, D, Pl, hcs, hb, hl, hm, hmm, hx, hi⟩
  · simp [Value.cells] at hcs
    obtain ⟨rfl, rfl, rfl⟩ := hcs
    exact ⟨[], rfl, fun i t h => by simp at h, by simp⟩
  · simp [Value.cells] at hcs
    obtain ⟨rfl, rfl, rfl⟩ := hcs
    obtain ⟨hx, _⟩ := Prod.mk.inj hx
    subst hx
    have z := sized_slice hsz ht hd hu
    have hlm : len ≤ m := by rw [hmm]; split <;> omega
    simp only [List.length_map, List.length_range] at z
    have z2 : len ≤ 140737488351232 := many_reach hlm hB z
    clear z hB
    have key : ∀ i, i < len → ∃ r : Bool, W.cell? (x.add i) = some (.bool r) := by
      intro i hil
      obtain ⟨cs, h1, h2⟩ := hi i (by omega)
      rw [hC] at h1
      obtain ⟨_, hcl, hat⟩ := World.cells?_some h1
      obtain ⟨v, e, _⟩ := DataW.trod_bool Try.underlying4 h2
      subst e
      refine ⟨v, ?_⟩
      have := hat 0 (by omega)
      rw [Nat.mul_one, Go.Deep.add_add, Nat.add_zero] at this
      exact this
    obtain ⟨f, hf⟩ := choose_lt key
    refine ⟨(List.range len).map f, by simp, ?_, by simpa using z2⟩
    intro i t hti
    simp only [List.getElem?_map, Option.map_eq_some_iff] at hti
    obtain ⟨i', hi', rfl⟩ := hti
    obtain ⟨hlt, rfl⟩ := List.getElem?_eq_some_iff.1 hi'
    simp only [List.length_range] at hlt
    rw [List.getElem_range]
    exact ⟨x, rfl, hf i hlt⟩
end Go.Proofs.Ytoeafacamapofaa
