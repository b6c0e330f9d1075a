
/-
  An argument that is a slice of ints, opened.
-/
import Derived.Test.YtoeafacamapofaaRow
import Derived.Test.YtoeafacamapofaaLyDrop
namespace Go.Proofs.Ytoeafacamapofaa
open Go.ChangeShapes Go.WideShapes Go.ChangeAt Go.RowKit
set_option linter.unusedVariables false

theorem open_is {H : Type} {enc : TypeId × Value → H} {W : World} {base : Nat} {spare : Nat → Bool} {held : Bool} {t : TypeId} {a : Option Addr} {len cap : Nat} {d : DataW H} {ps : List MemPlace} {ts : List TypeId} {ds : List (DataW H)} {j : Nat}
    (hsz : (DataW.weightsEach Try.prog ts ds).all (· ≤ reachBytes) = true) (ht : ts[j]? = some t) (hd : ds[j]? = some d)
    (h : DataW.Trod enc Try.prog W base spare held t (.slice a len cap) d ps) (htt : t = 22 := by rfl) :
    ∃ xs : List Int, len = xs.length ∧ Is W a xs ∧ xs.length ≤ 35184372088832 ∧ ∀ i ∈ xs, -9223372036854775808 ≤ i ∧ i ≤ 9223372036854775807 := by
  subst htt
  have hu := Try.underlying22
  have he := Try.underlying3
  have hc : Try.prog.cellsOf 3 = 1 := by kernel_rfl
  have hB : Try.prog.bytesOf 3 = 8 := by kernel_rfl
  obtain ⟨fuel, hf⟩ := h
  rcases open_ints hu he hc hf with ⟨hcs, _⟩ | ⟨x, l, c, zs, hcs, _, hl, _, hz, hx, hcell, hwz⟩
  · simp [Value.cells] at hcs
    obtain ⟨rfl, rfl, rfl⟩ := hcs
    exact ⟨[], rfl, Rd.nil _ _, by simp, fun i hi => by simp at hi⟩
  · simp [Value.cells] at hcs
    obtain ⟨rfl, rfl, rfl⟩ := hcs
    obtain ⟨hx, _⟩ := Prod.mk.inj hx
    subst hx
    have z := sized_slice hsz ht hd hu
    rw [hB] at z
    have hl2 : len ≤ zs.length := by
      rw [hz]
      split
      · exact hl
      · exact Nat.le_refl _
    have h1 : (lits (H := H) .i64 (zs.take len)).length + (lits (H := H) .i64 (zs.drop len)).length = zs.length := by
      simp [lits]
      omega
    rw [h1] at z
    have z : zs.length * 8 ≤ 140737488351232 := z
    refine ⟨zs.take len, by simp; omega, ?_, by simp; omega, fun i hi => ?_⟩
    · intro i v hv
      refine ⟨x, rfl, ?_⟩
      have hi : i < len := by
        have := (List.getElem?_eq_some_iff.1 hv).1
        simp [iv] at this
        omega
      have hi2 : i < zs.length := by omega
      rw [hcell i hi2]
      simp only [iv, List.getElem?_map, List.getElem?_take, if_pos hi, List.getElem?_eq_getElem hi2, Option.map_some, Option.some.injEq] at hv
      rw [← hv, List.getD_eq_getElem?_getD, List.getElem?_eq_getElem hi2, Option.getD_some]
    · have := hwz i (List.mem_of_mem_take hi)
      exact ⟨(wf_bounds_i64 this).1, by have := (wf_bounds_i64 this).2; omega⟩
end Go.Proofs.Ytoeafacamapofaa
