
/-
  Elements of a list of structs.
-/
import Derived.Test.YtoeafacamapofaaStRows
import Derived.Deep.Slices
namespace Go.Proofs.Ytoeafacamapofaa
open Go.RowKit
set_option linter.unusedVariables false
set_option linter.unusedSimpArgs false

theorem rowL_elem {α : Type} {f : α → List Value} {s : Nat} (hf : ∀ r, (f r).length = s) {w : World} {e : TypeId} {y : Addr} {n c : Nat} {rs : List α} (h : Own w e s (.slice (some y) n c) n (rs.flatMap f)) (i : Nat) (r : α) (hr : rs[i]? = some r) (j : Nat) (v : Value) (hj : j < s) (hv : (f r)[j]? = some v) : w.cell? ((y.add (i * s)).add j) = some v := by
  have h1 := flat_get f s hf rs i j r hr hj
  rw [hv] at h1
  have := h.rd.at_some _ _ h1
  rw [Go.Deep.add_add]
  exact this
theorem rowL_some {α : Type} {f : α → List Value} {s : Nat} (hf : ∀ r, (f r).length = s) (hs : 0 < s) {w : World} {e : TypeId} {a : Option Addr} {n c : Nat} {rs : List α} (h : Own w e s (.slice a n c) n (rs.flatMap f)) (i : Nat) (hi : i < rs.length) : ∃ y, a = some y := by
  have h1 := flat_get f s hf rs i 0 _ (List.getElem?_eq_getElem hi) hs
  have h2 : 0 < (f rs[i]).length := by rw [hf]; exact hs
  rw [List.getElem?_eq_getElem h2] at h1
  obtain ⟨y, hy, _⟩ := h.rd _ _ h1
  exact ⟨y, hy⟩
end Go.Proofs.Ytoeafacamapofaa
