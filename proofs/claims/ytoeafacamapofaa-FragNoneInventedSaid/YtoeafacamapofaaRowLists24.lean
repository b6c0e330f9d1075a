
/-
  A list of lists of bytes, opened: how many there may be.
-/
import Derived.Test.YtoeafacamapofaaRowLists
namespace Go.Proofs.Ytoeafacamapofaa
open Go.RowKit Go.ChangeShapes Go.WideShapes Go.Deep
set_option linter.unusedVariables false

theorem open_lists24 {H : Type} {enc : TypeId × Value → H} {W : World} {base : Nat} {spare : Nat → Bool} {held : Bool} {t : TypeId} {a : Option Addr} {len cap : Nat} {d : DataW H} {ps : List MemPlace} {ts : List TypeId} {ds : List (DataW H)} {j : Nat}
    (hsz : (DataW.weightsEach Try.prog ts ds).all (· ≤ reachBytes) = true) (ht : ts[j]? = some t) (hd : ds[j]? = some d)
    (h : DataW.Trod enc Try.prog W base spare held t (.slice a len cap) d ps) (htt : t = 41 := by rfl) :
    ∃ L : List (List B8), len = L.length ∧ Lists W a L ∧ L.length * 24 ≤ 140737488355328 := by
  obtain ⟨L, h1, h2, _, _⟩ := open_lists hsz ht hd h htt
  refine ⟨L, h1, h2, ?_⟩
  rw [← h1]
  clear h1 h2
  subst htt
  have hu := Try.underlying41
  have hB : Try.prog.bytesOf 25 = 24 := by kernel_rfl
  obtain ⟨fuel, hf⟩ := h
  rcases open_slice hu hf with ⟨hcs, _⟩ | ⟨x, l, c, m, n, D, Pl, hcs, hb, hl, hm, hmm, hx, hi⟩
  · simp [Value.cells] at hcs
    obtain ⟨rfl, rfl, rfl⟩ := hcs
    omega
  · simp [Value.cells] at hcs
    obtain ⟨rfl, rfl, rfl⟩ := hcs
    obtain ⟨hx, _⟩ := Prod.mk.inj hx
    subst hx
    have z := sized_slice hsz ht hd hu
    have hlm : len ≤ m := by rw [hmm]; split <;> omega
    simp only [List.length_map, List.length_range] at z
    rw [hB] at z
    have h3 : reachBytes ≤ 140737488355328 := of_decide_eq_true (by kernel_rfl)
    have h4 : len * 24 ≤ (len + (m - len)) * 24 := Nat.mul_le_mul_right _ (by omega)
    clear hsz hi hf hu hB
    exact Nat.le_trans h4 (Nat.le_trans z h3)
end Go.Proofs.Ytoeafacamapofaa
