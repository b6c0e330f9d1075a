
/-
  A row's argument, opened: a list of pairs of ints.
-/
import Derived.Test.YtoeafacamapofaaLyDrop
import Derived.Test.YtoeafacamapofaaRow
import Derived.Deep.Slices
import Derived.Deep.Fields
import Derived.ChangeSame
import Derived.OpenShut
namespace Go.Proofs.Ytoeafacamapofaa
open Go.RowKit Go.ChangeShapes Go.WideShapes Go.Deep
set_option linter.unusedVariables false

theorem list_two2 {α : Type} : ∀ {l : List α}, l.length = 2 → ∃ a b, l = [a, b]
  | [a, b], _ => ⟨a, b, rfl⟩
  | [], h | [_], h => by simp at h
  | _ :: _ :: _ :: _, h => by simp at h
theorem len_reach2 {len m b : Nat} (h : len ≤ m) (hB : 16 ≤ b) (z : (len + (m - len)) * b ≤ reachBytes) : len ≤ 8796093022208 := by
  have h1 : len * 16 ≤ (len + (m - len)) * b := Nat.mul_le_mul (by omega) hB
  have h2 : len * 16 ≤ reachBytes := Nat.le_trans h1 z
  have h3 : reachBytes ≤ 140737488355328 := of_decide_eq_true (by kernel_rfl)
  omega
/-- pairs that were handed in -/
abbrev Pr := Int × Int
def Pr.cells (p : Pr) : List Value := [.int .i64 p.1, .int .i64 p.2]
theorem Pr.cells_len (p : Pr) : (Pr.cells p).length = 2 := rfl
def Pr.wf (p : Pr) : Prop := (-9223372036854775808 ≤ p.1 ∧ p.1 ≤ 9223372036854775807) ∧ (-9223372036854775808 ≤ p.2 ∧ p.2 ≤ 9223372036854775807)
def PrsIn (w : World) (a : Option Addr) (ps : List Pr) : Prop :=
  ∀ (i : Nat) (p : Pr), ps[i]? = some p → ∃ x, a = some x ∧ (∀ (j : Nat) (v : Value), (Pr.cells p)[j]? = some v → w.cell? ((x.add (i * 2)).add j) = some v) ∧ Pr.wf p
theorem PrsIn.st {w w' : World} {a : Option Addr} {ps : List Pr} {F' : Nat → Prop} (h : PrsIn w a ps) (t : St No w F' w') : PrsIn w' a ps := by
  intro i p hi
  obtain ⟨x, e1, e2, e3⟩ := h i p hi
  refine ⟨x, e1, fun j v hv => ?_, e3⟩
  have hx := e2 j v hv
  have hl := World.block_lt_of_cell? w _ hx
  rw [World.cell?_of_block (w := w)]
  · exact hx
  · exact t.block _ hl (fun hf => hf)
/-- an argument that is a slice of pairs -/
theorem open_prs {H : Type} {enc : TypeId × Value → H} {W : World} {base : Nat} {spare : Nat → Bool} {held : Bool} {t : TypeId} {a : Option Addr} {len cap : Nat} {d : DataW H} {ps : List MemPlace} {ts : List TypeId} {ds : List (DataW H)} {j : Nat}
    (hsz : (DataW.weightsEach Try.prog ts ds).all (· ≤ reachBytes) = true) (ht : ts[j]? = some t) (hd : ds[j]? = some d)
    (h : DataW.Trod enc Try.prog W base spare held t (.slice a len cap) d ps) (htt : t = 99 := by rfl) :
    ∃ rs : List Pr, len = rs.length ∧ PrsIn W a rs ∧ rs.length ≤ 8796093022208 := by
  subst htt
  have hu := Try.underlying99
  have hs := Try.underlying101
  have hC : Try.prog.cellsOf 101 = 2 := by kernel_rfl
  have hC1 : Try.prog.cellsOf 3 = 1 := by kernel_rfl
  have hB : 16 ≤ Try.prog.bytesOf 101 := of_decide_eq_true (by kernel_rfl)
  obtain ⟨fuel, hf⟩ := h
  rcases open_slice hu hf with ⟨hcs, _⟩ | ⟨x, l, c, m, n, D, Pl, hcs, hb, hl, hm, hmm, hx, hi⟩
  · simp [Value.cells] at hcs
    obtain ⟨rfl, rfl, rfl⟩ := hcs
    exact ⟨[], rfl, fun i t h => by simp at h, by simp⟩
  · simp [Value.cells] at hcs
    obtain ⟨rfl, rfl, rfl⟩ := hcs
    obtain ⟨hx, _⟩ := Prod.mk.inj hx
    subst hx
    have z := sized_slice hsz ht hd hu
    have hlm : len ≤ m := by rw [hmm]; split <;> omega
    simp only [List.length_map, List.length_range] at z
    have z2 : len ≤ 8796093022208 := len_reach2 hlm hB z
    clear z hB
    have key : ∀ i, i < len → ∃ p : Pr, (∀ j v, (Pr.cells p)[j]? = some v → W.cell? ((x.add (i * 2)).add j) = some v) ∧ Pr.wf p := by
      intro i hil
      obtain ⟨cs, h1, h2⟩ := hi i (by omega)
      rw [hC] at h1
      obtain ⟨_, hcl, hat⟩ := World.cells?_some h1
      obtain ⟨ys, n', hn', hy, hlen, hyl, hf⟩ := DataW.trod_array hs h2
      obtain ⟨c0, c1, rfl⟩ := list_two2 hcl
      obtain ⟨y0, y1, rfl⟩ := list_two2 hyl
      rw [hC1] at hf
      have g0 : DataW.trod enc Try.prog W base spare held n' 3 [c0] = some y0 := hf 0 (by decide)
      have g1 : DataW.trod enc Try.prog W base spare held n' 3 [c1] = some y1 := hf 1 (by decide)
      obtain ⟨v0, e0, _, w0⟩ := DataW.trod_int Try.underlying3 g0
      obtain ⟨v1, e1, _, w1⟩ := DataW.trod_int Try.underlying3 g1
      simp only [List.cons.injEq, and_true] at e0 e1
      subst e0 e1
      have b0 := wf_bounds_i64 w0
      have b1 := wf_bounds_i64 w1
      refine ⟨(v0, v1), ?_, ⟨by show _ ≤ v0 ∧ v0 ≤ _; omega, by show _ ≤ v1 ∧ v1 ≤ _; omega⟩⟩
      intro j v hv
      have hj : j < 2 := by
        have := (List.getElem?_eq_some_iff.1 hv).1
        simpa [Pr.cells] using this
      rw [hat j hj]
      simpa [Pr.cells] using hv
    obtain ⟨f, hf⟩ := choose_lt key
    refine ⟨(List.range len).map f, by simp, ?_, by simpa using z2⟩
    intro i t hti
    simp only [List.getElem?_map, Option.map_eq_some_iff] at hti
    obtain ⟨i', hi', rfl⟩ := hti
    obtain ⟨hlt, rfl⟩ := List.getElem?_eq_some_iff.1 hi'
    simp only [List.length_range] at hlt
    rw [List.getElem_range]
    exact ⟨x, rfl, hf i hlt⟩
end Go.Proofs.Ytoeafacamapofaa
