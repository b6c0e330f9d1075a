
/-
  A row's argument, opened: a list of steps.
-/
import Derived.Test.YtfhoekcmkbeabaaWWrites
import Derived.Test.YtfhoekcmkbeabaaRow
import Derived.Deep.Slices
import Derived.Deep.Fields
import Derived.ChangeSame
namespace Go.Proofs.Ytfhoekcmkbeabaa
open Go.RowKit Go.ChangeShapes Go.WideShapes Go.Deep
set_option linter.unusedVariables false

instance : Inhabited Th := ⟨⟨0, 0, 0, false, none, 0, []⟩⟩
theorem weightsAll_mem {H : Type} {P : Program} {e : TypeId} : ∀ {l : List (DataW H)} {d : DataW H}, d ∈ l → ∀ n ∈ d.weights P e, n ∈ DataW.weightsAll P e l
  | x :: l, d, hd, n, hn => by
    simp only [DataW.weightsAll, List.mem_append]
    rcases List.mem_cons.1 hd with rfl | hd
    · exact .inl hn
    · exact .inr (weightsAll_mem hd n hn)
  | [], d, hd, n, hn => by simp at hd
theorem weightsEach_mem {H : Type} {P : Program} : ∀ {ts : List TypeId} {ds : List (DataW H)} {j : Nat} {t : TypeId} {d : DataW H}, ts[j]? = some t → ds[j]? = some d → ∀ n ∈ d.weights P t, n ∈ DataW.weightsEach P ts ds := DataW.weights_mem_each

theorem list_five {α : Type} : ∀ {l : List α}, l.length = 5 → ∃ a b c d e, l = [a, b, c, d, e]
  | [a, b, c, d, e], _ => ⟨a, b, c, d, e, rfl⟩
  | [], h | [_], h | [_, _], h | [_, _, _], h | [_, _, _, _], h => by simp at h
  | _ :: _ :: _ :: _ :: _ :: _ :: _, h => by simp at h
theorem len_reach {len m b : Nat} (h : len ≤ m) (hB : 1 ≤ b) (z : (len + (m - len)) * b ≤ reachBytes) : len ≤ 140737488351232 := by
  have h1 : len * 1 ≤ (len + (m - len)) * b := Nat.mul_le_mul (by omega) hB
  have h2 : len * 1 ≤ reachBytes := Nat.le_trans h1 z
  rw [Nat.mul_one] at h2
  exact h2
/-- an argument that is a slice of steps -/
theorem open_steps {H : Type} {enc : TypeId × Value → H} {W : World} {base : Nat} {spare : Nat → Bool} {held : Bool} {t : TypeId} {a : Option Addr} {len cap : Nat} {d : DataW H} {ps : List MemPlace} {ts : List TypeId} {ds : List (DataW H)} {j : Nat}
    (hsz : (DataW.weightsEach Try.prog ts ds).all (· ≤ reachBytes) = true) (ht : ts[j]? = some t) (hd : ds[j]? = some d)
    (h : DataW.Trod enc Try.prog W base spare held t (.slice a len cap) d ps) (htt : t = 38 := by rfl) :
    ∃ ss : List Th, len = ss.length ∧ StepsIn W a ss ∧ ss.length ≤ 140737488351232 := by
  subst htt
  have hu := Try.underlying38
  have hs := Try.underlying49
  have hC : Try.prog.cellsOf 49 = 5 := by kernel_rfl
  have hB : 1 ≤ Try.prog.bytesOf 49 := of_decide_eq_true (by kernel_rfl)
  obtain ⟨fuel, hf⟩ := h
  rcases open_slice hu hf with ⟨hcs, _⟩ | ⟨x, l, c, m, n, D, Pl, hcs, hb, hl, hm, hmm, hx, hi⟩
  · simp [Value.cells] at hcs
    obtain ⟨rfl, rfl, rfl⟩ := hcs
    exact ⟨[], rfl, fun i t h => by simp at h, by simp⟩
  · simp [Value.cells] at hcs
    obtain ⟨rfl, rfl, rfl⟩ := hcs
    obtain ⟨hx, _⟩ := Prod.mk.inj hx
    subst hx
    have z := sized_slice hsz ht hd hu
    have hlm : len ≤ m := by rw [hmm]; split <;> omega
    simp only [List.length_map, List.length_range] at z
    have z2 : len ≤ 140737488351232 := len_reach hlm hB z
    have hall := List.all_eq_true.1 hsz
    clear z hB
    have key : ∀ i, i < len → ∃ t : Th, (∀ j v, t.cells[j]? = some v → W.cell? ((x.add (i * 5)).add j) = some v) ∧ t.ok W := by
      intro i hil
      obtain ⟨cs, h1, h2⟩ := hi i (by omega)
      rw [hC] at h1
      obtain ⟨_, hcl, hat⟩ := World.cells?_some h1
      obtain ⟨ys, n', hn', hy, hlen, hyl, hf⟩ := DataW.trod_struct hs h2
      have hyl5 : ys.length = 5 := hyl
      clear hyl
      obtain ⟨c0, c1, c2, c3, c4, rfl⟩ := list_five hcl
      obtain ⟨y0, y1, y2, y3, y4, rfl⟩ := list_five hyl5
      simp only [Prod.mk.injEq] at hy
      have hw : ∀ q ∈ DataW.weightsEach Try.prog [3, 30, 2, 4, 22] [y0.1, y1.1, y2.1, y3.1, y4.1], q ≤ reachBytes := by
        intro q hq
        have hq2 : q ∈ (D i).weights Try.prog 49 := by
          rw [hy.1]
          unfold DataW.weights
          simp only [hs]
          exact hq
        have hq3 : q ∈ DataW.weightsAll Try.prog 49 ((List.range len).map D) := weightsAll_mem (List.mem_map.2 ⟨i, List.mem_range.2 hil, rfl⟩) q hq2
        have hq4 : q ∈ (DataW.slice ((List.range len).map D) ((List.range (m - len)).map fun j => D (len + j))).weights Try.prog 38 := by
          unfold DataW.weights
          simp only [hu]
          exact List.mem_cons_of_mem _ (List.mem_append.2 (.inl hq3))
        simpa using hall q (weightsEach_mem ht hd q hq4)
      have g0 : DataW.trod enc Try.prog W base spare held n' 3 (([c0, c1, c2, c3, c4].drop 0).take (Try.prog.cellsOf 3)) = some y0 := hf 0 _ rfl
      rw [show Try.prog.cellsOf 3 = 1 by kernel_rfl] at g0
      have g0 : DataW.trod enc Try.prog W base spare held n' 3 [c0] = some y0 := g0
      have g1 : DataW.trod enc Try.prog W base spare held n' 30 (([c0, c1, c2, c3, c4].drop 1).take (Try.prog.cellsOf 30)) = some y1 := hf 1 _ rfl
      rw [show Try.prog.cellsOf 30 = 1 by kernel_rfl] at g1
      have g1 : DataW.trod enc Try.prog W base spare held n' 30 [c1] = some y1 := g1
      have g2 : DataW.trod enc Try.prog W base spare held n' 2 (([c0, c1, c2, c3, c4].drop 2).take (Try.prog.cellsOf 2)) = some y2 := hf 2 _ rfl
      rw [show Try.prog.cellsOf 2 = 1 by kernel_rfl] at g2
      have g2 : DataW.trod enc Try.prog W base spare held n' 2 [c2] = some y2 := g2
      have g3 : DataW.trod enc Try.prog W base spare held n' 4 (([c0, c1, c2, c3, c4].drop 3).take (Try.prog.cellsOf 4)) = some y3 := hf 3 _ rfl
      rw [show Try.prog.cellsOf 4 = 1 by kernel_rfl] at g3
      have g3 : DataW.trod enc Try.prog W base spare held n' 4 [c3] = some y3 := g3
      have g4 : DataW.trod enc Try.prog W base spare held n' 22 (([c0, c1, c2, c3, c4].drop 4).take (Try.prog.cellsOf 22)) = some y4 := hf 4 _ rfl
      rw [show Try.prog.cellsOf 22 = 1 by kernel_rfl] at g4
      have g4 : DataW.trod enc Try.prog W base spare held n' 22 [c4] = some y4 := g4
      obtain ⟨v0, e0, _, w0⟩ := DataW.trod_int Try.underlying3 g0
      obtain ⟨v1, e1, _, w1⟩ := DataW.trod_int Try.underlying30 g1
      obtain ⟨v2, e2, _, w2⟩ := DataW.trod_int Try.underlying2 g2
      obtain ⟨v3, e3, _⟩ := DataW.trod_bool Try.underlying4 g3
      obtain ⟨n1, rfl⟩ := bv_of_int (k := 64) (wf_bounds_u64 w1).1 (by have := (wf_bounds_u64 w1).2; omega)
      obtain ⟨a4, l4, cp4, rfl⟩ : ∃ a l c, c4 = .slice a l c := by
        rcases open_slice Try.underlying22 g4 with ⟨h, _⟩ | ⟨x, l, c, _, _, _, _, h, _⟩
        · simp at h; exact ⟨_, _, _, h⟩
        · simp at h; exact ⟨_, _, _, h⟩
      obtain ⟨xs, rfl, hbs, hnil, hxl⟩ := open_bytes (P := Try.prog) (W := W) (base := base) (spare := spare) (held := held) (enc := enc) (d := y4.1) (ps := y4.2) (a := a4) (cap := cp4) (ts := [3, 30, 2, 4, 22]) (ds := [y0.1, y1.1, y2.1, y3.1, y4.1]) (j := 4) (t := 22)
        (List.all_eq_true.2 (fun q hq => by simpa using hw q hq)) rfl rfl Try.underlying22 Try.underlying5 (by kernel_rfl) (by kernel_rfl) ⟨_, g4⟩
      simp only [List.cons.injEq, and_true] at e0 e1 e2 e3
      subst e0 e1 e2 e3
      refine ⟨⟨v0, n1, v2, v3, a4, cp4, xs⟩, ?_, ⟨(wf_bounds_i64 w2).1, by have := (wf_bounds_i64 w2).2; show v2 ≤ _; omega, hxl, hnil, hbs⟩⟩
      intro j v hv
      have hj : j < 5 := by
        have := (Array.getElem?_eq_some_iff.1 hv).1
        simpa [Th.cells] using this
      rw [hat j hj]
      simpa [Th.cells] using hv
    obtain ⟨f, hf⟩ := choose_lt key
    refine ⟨(List.range len).map f, by simp, ?_, by simpa using z2⟩
    intro i t hti
    simp only [List.getElem?_map, Option.map_eq_some_iff] at hti
    obtain ⟨i', hi', rfl⟩ := hti
    obtain ⟨hlt, rfl⟩ := List.getElem?_eq_some_iff.1 hi'
    simp only [List.length_range] at hlt
    rw [List.getElem_range]
    exact ⟨x, rfl, hf i hlt⟩
end Go.Proofs.Ytfhoekcmkbeabaa
