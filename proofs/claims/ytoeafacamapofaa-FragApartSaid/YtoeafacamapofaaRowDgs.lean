
/-
  A row's argument, opened: a list of datagrams.
-/
import Derived.Test.YtoeafacamapofaaLyBase
import Derived.Test.YtoeafacamapofaaRow
import Derived.Deep.Slices
import Derived.Deep.Fields
import Derived.ChangeSame
namespace Go.Proofs.Ytoeafacamapofaa
open Go.RowKit Go.ChangeShapes Go.WideShapes Go.Deep
set_option linter.unusedVariables false

instance : Inhabited DR := ⟨⟨0, 0, none, 0, []⟩⟩
theorem weightsAll_memD {H : Type} {P : Program} {e : TypeId} : ∀ {l : List (DataW H)} {d : DataW H}, d ∈ l → ∀ n ∈ d.weights P e, n ∈ DataW.weightsAll P e l
  | x :: l, d, hd, n, hn => by
    simp only [DataW.weightsAll, List.mem_append]
    rcases List.mem_cons.1 hd with rfl | hd
    · exact .inl hn
    · exact .inr (weightsAll_memD hd n hn)
  | [], d, hd, n, hn => by simp at hd
theorem weightsEach_memD {H : Type} {P : Program} : ∀ {ts : List TypeId} {ds : List (DataW H)} {j : Nat} {t : TypeId} {d : DataW H}, ts[j]? = some t → ds[j]? = some d → ∀ n ∈ d.weights P t, n ∈ DataW.weightsEach P ts ds := DataW.weights_mem_each

theorem list_three {α : Type} : ∀ {l : List α}, l.length = 3 → ∃ a b c, l = [a, b, c]
  | [a, b, c], _ => ⟨a, b, c, rfl⟩
  | [], h | [_], h | [_, _], h => by simp at h
  | _ :: _ :: _ :: _ :: _, h => by simp at h
theorem len_reachD {len m b : Nat} (h : len ≤ m) (hB : 1 ≤ b) (z : (len + (m - len)) * b ≤ reachBytes) : len ≤ 140737488351232 := by
  have h1 : len * 1 ≤ (len + (m - len)) * b := Nat.mul_le_mul (by omega) hB
  have h2 : len * 1 ≤ reachBytes := Nat.le_trans h1 z
  rw [Nat.mul_one] at h2
  exact h2
/-- datagrams that were handed in -/
structure DROk (w : World) (r : DR) : Prop where
  src : 0 ≤ r.src ∧ r.src ≤ 255
  dst : 0 ≤ r.dst ∧ r.dst ≤ 255
  len : r.data.length ≤ 140737488351232
  nil : r.a = none → r.c = 0
  bs : Bs w r.a r.data
def DgsIn (w : World) (a : Option Addr) (rs : List DR) : Prop :=
  ∀ (i : Nat) (r : DR), rs[i]? = some r → ∃ x, a = some x ∧ (∀ (j : Nat) (v : Value), r.cells[j]? = some v → w.cell? ((x.add (i * 3)).add j) = some v) ∧ DROk w r
theorem DgsIn.st {w w' : World} {a : Option Addr} {rs : List DR} {F' : Nat → Prop} (h : DgsIn w a rs) (t : St No w F' w') : DgsIn w' a rs := by
  intro i r hi
  obtain ⟨x, e1, e2, e3⟩ := h i r hi
  refine ⟨x, e1, fun j v hv => ?_, ⟨e3.src, e3.dst, e3.len, e3.nil, e3.bs.st t (Dj.no _)⟩⟩
  have hx := e2 j v hv
  have hl := World.block_lt_of_cell? w _ hx
  rw [World.cell?_of_block (w := w)]
  · exact hx
  · exact t.block _ hl (fun hf => hf)
/-- an argument that is a slice of datagrams -/
theorem open_dgs {H : Type} {enc : TypeId × Value → H} {W : World} {base : Nat} {spare : Nat → Bool} {held : Bool} {t : TypeId} {a : Option Addr} {len cap : Nat} {d : DataW H} {ps : List MemPlace} {ts : List TypeId} {ds : List (DataW H)} {j : Nat}
    (hsz : (DataW.weightsEach Try.prog ts ds).all (· ≤ reachBytes) = true) (ht : ts[j]? = some t) (hd : ds[j]? = some d)
    (h : DataW.Trod enc Try.prog W base spare held t (.slice a len cap) d ps) (htt : t = 34 := by rfl) :
    ∃ rs : List DR, len = rs.length ∧ DgsIn W a rs ∧ rs.length ≤ 140737488351232 := by
  subst htt
  have hu := Try.underlying34
  have hs := Try.underlying38
  have hC : Try.prog.cellsOf 38 = 3 := by kernel_rfl
  have hB : 1 ≤ Try.prog.bytesOf 38 := of_decide_eq_true (by kernel_rfl)
  obtain ⟨fuel, hf⟩ := h
  rcases open_slice hu hf with ⟨hcs, _⟩ | ⟨x, l, c, m, n, D, Pl, hcs, hb, hl, hm, hmm, hx, hi⟩
  · simp [Value.cells] at hcs
    obtain ⟨rfl, rfl, rfl⟩ := hcs
    exact ⟨[], rfl, fun i t h => by simp at h, by simp⟩
  · simp [Value.cells] at hcs
    obtain ⟨rfl, rfl, rfl⟩ := hcs
    obtain ⟨hx, _⟩ := Prod.mk.inj hx
    subst hx
    have z := sized_slice hsz ht hd hu
    have hlm : len ≤ m := by rw [hmm]; split <;> omega
    simp only [List.length_map, List.length_range] at z
    have z2 : len ≤ 140737488351232 := len_reachD hlm hB z
    have hall := List.all_eq_true.1 hsz
    clear z hB
    have key : ∀ i, i < len → ∃ r : DR, (∀ j v, r.cells[j]? = some v → W.cell? ((x.add (i * 3)).add j) = some v) ∧ DROk W r := by
      intro i hil
      obtain ⟨cs, h1, h2⟩ := hi i (by omega)
      rw [hC] at h1
      obtain ⟨_, hcl, hat⟩ := World.cells?_some h1
      obtain ⟨ys, n', hn', hy, hlen, hyl, hf⟩ := DataW.trod_struct hs h2
      have hyl3 : ys.length = 3 := hyl
      clear hyl
      obtain ⟨c0, c1, c2, rfl⟩ := list_three hcl
      obtain ⟨y0, y1, y2, rfl⟩ := list_three hyl3
      simp only [Prod.mk.injEq] at hy
      have hw : ∀ q ∈ DataW.weightsEach Try.prog [28, 28, 25] [y0.1, y1.1, y2.1], q ≤ reachBytes := by
        intro q hq
        have hq2 : q ∈ (D i).weights Try.prog 38 := by
          rw [hy.1]
          unfold DataW.weights
          simp only [hs]
          exact hq
        have hq3 : q ∈ DataW.weightsAll Try.prog 38 ((List.range len).map D) := weightsAll_memD (List.mem_map.2 ⟨i, List.mem_range.2 hil, rfl⟩) q hq2
        have hq4 : q ∈ (DataW.slice ((List.range len).map D) ((List.range (m - len)).map fun j => D (len + j))).weights Try.prog 34 := by
          unfold DataW.weights
          simp only [hu]
          exact List.mem_cons_of_mem _ (List.mem_append.2 (.inl hq3))
        simpa using hall q (weightsEach_memD ht hd q hq4)
      have g0 : DataW.trod enc Try.prog W base spare held n' 28 (([c0, c1, c2].drop 0).take (Try.prog.cellsOf 28)) = some y0 := hf 0 _ rfl
      rw [show Try.prog.cellsOf 28 = 1 by kernel_rfl] at g0
      have g0 : DataW.trod enc Try.prog W base spare held n' 28 [c0] = some y0 := g0
      have g1 : DataW.trod enc Try.prog W base spare held n' 28 (([c0, c1, c2].drop 1).take (Try.prog.cellsOf 28)) = some y1 := hf 1 _ rfl
      rw [show Try.prog.cellsOf 28 = 1 by kernel_rfl] at g1
      have g1 : DataW.trod enc Try.prog W base spare held n' 28 [c1] = some y1 := g1
      have g4 : DataW.trod enc Try.prog W base spare held n' 25 (([c0, c1, c2].drop 2).take (Try.prog.cellsOf 25)) = some y2 := hf 2 _ rfl
      rw [show Try.prog.cellsOf 25 = 1 by kernel_rfl] at g4
      have g4 : DataW.trod enc Try.prog W base spare held n' 25 [c2] = some y2 := g4
      obtain ⟨v0, e0, _, w0⟩ := DataW.trod_int Try.underlying28 g0
      obtain ⟨v1, e1, _, w1⟩ := DataW.trod_int Try.underlying28 g1
      obtain ⟨a4, l4, cp4, rfl⟩ : ∃ a l c, c2 = .slice a l c := by
        rcases open_slice Try.underlying25 g4 with ⟨h, _⟩ | ⟨x, l, c, _, _, _, _, h, _⟩
        · simp at h; exact ⟨_, _, _, h⟩
        · simp at h; exact ⟨_, _, _, h⟩
      obtain ⟨xs, rfl, hbs, hnil, hxl⟩ := open_bytes (P := Try.prog) (W := W) (base := base) (spare := spare) (held := held) (enc := enc) (d := y2.1) (ps := y2.2) (a := a4) (cap := cp4) (ts := [28, 28, 25]) (ds := [y0.1, y1.1, y2.1]) (j := 2) (t := 25)
        (List.all_eq_true.2 (fun q hq => by simpa using hw q hq)) rfl rfl Try.underlying25 Try.underlying5 (by kernel_rfl) (by kernel_rfl) ⟨_, g4⟩
      simp only [List.cons.injEq, and_true] at e0 e1
      subst e0 e1
      have b0 := wf_bounds_u8 w0
      have b1 := wf_bounds_u8 w1
      refine ⟨⟨v0, v1, a4, cp4, xs⟩, ?_, ⟨by show 0 ≤ v0 ∧ v0 ≤ 255; omega, by show 0 ≤ v1 ∧ v1 ≤ 255; omega, hxl, hnil, hbs⟩⟩
      intro j v hv
      have hj : j < 3 := by
        have := (List.getElem?_eq_some_iff.1 hv).1
        simpa [DR.cells] using this
      rw [hat j hj]
      simpa [DR.cells] using hv
    obtain ⟨f, hf⟩ := choose_lt key
    refine ⟨(List.range len).map f, by simp, ?_, by simpa using z2⟩
    intro i t hti
    simp only [List.getElem?_map, Option.map_eq_some_iff] at hti
    obtain ⟨i', hi', rfl⟩ := hti
    obtain ⟨hlt, rfl⟩ := List.getElem?_eq_some_iff.1 hi'
    simp only [List.length_range] at hlt
    rw [List.getElem_range]
    exact ⟨x, rfl, hf i hlt⟩
end Go.Proofs.Ytoeafacamapofaa
