
/-
  A row's argument, opened: a list of lists of bytes.
-/
import Derived.Test.YtjepmckofocdnaaRowUp
import Derived.Test.YtjepmckofocdnaaRow
import Derived.Deep.Slices
import Derived.Deep.Fields
import Derived.ChangeSame
import Derived.OpenShut
namespace Go.Proofs.Ytjepmckofocdnaa
open Go.RowKit Go.ChangeShapes Go.WideShapes Go.Deep
set_option linter.unusedVariables false

/-- a list of lists of bytes that was handed in -/
def Lists (w : World) (a : Option Addr) (L : List (List B8)) : Prop :=
  ∀ (i : Nat) (xs : List B8), L[i]? = some xs → ∃ x b c, a = some x ∧ w.cell? (x.add i) = some (.slice b xs.length c) ∧ Bs w b xs ∧ (b = none → c = 0) ∧ xs.length ≤ 140737488351232
def sumLen : List (List B8) → Nat
  | [] => 0
  | b :: l => (b.length + 8) + sumLen l
theorem mem_weightsAll {H : Type} {P : Program} {e : TypeId} : ∀ {l : List (DataW H)} {d : DataW H}, d ∈ l → ∀ n ∈ d.weights P e, n ∈ DataW.weightsAll P e l
  | x :: l, d, hd, n, hn => by
    simp only [DataW.weightsAll, List.mem_append]
    rcases List.mem_cons.1 hd with rfl | hd
    · exact .inl hn
    · exact .inr (mem_weightsAll hd n hn)
  | [], d, hd, n, hn => by simp at hd
theorem bulk_one {H : Type} (d : DataW H) : 1 ≤ Rows.uptoBulk d := by
  cases d with
  | lit l => cases l <;> simp [Rows.uptoBulk]
  | _ => simp [Rows.uptoBulk]
theorem sum_bulk {H : Type} (f : Nat → List B8) (D : Nat → DataW H) : ∀ l : List Nat, (∀ i ∈ l, (f i).length + 8 ≤ 9 * Rows.uptoBulk (D i)) → sumLen (l.map f) ≤ 9 * Rows.uptoBulkAll (l.map D)
  | [], _ => by simp [sumLen]
  | i :: l, h => by
    have h1 := h i (List.mem_cons_self ..)
    have h2 := sum_bulk f D l (fun j hj => h j (List.mem_cons_of_mem _ hj))
    simp only [List.map_cons, sumLen, Rows.uptoBulkAll]
    omega
theorem many_reach {len m b : Nat} (h : len ≤ m) (hB : 1 ≤ b) (z : (len + (m - len)) * b ≤ reachBytes) : len ≤ 140737488351232 := by
  have h1 : len * 1 ≤ (len + (m - len)) * b := Nat.mul_le_mul (by omega) hB
  have h2 : len * 1 ≤ reachBytes := Nat.le_trans h1 z
  rw [Nat.mul_one] at h2
  exact h2
/-- an argument that is a list of lists of bytes -/
theorem open_lists {H : Type} {enc : TypeId × Value → H} {W : World} {base : Nat} {spare : Nat → Bool} {held : Bool} {t : TypeId} {a : Option Addr} {len cap : Nat} {d : DataW H} {ps : List MemPlace} {ts : List TypeId} {ds : List (DataW H)} {j : Nat}
    (hsz : (DataW.weightsEach Try.prog ts ds).all (· ≤ reachBytes) = true) (ht : ts[j]? = some t) (hd : ds[j]? = some d)
    (h : DataW.Trod enc Try.prog W base spare held t (.slice a len cap) d ps) (htt : t = 44 := by rfl) :
    ∃ L : List (List B8), len = L.length ∧ Lists W a L ∧ L.length ≤ 140737488351232 ∧ sumLen L ≤ 9 * Rows.uptoBulk d := by
  subst htt
  have hu := Try.underlying44
  have hs := Try.underlying48
  have hC : Try.prog.cellsOf 48 = 1 := by kernel_rfl
  have hB : 1 ≤ Try.prog.bytesOf 48 := of_decide_eq_true (by kernel_rfl)
  obtain ⟨fuel, hf⟩ := h
  rcases open_slice hu hf with ⟨hcs, _⟩ | ⟨x, l, c, m, n, D, Pl, hcs, hb, hl, hm, hmm, hx, hi⟩
  · simp [Value.cells] at hcs
    obtain ⟨rfl, rfl, rfl⟩ := hcs
    exact ⟨[], rfl, fun i t h => by simp at h, by simp, by simp [sumLen]⟩
  · simp [Value.cells] at hcs
    obtain ⟨rfl, rfl, rfl⟩ := hcs
    obtain ⟨hx, _⟩ := Prod.mk.inj hx
    subst hx
    have z := sized_slice hsz ht hd hu
    have hlm : len ≤ m := by rw [hmm]; split <;> omega
    simp only [List.length_map, List.length_range] at z
    have z2 : len ≤ 140737488351232 := many_reach hlm hB z
    have hall := List.all_eq_true.1 hsz
    clear z hB
    have key : ∀ i, i < len → ∃ xs : List B8, (∃ b c, W.cell? (x.add i) = some (.slice b xs.length c) ∧ Bs W b xs ∧ (b = none → c = 0)) ∧ xs.length ≤ 140737488351232 ∧ xs.length + 8 ≤ 9 * Rows.uptoBulk (D i) := by
      intro i hil
      obtain ⟨cs, h1, h2⟩ := hi i (by omega)
      rw [hC] at h1
      obtain ⟨_, hcl, hat⟩ := World.cells?_some h1
      obtain ⟨c0, rfl⟩ := List.length_eq_one_iff.1 hcl
      obtain ⟨a4, l4, cp4, rfl⟩ : ∃ a l c, c0 = .slice a l c := by
        rcases open_slice hs h2 with ⟨h, _⟩ | ⟨x, l, c, _, _, _, _, h, _⟩
        · simp at h; exact ⟨_, _, _, h⟩
        · simp at h; exact ⟨_, _, _, h⟩
      have hw : ∀ q ∈ DataW.weightsEach Try.prog [48] [D i], q ≤ reachBytes := by
        intro q hq
        have hq2 : q ∈ (D i).weights Try.prog 48 := by simpa [DataW.weightsEach] using hq
        have hq3 : q ∈ DataW.weightsAll Try.prog 48 ((List.range len).map D) := mem_weightsAll (List.mem_map.2 ⟨i, List.mem_range.2 hil, rfl⟩) q hq2
        have hq4 : q ∈ (DataW.slice ((List.range len).map D) ((List.range (m - len)).map fun j => D (len + j))).weights Try.prog 44 := by
          unfold DataW.weights
          simp only [hu]
          exact List.mem_cons_of_mem _ (List.mem_append.2 (.inl hq3))
        simpa using hall q (DataW.weights_mem_each ht hd q hq4)
      have hT : DataW.Trod enc Try.prog W base spare held 48 (.slice a4 l4 cp4) (D i) (Pl i) := ⟨_, h2⟩
      obtain ⟨xs, rfl, hbs, hnil, hxl⟩ := open_bytes (ts := [48]) (ds := [D i]) (j := 0) (t := 48) (List.all_eq_true.2 (fun q hq => by simpa using hw q hq)) rfl rfl hs Try.underlying5 (by kernel_rfl) (by kernel_rfl) hT
      have hbk := bulk_bytes hs Try.underlying5 (by kernel_rfl) hT
      have h1b := bulk_one (D i)
      refine ⟨xs, ⟨a4, cp4, ?_, hbs, hnil⟩, hxl, by omega⟩
      have := hat 0 (by omega)
      simpa [Addr.add] using this
    obtain ⟨f, hf⟩ := choose_lt key
    refine ⟨(List.range len).map f, by simp, ?_, by simpa using z2, ?_⟩
    · intro i t hti
      simp only [List.getElem?_map, Option.map_eq_some_iff] at hti
      obtain ⟨i', hi', rfl⟩ := hti
      obtain ⟨hlt, rfl⟩ := List.getElem?_eq_some_iff.1 hi'
      simp only [List.length_range] at hlt
      rw [List.getElem_range]
      obtain ⟨⟨b, c, e1, e2, e3⟩, e4, _⟩ := hf i hlt
      exact ⟨x, b, c, rfl, e1, e2, e3, e4⟩
    · have hs1 := sum_bulk f D (List.range len) (fun i hi => (hf i (List.mem_range.1 hi)).2.2)
      refine Nat.le_trans hs1 (Nat.mul_le_mul_left 9 ?_)
      simp only [Rows.uptoBulk]
      omega
theorem Lists.st {w w' : World} {a : Option Addr} {L : List (List B8)} {F' : Nat → Prop} (h : Lists w a L) (t : St No w F' w') : Lists w' a L := by
  intro i xs hi
  obtain ⟨x, b, c, e1, e2, e3, e4, e5⟩ := h i xs hi
  refine ⟨x, b, c, e1, ?_, e3.st t (Dj.no _), e4, e5⟩
  have hl := World.block_lt_of_cell? w _ e2
  rw [World.cell?_of_block (w := w)]
  · exact e2
  · exact t.block _ hl (fun hf => hf)
end Go.Proofs.Ytjepmckofocdnaa
