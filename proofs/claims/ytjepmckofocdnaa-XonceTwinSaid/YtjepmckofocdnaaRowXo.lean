
/-
  Rows' arguments, opened: an end's setup, a script of its steps.
-/
import Derived.Test.YtjepmckofocdnaaRowLists
import Derived.Deep.Slices
import Derived.Deep.Fields
import Derived.ChangeSame
namespace Go.Proofs.Ytjepmckofocdnaa
open Go.RowKit Go.ChangeShapes Go.WideShapes Go.Deep
set_option linter.unusedVariables false
set_option linter.unusedSimpArgs false

theorem lst1 {α : Type} : ∀ {l : List α}, l.length = 1 → ∃ x0, l = [x0]
  | l, h => by
    rcases l with _ | ⟨x0, l⟩
    · simp at h
    rcases l with _ | ⟨y, l⟩
    · exact ⟨x0, rfl⟩
    · simp at h <;> omega
theorem lst2 {α : Type} : ∀ {l : List α}, l.length = 2 → ∃ x0 x1, l = [x0, x1]
  | l, h => by
    rcases l with _ | ⟨x0, l⟩
    · simp at h
    rcases l with _ | ⟨x1, l⟩
    · simp at h
    rcases l with _ | ⟨y, l⟩
    · exact ⟨x0, x1, rfl⟩
    · simp at h <;> omega
theorem lst3 {α : Type} : ∀ {l : List α}, l.length = 3 → ∃ x0 x1 x2, l = [x0, x1, x2]
  | l, h => by
    rcases l with _ | ⟨x0, l⟩
    · simp at h
    rcases l with _ | ⟨x1, l⟩
    · simp at h
    rcases l with _ | ⟨x2, l⟩
    · simp at h
    rcases l with _ | ⟨y, l⟩
    · exact ⟨x0, x1, x2, rfl⟩
    · simp at h <;> omega
theorem lst6 {α : Type} : ∀ {l : List α}, l.length = 6 → ∃ x0 x1 x2 x3 x4 x5, l = [x0, x1, x2, x3, x4, x5]
  | l, h => by
    rcases l with _ | ⟨x0, l⟩
    · simp at h
    rcases l with _ | ⟨x1, l⟩
    · simp at h
    rcases l with _ | ⟨x2, l⟩
    · simp at h
    rcases l with _ | ⟨x3, l⟩
    · simp at h
    rcases l with _ | ⟨x4, l⟩
    · simp at h
    rcases l with _ | ⟨x5, l⟩
    · simp at h
    rcases l with _ | ⟨y, l⟩
    · exact ⟨x0, x1, x2, x3, x4, x5, rfl⟩
    · simp at h <;> omega
theorem lst17 {α : Type} : ∀ {l : List α}, l.length = 17 → ∃ x0 x1 x2 x3 x4 x5 x6 x7 x8 x9 x10 x11 x12 x13 x14 x15 x16, l = [x0, x1, x2, x3, x4, x5, x6, x7, x8, x9, x10, x11, x12, x13, x14, x15, x16]
  | l, h => by
    rcases l with _ | ⟨x0, l⟩
    · simp at h
    rcases l with _ | ⟨x1, l⟩
    · simp at h
    rcases l with _ | ⟨x2, l⟩
    · simp at h
    rcases l with _ | ⟨x3, l⟩
    · simp at h
    rcases l with _ | ⟨x4, l⟩
    · simp at h
    rcases l with _ | ⟨x5, l⟩
    · simp at h
    rcases l with _ | ⟨x6, l⟩
    · simp at h
    rcases l with _ | ⟨x7, l⟩
    · simp at h
    rcases l with _ | ⟨x8, l⟩
    · simp at h
    rcases l with _ | ⟨x9, l⟩
    · simp at h
    rcases l with _ | ⟨x10, l⟩
    · simp at h
    rcases l with _ | ⟨x11, l⟩
    · simp at h
    rcases l with _ | ⟨x12, l⟩
    · simp at h
    rcases l with _ | ⟨x13, l⟩
    · simp at h
    rcases l with _ | ⟨x14, l⟩
    · simp at h
    rcases l with _ | ⟨x15, l⟩
    · simp at h
    rcases l with _ | ⟨x16, l⟩
    · simp at h
    rcases l with _ | ⟨y, l⟩
    · exact ⟨x0, x1, x2, x3, x4, x5, x6, x7, x8, x9, x10, x11, x12, x13, x14, x15, x16, rfl⟩
    · simp at h <;> omega
theorem lst19 {α : Type} : ∀ {l : List α}, l.length = 19 → ∃ x0 x1 x2 x3 x4 x5 x6 x7 x8 x9 x10 x11 x12 x13 x14 x15 x16 x17 x18, l = [x0, x1, x2, x3, x4, x5, x6, x7, x8, x9, x10, x11, x12, x13, x14, x15, x16, x17, x18]
  | l, h => by
    rcases l with _ | ⟨x0, l⟩
    · simp at h
    rcases l with _ | ⟨x1, l⟩
    · simp at h
    rcases l with _ | ⟨x2, l⟩
    · simp at h
    rcases l with _ | ⟨x3, l⟩
    · simp at h
    rcases l with _ | ⟨x4, l⟩
    · simp at h
    rcases l with _ | ⟨x5, l⟩
    · simp at h
    rcases l with _ | ⟨x6, l⟩
    · simp at h
    rcases l with _ | ⟨x7, l⟩
    · simp at h
    rcases l with _ | ⟨x8, l⟩
    · simp at h
    rcases l with _ | ⟨x9, l⟩
    · simp at h
    rcases l with _ | ⟨x10, l⟩
    · simp at h
    rcases l with _ | ⟨x11, l⟩
    · simp at h
    rcases l with _ | ⟨x12, l⟩
    · simp at h
    rcases l with _ | ⟨x13, l⟩
    · simp at h
    rcases l with _ | ⟨x14, l⟩
    · simp at h
    rcases l with _ | ⟨x15, l⟩
    · simp at h
    rcases l with _ | ⟨x16, l⟩
    · simp at h
    rcases l with _ | ⟨x17, l⟩
    · simp at h
    rcases l with _ | ⟨x18, l⟩
    · simp at h
    rcases l with _ | ⟨y, l⟩
    · exact ⟨x0, x1, x2, x3, x4, x5, x6, x7, x8, x9, x10, x11, x12, x13, x14, x15, x16, x17, x18, rfl⟩
    · simp at h <;> omega
/-- how long a slice of anything may be -/
theorem open_len {H : Type} {enc : TypeId × Value → H} {W : World} {base : Nat} {spare : Nat → Bool} {held : Bool} {t e : TypeId} {a : Option Addr} {len cap : Nat} {d : DataW H} {ps : List MemPlace} {ts : List TypeId} {ds : List (DataW H)} {j : Nat}
    (hsz : (DataW.weightsEach Try.prog ts ds).all (· ≤ reachBytes) = true) (ht : ts[j]? = some t) (hd : ds[j]? = some d) (hu : Try.prog.underlying t = some (.slice e)) (hB : 1 ≤ Try.prog.bytesOf e)
    (h : DataW.Trod enc Try.prog W base spare held t (.slice a len cap) d ps) : len ≤ 140737488351232 := by
  obtain ⟨fuel, hf⟩ := h
  rcases open_slice hu hf with ⟨hcs, _⟩ | ⟨x, l, c, m, n, D, Pl, hcs, hb, hl, hm, hmm, hx, hi⟩
  · simp [Value.cells] at hcs
    obtain ⟨rfl, rfl, rfl⟩ := hcs
    omega
  · simp [Value.cells] at hcs
    obtain ⟨rfl, rfl, rfl⟩ := hcs
    obtain ⟨hx, _⟩ := Prod.mk.inj hx
    subst hx
    have z := sized_slice hsz ht hd hu
    have hlm : len ≤ m := by rw [hmm]; split <;> omega
    simp only [List.length_map, List.length_range] at z
    exact many_reach hlm hB z
theorem open_lists2 {H : Type} {enc : TypeId × Value → H} {W : World} {base : Nat} {spare : Nat → Bool} {held : Bool} {t : TypeId} {a : Option Addr} {len cap : Nat} {d : DataW H} {ps : List MemPlace} {ts : List TypeId} {ds : List (DataW H)} {j : Nat}
    (hsz : (DataW.weightsEach Try.prog ts ds).all (· ≤ reachBytes) = true) (ht : ts[j]? = some t) (hd : ds[j]? = some d)
    (h : DataW.Trod enc Try.prog W base spare held t (.slice a len cap) d ps) (htt : t = 44 := by rfl) :
    ∃ L : List (List B8), len = L.length ∧ Lists W a L ∧ L.length ≤ 140737488351232 := by
  obtain ⟨L, h1, h2, h3, _⟩ := open_lists hsz ht hd h htt
  exact ⟨L, h1, h2, h3⟩
structure FrR where
  seq : Int
  bA : Option Addr
  bC : Nat
  b : List B8
def FrR.cells (r : FrR) : List Value := [.int .u64 r.seq, .slice r.bA r.b.length r.bC]
theorem FrR.cells_len (r : FrR) : r.cells.length = 2 := rfl
structure FrR.Ok (w : World) (r : FrR) : Prop where
  seq : 0 ≤ r.seq ∧ r.seq ≤ 18446744073709551615
  b : Bs w r.bA r.b ∧ r.b.length ≤ 140737488351232 ∧ (r.bA = none → r.bC = 0)
theorem FrR.Ok.st {w w' : World} {r : FrR} {F : Nat → Prop} (h : r.Ok w) (t : St No w F w') : r.Ok w' where
  seq := h.seq
  b := ⟨h.b.1.st t (Dj.no _), h.b.2⟩
def FrsIn (w : World) (a : Option Addr) (rs : List FrR) : Prop := ∀ (i : Nat) (r : FrR), rs[i]? = some r → ∃ x, a = some x ∧ (∀ (j : Nat) (v : Value), r.cells[j]? = some v → w.cell? ((x.add (i * 2)).add j) = some v) ∧ r.Ok w
theorem FrsIn.st {w w' : World} {a : Option Addr} {rs : List FrR} {F : Nat → Prop} (h : FrsIn w a rs) (t : St No w F w') : FrsIn w' a rs := by
  intro i r hi
  obtain ⟨x, e1, e2, e3⟩ := h i r hi
  refine ⟨x, e1, fun j v hv => ?_, e3.st t⟩
  have hx := e2 j v hv
  have hl := World.block_lt_of_cell? w _ hx
  rw [World.cell?_of_block (w := w)]
  · exact hx
  · exact t.block _ hl (fun hf => hf)
instance : Inhabited FrR := ⟨⟨0, none, 0, []⟩⟩
set_option maxRecDepth 100000 in
/-- an argument that is a slice of these -/
theorem open_frs {H : Type} {enc : TypeId × Value → H} {W : World} {base : Nat} {spare : Nat → Bool} {held : Bool} {t : TypeId} {a : Option Addr} {len cap : Nat} {d : DataW H} {ps : List MemPlace} {ts : List TypeId} {ds : List (DataW H)} {j : Nat}
    (hsz : (DataW.weightsEach Try.prog ts ds).all (· ≤ reachBytes) = true) (ht : ts[j]? = some t) (hd : ds[j]? = some d)
    (h : DataW.Trod enc Try.prog W base spare held t (.slice a len cap) d ps) (htt : t = 67 := by rfl) :
    ∃ rs : List FrR, len = rs.length ∧ FrsIn W a rs ∧ rs.length ≤ 140737488351232 := by
  subst htt
  have hu := Try.underlying67
  have hC : Try.prog.cellsOf 133 = 2 := by kernel_rfl
  have hB : 1 ≤ Try.prog.bytesOf 133 := of_decide_eq_true (by kernel_rfl)
  obtain ⟨fuel, hf⟩ := h
  rcases open_slice hu hf with ⟨hcs, _⟩ | ⟨x, l, c, m, n, D, Pl, hcs, hb, hl, hm, hmm, hx, hi⟩
  · simp [Value.cells] at hcs
    obtain ⟨rfl, rfl, rfl⟩ := hcs
    exact ⟨[], rfl, fun i t h => by simp at h, by simp⟩
  · simp [Value.cells] at hcs
    obtain ⟨rfl, rfl, rfl⟩ := hcs
    obtain ⟨hx, _⟩ := Prod.mk.inj hx
    subst hx
    have z := sized_slice hsz ht hd hu
    have hlm : len ≤ m := by rw [hmm]; split <;> omega
    simp only [List.length_map, List.length_range] at z
    have z2 : len ≤ 140737488351232 := many_reach hlm hB z
    have hall := List.all_eq_true.1 hsz
    clear z hB
    have key : ∀ i, i < len → ∃ r : FrR, (∀ j v, r.cells[j]? = some v → W.cell? ((x.add (i * 2)).add j) = some v) ∧ r.Ok W := by
      intro i hil
      obtain ⟨cs, h1, h2⟩ := hi i (by omega)
      rw [hC] at h1
      obtain ⟨_, hcl, hat⟩ := World.cells?_some h1
      have hwD : ∀ q ∈ (D i).weights Try.prog 133, q ≤ reachBytes := by
        intro q hq2
        have hq3 : q ∈ DataW.weightsAll Try.prog 133 ((List.range len).map D) := mem_weightsAll (List.mem_map.2 ⟨i, List.mem_range.2 hil, rfl⟩) q hq2
        have hq4 : q ∈ (DataW.slice ((List.range len).map D) ((List.range (m - len)).map fun j => D (len + j))).weights Try.prog 67 := by
          unfold DataW.weights
          simp only [hu]
          exact List.mem_cons_of_mem _ (List.mem_append.2 (.inl hq3))
        simpa using hall q (DataW.weights_mem_each ht hd q hq4)
      obtain ⟨c0, c1, rfl⟩ := lst2 hcl
      have hs_1 := Try.underlying133
      obtain ⟨ys1, n1, hn1, hy1, hlen1, hyl1, hf1⟩ := DataW.trod_struct hs_1 h2
      have hyk1 : ys1.length = 2 := hyl1
      clear hyl1
      obtain ⟨y1_0, y1_1, rfl⟩ := lst2 hyk1
      first | simp only [Prod.mk.injEq] at hy1 | (replace hy1 := And.intro (congrArg Prod.fst hy1) trivial; dsimp only at hy1)
      have hw1 : ∀ q ∈ DataW.weightsEach Try.prog [54, 48] [y1_0.1, y1_1.1], q ≤ reachBytes := by
        intro q hq
        refine hwD q ?_
        rw [hy1.1]
        unfold DataW.weights
        simp only [hs_1]
        exact hq
      have g1_0 : DataW.trod enc Try.prog W base spare held n1 54 (([c0, c1].drop 0).take (Try.prog.cellsOf 54)) = some y1_0 := hf1 0 _ rfl
      rw [show Try.prog.cellsOf 54 = 1 by kernel_rfl] at g1_0
      have g1_0 : DataW.trod enc Try.prog W base spare held n1 54 [c0] = some y1_0 := g1_0
      have g1_1 : DataW.trod enc Try.prog W base spare held n1 48 (([c0, c1].drop 1).take (Try.prog.cellsOf 48)) = some y1_1 := hf1 1 _ rfl
      rw [show Try.prog.cellsOf 48 = 1 by kernel_rfl] at g1_1
      have g1_1 : DataW.trod enc Try.prog W base spare held n1 48 [c1] = some y1_1 := g1_1
      obtain ⟨vg1_0, eg1_0, _, wg1_0⟩ := DataW.trod_int Try.underlying54 g1_0
      have fg1_0 := List.head_eq_of_cons_eq eg1_0
      subst fg1_0
      have bdg1_0 : 0 ≤ vg1_0 ∧ vg1_0 ≤ 18446744073709551615 := ⟨(wf_bounds_u64 wg1_0).1, by have := (wf_bounds_u64 wg1_0).2; omega⟩
      obtain ⟨ag1_1, lg1_1, cg1_1, rfl⟩ : ∃ a l c, c1 = .slice a l c := by
        rcases open_slice Try.underlying48 g1_1 with ⟨h, _⟩ | ⟨x, l, c, _, _, _, _, h, _⟩
        · simp at h; exact ⟨_, _, _, h⟩
        · simp at h; exact ⟨_, _, _, h⟩
      obtain ⟨xg1_1, rfl, hbg1_1, hng1_1, hlg1_1⟩ := open_bytes (P := Try.prog) (W := W) (base := base) (spare := spare) (held := held) (enc := enc) (d := y1_1.1) (ps := y1_1.2) (a := ag1_1) (cap := cg1_1) (ts := [54, 48]) (ds := [y1_0.1, y1_1.1]) (j := 1) (t := 48)
        (List.all_eq_true.2 (fun q hq => by simpa using hw1 q hq)) rfl rfl Try.underlying48 Try.underlying5 (by kernel_rfl) (by kernel_rfl) ⟨_, g1_1⟩
      refine ⟨⟨vg1_0, ag1_1, cg1_1, xg1_1⟩, ?_, ⟨bdg1_0, ⟨hbg1_1, hlg1_1, hng1_1⟩⟩⟩
      intro j v hv
      have hj : j < 2 := by
        have := (List.getElem?_eq_some_iff.1 hv).1
        simpa [FrR.cells] using this
      rw [hat j hj]
      simpa [FrR.cells] using hv
    obtain ⟨f, hf⟩ := choose_lt key
    refine ⟨(List.range len).map f, by simp, ?_, by simpa using z2⟩
    intro i t hti
    simp only [List.getElem?_map, Option.map_eq_some_iff] at hti
    obtain ⟨i', hi', rfl⟩ := hti
    obtain ⟨hlt, rfl⟩ := List.getElem?_eq_some_iff.1 hi'
    simp only [List.length_range] at hlt
    rw [List.getElem_range]
    exact ⟨x, rfl, hf i hlt⟩
structure PsR where
  sent : Int
  acked : Int
  queueA : Option Addr
  queueC : Nat
  queue : List (List B8)
  mask : BitVec 64
  delivered : Int
  earlyA : Option Addr
  earlyC : Nat
  early : List FrR
def PsR.cells (r : PsR) : List Value := [.int .u64 r.sent, .int .u64 r.acked, .slice r.queueA r.queue.length r.queueC, .int .u64 (r.mask.toNat : Int), .int .u64 r.delivered, .slice r.earlyA r.early.length r.earlyC]
theorem PsR.cells_len (r : PsR) : r.cells.length = 6 := rfl
structure PsR.Ok (w : World) (r : PsR) : Prop where
  sent : 0 ≤ r.sent ∧ r.sent ≤ 18446744073709551615
  acked : 0 ≤ r.acked ∧ r.acked ≤ 18446744073709551615
  queue : Lists w r.queueA r.queue ∧ r.queue.length ≤ 140737488351232
  delivered : 0 ≤ r.delivered ∧ r.delivered ≤ 18446744073709551615
  early : FrsIn w r.earlyA r.early ∧ r.early.length ≤ 140737488351232
theorem PsR.Ok.st {w w' : World} {r : PsR} {F : Nat → Prop} (h : r.Ok w) (t : St No w F w') : r.Ok w' where
  sent := h.sent
  acked := h.acked
  queue := ⟨h.queue.1.st t, h.queue.2⟩
  delivered := h.delivered
  early := ⟨h.early.1.st t, h.early.2⟩
def PssIn (w : World) (a : Option Addr) (rs : List PsR) : Prop := ∀ (i : Nat) (r : PsR), rs[i]? = some r → ∃ x, a = some x ∧ (∀ (j : Nat) (v : Value), r.cells[j]? = some v → w.cell? ((x.add (i * 6)).add j) = some v) ∧ r.Ok w
theorem PssIn.st {w w' : World} {a : Option Addr} {rs : List PsR} {F : Nat → Prop} (h : PssIn w a rs) (t : St No w F w') : PssIn w' a rs := by
  intro i r hi
  obtain ⟨x, e1, e2, e3⟩ := h i r hi
  refine ⟨x, e1, fun j v hv => ?_, e3.st t⟩
  have hx := e2 j v hv
  have hl := World.block_lt_of_cell? w _ hx
  rw [World.cell?_of_block (w := w)]
  · exact hx
  · exact t.block _ hl (fun hf => hf)
instance : Inhabited PsR := ⟨⟨0, 0, none, 0, [], 0, 0, none, 0, []⟩⟩
set_option maxRecDepth 100000 in
/-- an argument that is a slice of these -/
theorem open_pss {H : Type} {enc : TypeId × Value → H} {W : World} {base : Nat} {spare : Nat → Bool} {held : Bool} {t : TypeId} {a : Option Addr} {len cap : Nat} {d : DataW H} {ps : List MemPlace} {ts : List TypeId} {ds : List (DataW H)} {j : Nat}
    (hsz : (DataW.weightsEach Try.prog ts ds).all (· ≤ reachBytes) = true) (ht : ts[j]? = some t) (hd : ds[j]? = some d)
    (h : DataW.Trod enc Try.prog W base spare held t (.slice a len cap) d ps) (htt : t = 22 := by rfl) :
    ∃ rs : List PsR, len = rs.length ∧ PssIn W a rs ∧ rs.length ≤ 140737488351232 := by
  subst htt
  have hu := Try.underlying22
  have hC : Try.prog.cellsOf 69 = 6 := by kernel_rfl
  have hB : 1 ≤ Try.prog.bytesOf 69 := of_decide_eq_true (by kernel_rfl)
  obtain ⟨fuel, hf⟩ := h
  rcases open_slice hu hf with ⟨hcs, _⟩ | ⟨x, l, c, m, n, D, Pl, hcs, hb, hl, hm, hmm, hx, hi⟩
  · simp [Value.cells] at hcs
    obtain ⟨rfl, rfl, rfl⟩ := hcs
    exact ⟨[], rfl, fun i t h => by simp at h, by simp⟩
  · simp [Value.cells] at hcs
    obtain ⟨rfl, rfl, rfl⟩ := hcs
    obtain ⟨hx, _⟩ := Prod.mk.inj hx
    subst hx
    have z := sized_slice hsz ht hd hu
    have hlm : len ≤ m := by rw [hmm]; split <;> omega
    simp only [List.length_map, List.length_range] at z
    have z2 : len ≤ 140737488351232 := many_reach hlm hB z
    have hall := List.all_eq_true.1 hsz
    clear z hB
    have key : ∀ i, i < len → ∃ r : PsR, (∀ j v, r.cells[j]? = some v → W.cell? ((x.add (i * 6)).add j) = some v) ∧ r.Ok W := by
      intro i hil
      obtain ⟨cs, h1, h2⟩ := hi i (by omega)
      rw [hC] at h1
      obtain ⟨_, hcl, hat⟩ := World.cells?_some h1
      have hwD : ∀ q ∈ (D i).weights Try.prog 69, q ≤ reachBytes := by
        intro q hq2
        have hq3 : q ∈ DataW.weightsAll Try.prog 69 ((List.range len).map D) := mem_weightsAll (List.mem_map.2 ⟨i, List.mem_range.2 hil, rfl⟩) q hq2
        have hq4 : q ∈ (DataW.slice ((List.range len).map D) ((List.range (m - len)).map fun j => D (len + j))).weights Try.prog 22 := by
          unfold DataW.weights
          simp only [hu]
          exact List.mem_cons_of_mem _ (List.mem_append.2 (.inl hq3))
        simpa using hall q (DataW.weights_mem_each ht hd q hq4)
      obtain ⟨c0, c1, c2, c3, c4, c5, rfl⟩ := lst6 hcl
      have hs_2 := Try.underlying69
      obtain ⟨ys2, n2, hn2, hy2, hlen2, hyl2, hf2⟩ := DataW.trod_struct hs_2 h2
      have hyk2 : ys2.length = 6 := hyl2
      clear hyl2
      obtain ⟨y2_0, y2_1, y2_2, y2_3, y2_4, y2_5, rfl⟩ := lst6 hyk2
      first | simp only [Prod.mk.injEq] at hy2 | (replace hy2 := And.intro (congrArg Prod.fst hy2) trivial; dsimp only at hy2)
      have hw2 : ∀ q ∈ DataW.weightsEach Try.prog [54, 54, 44, 54, 54, 67] [y2_0.1, y2_1.1, y2_2.1, y2_3.1, y2_4.1, y2_5.1], q ≤ reachBytes := by
        intro q hq
        refine hwD q ?_
        rw [hy2.1]
        unfold DataW.weights
        simp only [hs_2]
        exact hq
      have g2_0 : DataW.trod enc Try.prog W base spare held n2 54 (([c0, c1, c2, c3, c4, c5].drop 0).take (Try.prog.cellsOf 54)) = some y2_0 := hf2 0 _ rfl
      rw [show Try.prog.cellsOf 54 = 1 by kernel_rfl] at g2_0
      have g2_0 : DataW.trod enc Try.prog W base spare held n2 54 [c0] = some y2_0 := g2_0
      have g2_1 : DataW.trod enc Try.prog W base spare held n2 54 (([c0, c1, c2, c3, c4, c5].drop 1).take (Try.prog.cellsOf 54)) = some y2_1 := hf2 1 _ rfl
      rw [show Try.prog.cellsOf 54 = 1 by kernel_rfl] at g2_1
      have g2_1 : DataW.trod enc Try.prog W base spare held n2 54 [c1] = some y2_1 := g2_1
      have g2_2 : DataW.trod enc Try.prog W base spare held n2 44 (([c0, c1, c2, c3, c4, c5].drop 2).take (Try.prog.cellsOf 44)) = some y2_2 := hf2 2 _ rfl
      rw [show Try.prog.cellsOf 44 = 1 by kernel_rfl] at g2_2
      have g2_2 : DataW.trod enc Try.prog W base spare held n2 44 [c2] = some y2_2 := g2_2
      have g2_3 : DataW.trod enc Try.prog W base spare held n2 54 (([c0, c1, c2, c3, c4, c5].drop 3).take (Try.prog.cellsOf 54)) = some y2_3 := hf2 3 _ rfl
      rw [show Try.prog.cellsOf 54 = 1 by kernel_rfl] at g2_3
      have g2_3 : DataW.trod enc Try.prog W base spare held n2 54 [c3] = some y2_3 := g2_3
      have g2_4 : DataW.trod enc Try.prog W base spare held n2 54 (([c0, c1, c2, c3, c4, c5].drop 4).take (Try.prog.cellsOf 54)) = some y2_4 := hf2 4 _ rfl
      rw [show Try.prog.cellsOf 54 = 1 by kernel_rfl] at g2_4
      have g2_4 : DataW.trod enc Try.prog W base spare held n2 54 [c4] = some y2_4 := g2_4
      have g2_5 : DataW.trod enc Try.prog W base spare held n2 67 (([c0, c1, c2, c3, c4, c5].drop 5).take (Try.prog.cellsOf 67)) = some y2_5 := hf2 5 _ rfl
      rw [show Try.prog.cellsOf 67 = 1 by kernel_rfl] at g2_5
      have g2_5 : DataW.trod enc Try.prog W base spare held n2 67 [c5] = some y2_5 := g2_5
      obtain ⟨vg2_0, eg2_0, _, wg2_0⟩ := DataW.trod_int Try.underlying54 g2_0
      have fg2_0 := List.head_eq_of_cons_eq eg2_0
      subst fg2_0
      have bdg2_0 : 0 ≤ vg2_0 ∧ vg2_0 ≤ 18446744073709551615 := ⟨(wf_bounds_u64 wg2_0).1, by have := (wf_bounds_u64 wg2_0).2; omega⟩
      obtain ⟨vg2_1, eg2_1, _, wg2_1⟩ := DataW.trod_int Try.underlying54 g2_1
      have fg2_1 := List.head_eq_of_cons_eq eg2_1
      subst fg2_1
      have bdg2_1 : 0 ≤ vg2_1 ∧ vg2_1 ≤ 18446744073709551615 := ⟨(wf_bounds_u64 wg2_1).1, by have := (wf_bounds_u64 wg2_1).2; omega⟩
      obtain ⟨ag2_2, lg2_2, cg2_2, rfl⟩ : ∃ a l c, c2 = .slice a l c := by
        rcases open_slice Try.underlying44 g2_2 with ⟨h, _⟩ | ⟨x, l, c, _, _, _, _, h, _⟩
        · simp at h; exact ⟨_, _, _, h⟩
        · simp at h; exact ⟨_, _, _, h⟩
      obtain ⟨xg2_2, rfl, hbg2_2, hlg2_2⟩ := open_lists2 (W := W) (base := base) (spare := spare) (held := held) (enc := enc) (d := y2_2.1) (ps := y2_2.2) (a := ag2_2) (cap := cg2_2) (ts := [54, 54, 44, 54, 54, 67]) (ds := [y2_0.1, y2_1.1, y2_2.1, y2_3.1, y2_4.1, y2_5.1]) (j := 2) (t := 44)
        (List.all_eq_true.2 (fun q hq => by simpa using hw2 q hq)) rfl rfl ⟨_, g2_2⟩ rfl
      obtain ⟨vg2_3, eg2_3, _, wg2_3⟩ := DataW.trod_int Try.underlying54 g2_3
      have fg2_3 := List.head_eq_of_cons_eq eg2_3
      subst fg2_3
      obtain ⟨bg2_3, rfl⟩ := bv_of_int (k := 64) (wf_bounds_u64 wg2_3).1 (by have := (wf_bounds_u64 wg2_3).2; omega)
      obtain ⟨vg2_4, eg2_4, _, wg2_4⟩ := DataW.trod_int Try.underlying54 g2_4
      have fg2_4 := List.head_eq_of_cons_eq eg2_4
      subst fg2_4
      have bdg2_4 : 0 ≤ vg2_4 ∧ vg2_4 ≤ 18446744073709551615 := ⟨(wf_bounds_u64 wg2_4).1, by have := (wf_bounds_u64 wg2_4).2; omega⟩
      obtain ⟨ag2_5, lg2_5, cg2_5, rfl⟩ : ∃ a l c, c5 = .slice a l c := by
        rcases open_slice Try.underlying67 g2_5 with ⟨h, _⟩ | ⟨x, l, c, _, _, _, _, h, _⟩
        · simp at h; exact ⟨_, _, _, h⟩
        · simp at h; exact ⟨_, _, _, h⟩
      obtain ⟨xg2_5, rfl, hbg2_5, hlg2_5⟩ := open_frs (W := W) (base := base) (spare := spare) (held := held) (enc := enc) (d := y2_5.1) (ps := y2_5.2) (a := ag2_5) (cap := cg2_5) (ts := [54, 54, 44, 54, 54, 67]) (ds := [y2_0.1, y2_1.1, y2_2.1, y2_3.1, y2_4.1, y2_5.1]) (j := 5) (t := 67)
        (List.all_eq_true.2 (fun q hq => by simpa using hw2 q hq)) rfl rfl ⟨_, g2_5⟩ rfl
      refine ⟨⟨vg2_0, vg2_1, ag2_2, cg2_2, xg2_2, bg2_3, vg2_4, ag2_5, cg2_5, xg2_5⟩, ?_, ⟨bdg2_0, bdg2_1, ⟨hbg2_2, hlg2_2⟩, bdg2_4, ⟨hbg2_5, hlg2_5⟩⟩⟩
      intro j v hv
      have hj : j < 6 := by
        have := (List.getElem?_eq_some_iff.1 hv).1
        simpa [PsR.cells] using this
      rw [hat j hj]
      simpa [PsR.cells] using hv
    obtain ⟨f, hf⟩ := choose_lt key
    refine ⟨(List.range len).map f, by simp, ?_, by simpa using z2⟩
    intro i t hti
    simp only [List.getElem?_map, Option.map_eq_some_iff] at hti
    obtain ⟨i', hi', rfl⟩ := hti
    obtain ⟨hlt, rfl⟩ := List.getElem?_eq_some_iff.1 hi'
    simp only [List.length_range] at hlt
    rw [List.getElem_range]
    exact ⟨x, rfl, hf i hlt⟩
structure SetR where
  self : Int
  hosts : Int
  queue : Int
  win : Int
  loaded : Bool
  state_peersA : Option Addr
  state_peersC : Nat
  state_peers : List PsR
def SetR.cells (r : SetR) : List Value := [.int .i64 r.self, .int .i64 r.hosts, .int .i64 r.queue, .int .i64 r.win, .bool r.loaded, .slice r.state_peersA r.state_peers.length r.state_peersC]
theorem SetR.cells_len (r : SetR) : r.cells.length = 6 := rfl
structure SetR.Ok (w : World) (r : SetR) : Prop where
  self : -9223372036854775808 ≤ r.self ∧ r.self ≤ 9223372036854775807
  hosts : -9223372036854775808 ≤ r.hosts ∧ r.hosts ≤ 9223372036854775807
  queue : -9223372036854775808 ≤ r.queue ∧ r.queue ≤ 9223372036854775807
  win : -9223372036854775808 ≤ r.win ∧ r.win ≤ 9223372036854775807
  state_peers : PssIn w r.state_peersA r.state_peers ∧ r.state_peers.length ≤ 140737488351232
theorem SetR.Ok.st {w w' : World} {r : SetR} {F : Nat → Prop} (h : r.Ok w) (t : St No w F w') : r.Ok w' where
  self := h.self
  hosts := h.hosts
  queue := h.queue
  win := h.win
  state_peers := ⟨h.state_peers.1.st t, h.state_peers.2⟩
def SetIn (w : World) (a : Option Addr) (rs : List SetR) : Prop := ∀ (i : Nat) (r : SetR), rs[i]? = some r → ∃ x, a = some x ∧ (∀ (j : Nat) (v : Value), r.cells[j]? = some v → w.cell? ((x.add (i * 6)).add j) = some v) ∧ r.Ok w
theorem SetIn.st {w w' : World} {a : Option Addr} {rs : List SetR} {F : Nat → Prop} (h : SetIn w a rs) (t : St No w F w') : SetIn w' a rs := by
  intro i r hi
  obtain ⟨x, e1, e2, e3⟩ := h i r hi
  refine ⟨x, e1, fun j v hv => ?_, e3.st t⟩
  have hx := e2 j v hv
  have hl := World.block_lt_of_cell? w _ hx
  rw [World.cell?_of_block (w := w)]
  · exact hx
  · exact t.block _ hl (fun hf => hf)
set_option maxRecDepth 100000 in
/-- an argument that is such a struct -/
theorem open_setup {H : Type} {enc : TypeId × Value → H} {W : World} {base : Nat} {spare : Nat → Bool} {held : Bool} {t : TypeId} {cs : Array Value} {d : DataW H} {ps : List MemPlace} {ts : List TypeId} {ds : List (DataW H)} {j : Nat}
    (hsz : (DataW.weightsEach Try.prog ts ds).all (· ≤ reachBytes) = true) (ht : ts[j]? = some t) (hd : ds[j]? = some d) (hcs : cs.size = Try.prog.cellsOf t)
    (h : DataW.Trod enc Try.prog W base spare held t (.agg cs) d ps) (htt : t = 26 := by rfl) :
    ∃ r : SetR, cs = r.cells.toArray ∧ r.Ok W := by
  subst htt
  have hC : Try.prog.cellsOf 26 = 6 := by kernel_rfl
  rw [hC] at hcs
  obtain ⟨fuel, hf⟩ := h
  have hall := List.all_eq_true.1 hsz
  have hwD : ∀ q ∈ d.weights Try.prog 26, q ≤ reachBytes := fun q hq => by simpa using hall q (DataW.weights_mem_each ht hd q hq)
  obtain ⟨cl, rfl⟩ : ∃ cl : List Value, cs = cl.toArray := ⟨cs.toList, by simp⟩
  have hcl : cl.length = 6 := by simpa using hcs
  obtain ⟨c0, c1, c2, c3, c4, c5, rfl⟩ := lst6 hcl
  have h2 : DataW.trod enc Try.prog W base spare held fuel 26 [c0, c1, c2, c3, c4, c5] = some (d, ps) := hf
  have hs_3 := Try.underlying26
  obtain ⟨ys3, n3, hn3, hy3, hlen3, hyl3, hf3⟩ := DataW.trod_struct hs_3 h2
  have hyk3 : ys3.length = 6 := hyl3
  clear hyl3
  obtain ⟨y3_0, y3_1, y3_2, y3_3, y3_4, y3_5, rfl⟩ := lst6 hyk3
  first | simp only [Prod.mk.injEq] at hy3 | (replace hy3 := And.intro (congrArg Prod.fst hy3) trivial; dsimp only at hy3)
  have hw3 : ∀ q ∈ DataW.weightsEach Try.prog [3, 3, 3, 3, 4, 24] [y3_0.1, y3_1.1, y3_2.1, y3_3.1, y3_4.1, y3_5.1], q ≤ reachBytes := by
    intro q hq
    refine hwD q ?_
    rw [hy3.1]
    unfold DataW.weights
    simp only [hs_3]
    exact hq
  have g3_0 : DataW.trod enc Try.prog W base spare held n3 3 (([c0, c1, c2, c3, c4, c5].drop 0).take (Try.prog.cellsOf 3)) = some y3_0 := hf3 0 _ rfl
  rw [show Try.prog.cellsOf 3 = 1 by kernel_rfl] at g3_0
  have g3_0 : DataW.trod enc Try.prog W base spare held n3 3 [c0] = some y3_0 := g3_0
  have g3_1 : DataW.trod enc Try.prog W base spare held n3 3 (([c0, c1, c2, c3, c4, c5].drop 1).take (Try.prog.cellsOf 3)) = some y3_1 := hf3 1 _ rfl
  rw [show Try.prog.cellsOf 3 = 1 by kernel_rfl] at g3_1
  have g3_1 : DataW.trod enc Try.prog W base spare held n3 3 [c1] = some y3_1 := g3_1
  have g3_2 : DataW.trod enc Try.prog W base spare held n3 3 (([c0, c1, c2, c3, c4, c5].drop 2).take (Try.prog.cellsOf 3)) = some y3_2 := hf3 2 _ rfl
  rw [show Try.prog.cellsOf 3 = 1 by kernel_rfl] at g3_2
  have g3_2 : DataW.trod enc Try.prog W base spare held n3 3 [c2] = some y3_2 := g3_2
  have g3_3 : DataW.trod enc Try.prog W base spare held n3 3 (([c0, c1, c2, c3, c4, c5].drop 3).take (Try.prog.cellsOf 3)) = some y3_3 := hf3 3 _ rfl
  rw [show Try.prog.cellsOf 3 = 1 by kernel_rfl] at g3_3
  have g3_3 : DataW.trod enc Try.prog W base spare held n3 3 [c3] = some y3_3 := g3_3
  have g3_4 : DataW.trod enc Try.prog W base spare held n3 4 (([c0, c1, c2, c3, c4, c5].drop 4).take (Try.prog.cellsOf 4)) = some y3_4 := hf3 4 _ rfl
  rw [show Try.prog.cellsOf 4 = 1 by kernel_rfl] at g3_4
  have g3_4 : DataW.trod enc Try.prog W base spare held n3 4 [c4] = some y3_4 := g3_4
  have g3_5 : DataW.trod enc Try.prog W base spare held n3 24 (([c0, c1, c2, c3, c4, c5].drop 5).take (Try.prog.cellsOf 24)) = some y3_5 := hf3 5 _ rfl
  rw [show Try.prog.cellsOf 24 = 1 by kernel_rfl] at g3_5
  have g3_5 : DataW.trod enc Try.prog W base spare held n3 24 [c5] = some y3_5 := g3_5
  obtain ⟨vg3_0, eg3_0, _, wg3_0⟩ := DataW.trod_int Try.underlying3 g3_0
  have fg3_0 := List.head_eq_of_cons_eq eg3_0
  subst fg3_0
  have bdg3_0 : -9223372036854775808 ≤ vg3_0 ∧ vg3_0 ≤ 9223372036854775807 := ⟨(wf_bounds_i64 wg3_0).1, by have := (wf_bounds_i64 wg3_0).2; omega⟩
  obtain ⟨vg3_1, eg3_1, _, wg3_1⟩ := DataW.trod_int Try.underlying3 g3_1
  have fg3_1 := List.head_eq_of_cons_eq eg3_1
  subst fg3_1
  have bdg3_1 : -9223372036854775808 ≤ vg3_1 ∧ vg3_1 ≤ 9223372036854775807 := ⟨(wf_bounds_i64 wg3_1).1, by have := (wf_bounds_i64 wg3_1).2; omega⟩
  obtain ⟨vg3_2, eg3_2, _, wg3_2⟩ := DataW.trod_int Try.underlying3 g3_2
  have fg3_2 := List.head_eq_of_cons_eq eg3_2
  subst fg3_2
  have bdg3_2 : -9223372036854775808 ≤ vg3_2 ∧ vg3_2 ≤ 9223372036854775807 := ⟨(wf_bounds_i64 wg3_2).1, by have := (wf_bounds_i64 wg3_2).2; omega⟩
  obtain ⟨vg3_3, eg3_3, _, wg3_3⟩ := DataW.trod_int Try.underlying3 g3_3
  have fg3_3 := List.head_eq_of_cons_eq eg3_3
  subst fg3_3
  have bdg3_3 : -9223372036854775808 ≤ vg3_3 ∧ vg3_3 ≤ 9223372036854775807 := ⟨(wf_bounds_i64 wg3_3).1, by have := (wf_bounds_i64 wg3_3).2; omega⟩
  obtain ⟨vg3_4, eg3_4, _⟩ := DataW.trod_bool Try.underlying4 g3_4
  have fg3_4 := List.head_eq_of_cons_eq eg3_4
  subst fg3_4
  have hwqg3_5 : ∀ q ∈ y3_5.1.weights Try.prog 24, q ≤ reachBytes := fun q hq => hw3 q (DataW.weights_mem_each (j := 5) (ts := [3, 3, 3, 3, 4, 24]) (ds := [y3_0.1, y3_1.1, y3_2.1, y3_3.1, y3_4.1, y3_5.1]) rfl rfl q hq)
  have hs_4 := Try.underlying24
  obtain ⟨ys4, n4, hn4, hy4, hlen4, hyl4, hf4⟩ := DataW.trod_struct hs_4 g3_5
  have hyk4 : ys4.length = 1 := hyl4
  clear hyl4
  obtain ⟨y4_0, rfl⟩ := lst1 hyk4
  first | simp only [Prod.mk.injEq] at hy4 | (replace hy4 := And.intro (congrArg Prod.fst hy4) trivial; dsimp only at hy4)
  have hw4 : ∀ q ∈ DataW.weightsEach Try.prog [22] [y4_0.1], q ≤ reachBytes := by
    intro q hq
    refine hwqg3_5 q ?_
    rw [hy4.1]
    unfold DataW.weights
    simp only [hs_4]
    exact hq
  have g4_0 : DataW.trod enc Try.prog W base spare held n4 22 (([c5].drop 0).take (Try.prog.cellsOf 22)) = some y4_0 := hf4 0 _ rfl
  rw [show Try.prog.cellsOf 22 = 1 by kernel_rfl] at g4_0
  have g4_0 : DataW.trod enc Try.prog W base spare held n4 22 [c5] = some y4_0 := g4_0
  obtain ⟨ag4_0, lg4_0, cg4_0, rfl⟩ : ∃ a l c, c5 = .slice a l c := by
    rcases open_slice Try.underlying22 g4_0 with ⟨h, _⟩ | ⟨x, l, c, _, _, _, _, h, _⟩
    · simp at h; exact ⟨_, _, _, h⟩
    · simp at h; exact ⟨_, _, _, h⟩
  obtain ⟨xg4_0, rfl, hbg4_0, hlg4_0⟩ := open_pss (W := W) (base := base) (spare := spare) (held := held) (enc := enc) (d := y4_0.1) (ps := y4_0.2) (a := ag4_0) (cap := cg4_0) (ts := [22]) (ds := [y4_0.1]) (j := 0) (t := 22)
    (List.all_eq_true.2 (fun q hq => by simpa using hw4 q hq)) rfl rfl ⟨_, g4_0⟩ rfl
  exact ⟨⟨vg3_0, vg3_1, vg3_2, vg3_3, vg3_4, ag4_0, cg4_0, xg4_0⟩, rfl, ⟨bdg3_0, bdg3_1, bdg3_2, bdg3_3, ⟨hbg4_0, hlg4_0⟩⟩⟩
structure StpR where
  kind : Int
  who : Int
  m_kind : Int
  m_seq : Int
  m_key : Int
  m_hi : Int
  m_valueA : Option Addr
  m_valueC : Nat
  m_value : List B8
  m_oldA : Option Addr
  m_oldC : Nat
  m_old : List B8
  m_has : Bool
  m_of : Int
  m_status : Int
  m_host : Int
  m_grant : Int
  m_bounds : Int
  m_mask : BitVec 64
  m_limit : Int
  m_pairsA : Option Addr
  m_pairsN : Nat
  m_pairsC : Nat
  m_sessA : Option Addr
  m_sessN : Nat
  m_sessC : Nat
  m_payloadA : Option Addr
  m_payloadC : Nat
  m_payload : List B8
def StpR.cells (r : StpR) : List Value := [.int .i64 r.kind, .int .i64 r.who, .int .u8 r.m_kind, .int .u64 r.m_seq, .int .u64 r.m_key, .int .u64 r.m_hi, .slice r.m_valueA r.m_value.length r.m_valueC, .slice r.m_oldA r.m_old.length r.m_oldC, .bool r.m_has, .int .u8 r.m_of, .int .u8 r.m_status, .int .u8 r.m_host, .int .u32 r.m_grant, .int .u32 r.m_bounds, .int .u64 (r.m_mask.toNat : Int), .int .u8 r.m_limit, .slice r.m_pairsA r.m_pairsN r.m_pairsC, .slice r.m_sessA r.m_sessN r.m_sessC, .slice r.m_payloadA r.m_payload.length r.m_payloadC]
theorem StpR.cells_len (r : StpR) : r.cells.length = 19 := rfl
structure StpR.Ok (w : World) (r : StpR) : Prop where
  kind : -9223372036854775808 ≤ r.kind ∧ r.kind ≤ 9223372036854775807
  who : -9223372036854775808 ≤ r.who ∧ r.who ≤ 9223372036854775807
  m_kind : 0 ≤ r.m_kind ∧ r.m_kind ≤ 255
  m_seq : 0 ≤ r.m_seq ∧ r.m_seq ≤ 18446744073709551615
  m_key : 0 ≤ r.m_key ∧ r.m_key ≤ 18446744073709551615
  m_hi : 0 ≤ r.m_hi ∧ r.m_hi ≤ 18446744073709551615
  m_value : Bs w r.m_valueA r.m_value ∧ r.m_value.length ≤ 140737488351232 ∧ (r.m_valueA = none → r.m_valueC = 0)
  m_old : Bs w r.m_oldA r.m_old ∧ r.m_old.length ≤ 140737488351232 ∧ (r.m_oldA = none → r.m_oldC = 0)
  m_of : 0 ≤ r.m_of ∧ r.m_of ≤ 255
  m_status : 0 ≤ r.m_status ∧ r.m_status ≤ 255
  m_host : 0 ≤ r.m_host ∧ r.m_host ≤ 255
  m_grant : 0 ≤ r.m_grant ∧ r.m_grant ≤ 4294967295
  m_bounds : 0 ≤ r.m_bounds ∧ r.m_bounds ≤ 4294967295
  m_limit : 0 ≤ r.m_limit ∧ r.m_limit ≤ 255
  m_pairs : r.m_pairsN ≤ 140737488351232
  m_sess : r.m_sessN ≤ 140737488351232
  m_payload : Bs w r.m_payloadA r.m_payload ∧ r.m_payload.length ≤ 140737488351232 ∧ (r.m_payloadA = none → r.m_payloadC = 0)
theorem StpR.Ok.st {w w' : World} {r : StpR} {F : Nat → Prop} (h : r.Ok w) (t : St No w F w') : r.Ok w' where
  kind := h.kind
  who := h.who
  m_kind := h.m_kind
  m_seq := h.m_seq
  m_key := h.m_key
  m_hi := h.m_hi
  m_value := ⟨h.m_value.1.st t (Dj.no _), h.m_value.2⟩
  m_old := ⟨h.m_old.1.st t (Dj.no _), h.m_old.2⟩
  m_of := h.m_of
  m_status := h.m_status
  m_host := h.m_host
  m_grant := h.m_grant
  m_bounds := h.m_bounds
  m_limit := h.m_limit
  m_pairs := h.m_pairs
  m_sess := h.m_sess
  m_payload := ⟨h.m_payload.1.st t (Dj.no _), h.m_payload.2⟩
def StpsIn (w : World) (a : Option Addr) (rs : List StpR) : Prop := ∀ (i : Nat) (r : StpR), rs[i]? = some r → ∃ x, a = some x ∧ (∀ (j : Nat) (v : Value), r.cells[j]? = some v → w.cell? ((x.add (i * 19)).add j) = some v) ∧ r.Ok w
theorem StpsIn.st {w w' : World} {a : Option Addr} {rs : List StpR} {F : Nat → Prop} (h : StpsIn w a rs) (t : St No w F w') : StpsIn w' a rs := by
  intro i r hi
  obtain ⟨x, e1, e2, e3⟩ := h i r hi
  refine ⟨x, e1, fun j v hv => ?_, e3.st t⟩
  have hx := e2 j v hv
  have hl := World.block_lt_of_cell? w _ hx
  rw [World.cell?_of_block (w := w)]
  · exact hx
  · exact t.block _ hl (fun hf => hf)
instance : Inhabited StpR := ⟨⟨0, 0, 0, 0, 0, 0, none, 0, [], none, 0, [], false, 0, 0, 0, 0, 0, 0, 0, none, 0, 0, none, 0, 0, none, 0, []⟩⟩
set_option maxRecDepth 100000 in
/-- an argument that is a slice of these -/
theorem open_stps {H : Type} {enc : TypeId × Value → H} {W : World} {base : Nat} {spare : Nat → Bool} {held : Bool} {t : TypeId} {a : Option Addr} {len cap : Nat} {d : DataW H} {ps : List MemPlace} {ts : List TypeId} {ds : List (DataW H)} {j : Nat}
    (hsz : (DataW.weightsEach Try.prog ts ds).all (· ≤ reachBytes) = true) (ht : ts[j]? = some t) (hd : ds[j]? = some d)
    (h : DataW.Trod enc Try.prog W base spare held t (.slice a len cap) d ps) (htt : t = 41 := by rfl) :
    ∃ rs : List StpR, len = rs.length ∧ StpsIn W a rs ∧ rs.length ≤ 140737488351232 := by
  subst htt
  have hu := Try.underlying41
  have hC : Try.prog.cellsOf 100 = 19 := by kernel_rfl
  have hB : 1 ≤ Try.prog.bytesOf 100 := of_decide_eq_true (by kernel_rfl)
  obtain ⟨fuel, hf⟩ := h
  rcases open_slice hu hf with ⟨hcs, _⟩ | ⟨x, l, c, m, n, D, Pl, hcs, hb, hl, hm, hmm, hx, hi⟩
  · simp [Value.cells] at hcs
    obtain ⟨rfl, rfl, rfl⟩ := hcs
    exact ⟨[], rfl, fun i t h => by simp at h, by simp⟩
  · simp [Value.cells] at hcs
    obtain ⟨rfl, rfl, rfl⟩ := hcs
    obtain ⟨hx, _⟩ := Prod.mk.inj hx
    subst hx
    have z := sized_slice hsz ht hd hu
    have hlm : len ≤ m := by rw [hmm]; split <;> omega
    simp only [List.length_map, List.length_range] at z
    have z2 : len ≤ 140737488351232 := many_reach hlm hB z
    have hall := List.all_eq_true.1 hsz
    clear z hB
    have key : ∀ i, i < len → ∃ r : StpR, (∀ j v, r.cells[j]? = some v → W.cell? ((x.add (i * 19)).add j) = some v) ∧ r.Ok W := by
      intro i hil
      obtain ⟨cs, h1, h2⟩ := hi i (by omega)
      rw [hC] at h1
      obtain ⟨_, hcl, hat⟩ := World.cells?_some h1
      have hwD : ∀ q ∈ (D i).weights Try.prog 100, q ≤ reachBytes := by
        intro q hq2
        have hq3 : q ∈ DataW.weightsAll Try.prog 100 ((List.range len).map D) := mem_weightsAll (List.mem_map.2 ⟨i, List.mem_range.2 hil, rfl⟩) q hq2
        have hq4 : q ∈ (DataW.slice ((List.range len).map D) ((List.range (m - len)).map fun j => D (len + j))).weights Try.prog 41 := by
          unfold DataW.weights
          simp only [hu]
          exact List.mem_cons_of_mem _ (List.mem_append.2 (.inl hq3))
        simpa using hall q (DataW.weights_mem_each ht hd q hq4)
      obtain ⟨c0, c1, c2, c3, c4, c5, c6, c7, c8, c9, c10, c11, c12, c13, c14, c15, c16, c17, c18, rfl⟩ := lst19 hcl
      have hs_5 := Try.underlying100
      obtain ⟨ys5, n5, hn5, hy5, hlen5, hyl5, hf5⟩ := DataW.trod_struct hs_5 h2
      have hyk5 : ys5.length = 3 := hyl5
      clear hyl5
      obtain ⟨y5_0, y5_1, y5_2, rfl⟩ := lst3 hyk5
      first | simp only [Prod.mk.injEq] at hy5 | (replace hy5 := And.intro (congrArg Prod.fst hy5) trivial; dsimp only at hy5)
      have hw5 : ∀ q ∈ DataW.weightsEach Try.prog [3, 3, 60] [y5_0.1, y5_1.1, y5_2.1], q ≤ reachBytes := by
        intro q hq
        refine hwD q ?_
        rw [hy5.1]
        unfold DataW.weights
        simp only [hs_5]
        exact hq
      have g5_0 : DataW.trod enc Try.prog W base spare held n5 3 (([c0, c1, c2, c3, c4, c5, c6, c7, c8, c9, c10, c11, c12, c13, c14, c15, c16, c17, c18].drop 0).take (Try.prog.cellsOf 3)) = some y5_0 := hf5 0 _ rfl
      rw [show Try.prog.cellsOf 3 = 1 by kernel_rfl] at g5_0
      have g5_0 : DataW.trod enc Try.prog W base spare held n5 3 [c0] = some y5_0 := g5_0
      have g5_1 : DataW.trod enc Try.prog W base spare held n5 3 (([c0, c1, c2, c3, c4, c5, c6, c7, c8, c9, c10, c11, c12, c13, c14, c15, c16, c17, c18].drop 1).take (Try.prog.cellsOf 3)) = some y5_1 := hf5 1 _ rfl
      rw [show Try.prog.cellsOf 3 = 1 by kernel_rfl] at g5_1
      have g5_1 : DataW.trod enc Try.prog W base spare held n5 3 [c1] = some y5_1 := g5_1
      have g5_2 : DataW.trod enc Try.prog W base spare held n5 60 (([c0, c1, c2, c3, c4, c5, c6, c7, c8, c9, c10, c11, c12, c13, c14, c15, c16, c17, c18].drop 2).take (Try.prog.cellsOf 60)) = some y5_2 := hf5 2 _ rfl
      rw [show Try.prog.cellsOf 60 = 17 by kernel_rfl] at g5_2
      have g5_2 : DataW.trod enc Try.prog W base spare held n5 60 [c2, c3, c4, c5, c6, c7, c8, c9, c10, c11, c12, c13, c14, c15, c16, c17, c18] = some y5_2 := g5_2
      obtain ⟨vg5_0, eg5_0, _, wg5_0⟩ := DataW.trod_int Try.underlying3 g5_0
      have fg5_0 := List.head_eq_of_cons_eq eg5_0
      subst fg5_0
      have bdg5_0 : -9223372036854775808 ≤ vg5_0 ∧ vg5_0 ≤ 9223372036854775807 := ⟨(wf_bounds_i64 wg5_0).1, by have := (wf_bounds_i64 wg5_0).2; omega⟩
      obtain ⟨vg5_1, eg5_1, _, wg5_1⟩ := DataW.trod_int Try.underlying3 g5_1
      have fg5_1 := List.head_eq_of_cons_eq eg5_1
      subst fg5_1
      have bdg5_1 : -9223372036854775808 ≤ vg5_1 ∧ vg5_1 ≤ 9223372036854775807 := ⟨(wf_bounds_i64 wg5_1).1, by have := (wf_bounds_i64 wg5_1).2; omega⟩
      have hwqg5_2 : ∀ q ∈ y5_2.1.weights Try.prog 60, q ≤ reachBytes := fun q hq => hw5 q (DataW.weights_mem_each (j := 2) (ts := [3, 3, 60]) (ds := [y5_0.1, y5_1.1, y5_2.1]) rfl rfl q hq)
      have hs_6 := Try.underlying60
      obtain ⟨ys6, n6, hn6, hy6, hlen6, hyl6, hf6⟩ := DataW.trod_struct hs_6 g5_2
      have hyk6 : ys6.length = 17 := hyl6
      clear hyl6
      obtain ⟨y6_0, y6_1, y6_2, y6_3, y6_4, y6_5, y6_6, y6_7, y6_8, y6_9, y6_10, y6_11, y6_12, y6_13, y6_14, y6_15, y6_16, rfl⟩ := lst17 hyk6
      first | simp only [Prod.mk.injEq] at hy6 | (replace hy6 := And.intro (congrArg Prod.fst hy6) trivial; dsimp only at hy6)
      have hw6 : ∀ q ∈ DataW.weightsEach Try.prog [53, 54, 54, 54, 48, 48, 4, 53, 55, 46, 56, 56, 54, 5, 57, 58, 48] [y6_0.1, y6_1.1, y6_2.1, y6_3.1, y6_4.1, y6_5.1, y6_6.1, y6_7.1, y6_8.1, y6_9.1, y6_10.1, y6_11.1, y6_12.1, y6_13.1, y6_14.1, y6_15.1, y6_16.1], q ≤ reachBytes := by
        intro q hq
        refine hwqg5_2 q ?_
        rw [hy6.1]
        unfold DataW.weights
        simp only [hs_6]
        exact hq
      have g6_0 : DataW.trod enc Try.prog W base spare held n6 53 (([c2, c3, c4, c5, c6, c7, c8, c9, c10, c11, c12, c13, c14, c15, c16, c17, c18].drop 0).take (Try.prog.cellsOf 53)) = some y6_0 := hf6 0 _ rfl
      rw [show Try.prog.cellsOf 53 = 1 by kernel_rfl] at g6_0
      have g6_0 : DataW.trod enc Try.prog W base spare held n6 53 [c2] = some y6_0 := g6_0
      have g6_1 : DataW.trod enc Try.prog W base spare held n6 54 (([c2, c3, c4, c5, c6, c7, c8, c9, c10, c11, c12, c13, c14, c15, c16, c17, c18].drop 1).take (Try.prog.cellsOf 54)) = some y6_1 := hf6 1 _ rfl
      rw [show Try.prog.cellsOf 54 = 1 by kernel_rfl] at g6_1
      have g6_1 : DataW.trod enc Try.prog W base spare held n6 54 [c3] = some y6_1 := g6_1
      have g6_2 : DataW.trod enc Try.prog W base spare held n6 54 (([c2, c3, c4, c5, c6, c7, c8, c9, c10, c11, c12, c13, c14, c15, c16, c17, c18].drop 2).take (Try.prog.cellsOf 54)) = some y6_2 := hf6 2 _ rfl
      rw [show Try.prog.cellsOf 54 = 1 by kernel_rfl] at g6_2
      have g6_2 : DataW.trod enc Try.prog W base spare held n6 54 [c4] = some y6_2 := g6_2
      have g6_3 : DataW.trod enc Try.prog W base spare held n6 54 (([c2, c3, c4, c5, c6, c7, c8, c9, c10, c11, c12, c13, c14, c15, c16, c17, c18].drop 3).take (Try.prog.cellsOf 54)) = some y6_3 := hf6 3 _ rfl
      rw [show Try.prog.cellsOf 54 = 1 by kernel_rfl] at g6_3
      have g6_3 : DataW.trod enc Try.prog W base spare held n6 54 [c5] = some y6_3 := g6_3
      have g6_4 : DataW.trod enc Try.prog W base spare held n6 48 (([c2, c3, c4, c5, c6, c7, c8, c9, c10, c11, c12, c13, c14, c15, c16, c17, c18].drop 4).take (Try.prog.cellsOf 48)) = some y6_4 := hf6 4 _ rfl
      rw [show Try.prog.cellsOf 48 = 1 by kernel_rfl] at g6_4
      have g6_4 : DataW.trod enc Try.prog W base spare held n6 48 [c6] = some y6_4 := g6_4
      have g6_5 : DataW.trod enc Try.prog W base spare held n6 48 (([c2, c3, c4, c5, c6, c7, c8, c9, c10, c11, c12, c13, c14, c15, c16, c17, c18].drop 5).take (Try.prog.cellsOf 48)) = some y6_5 := hf6 5 _ rfl
      rw [show Try.prog.cellsOf 48 = 1 by kernel_rfl] at g6_5
      have g6_5 : DataW.trod enc Try.prog W base spare held n6 48 [c7] = some y6_5 := g6_5
      have g6_6 : DataW.trod enc Try.prog W base spare held n6 4 (([c2, c3, c4, c5, c6, c7, c8, c9, c10, c11, c12, c13, c14, c15, c16, c17, c18].drop 6).take (Try.prog.cellsOf 4)) = some y6_6 := hf6 6 _ rfl
      rw [show Try.prog.cellsOf 4 = 1 by kernel_rfl] at g6_6
      have g6_6 : DataW.trod enc Try.prog W base spare held n6 4 [c8] = some y6_6 := g6_6
      have g6_7 : DataW.trod enc Try.prog W base spare held n6 53 (([c2, c3, c4, c5, c6, c7, c8, c9, c10, c11, c12, c13, c14, c15, c16, c17, c18].drop 7).take (Try.prog.cellsOf 53)) = some y6_7 := hf6 7 _ rfl
      rw [show Try.prog.cellsOf 53 = 1 by kernel_rfl] at g6_7
      have g6_7 : DataW.trod enc Try.prog W base spare held n6 53 [c9] = some y6_7 := g6_7
      have g6_8 : DataW.trod enc Try.prog W base spare held n6 55 (([c2, c3, c4, c5, c6, c7, c8, c9, c10, c11, c12, c13, c14, c15, c16, c17, c18].drop 8).take (Try.prog.cellsOf 55)) = some y6_8 := hf6 8 _ rfl
      rw [show Try.prog.cellsOf 55 = 1 by kernel_rfl] at g6_8
      have g6_8 : DataW.trod enc Try.prog W base spare held n6 55 [c10] = some y6_8 := g6_8
      have g6_9 : DataW.trod enc Try.prog W base spare held n6 46 (([c2, c3, c4, c5, c6, c7, c8, c9, c10, c11, c12, c13, c14, c15, c16, c17, c18].drop 9).take (Try.prog.cellsOf 46)) = some y6_9 := hf6 9 _ rfl
      rw [show Try.prog.cellsOf 46 = 1 by kernel_rfl] at g6_9
      have g6_9 : DataW.trod enc Try.prog W base spare held n6 46 [c11] = some y6_9 := g6_9
      have g6_10 : DataW.trod enc Try.prog W base spare held n6 56 (([c2, c3, c4, c5, c6, c7, c8, c9, c10, c11, c12, c13, c14, c15, c16, c17, c18].drop 10).take (Try.prog.cellsOf 56)) = some y6_10 := hf6 10 _ rfl
      rw [show Try.prog.cellsOf 56 = 1 by kernel_rfl] at g6_10
      have g6_10 : DataW.trod enc Try.prog W base spare held n6 56 [c12] = some y6_10 := g6_10
      have g6_11 : DataW.trod enc Try.prog W base spare held n6 56 (([c2, c3, c4, c5, c6, c7, c8, c9, c10, c11, c12, c13, c14, c15, c16, c17, c18].drop 11).take (Try.prog.cellsOf 56)) = some y6_11 := hf6 11 _ rfl
      rw [show Try.prog.cellsOf 56 = 1 by kernel_rfl] at g6_11
      have g6_11 : DataW.trod enc Try.prog W base spare held n6 56 [c13] = some y6_11 := g6_11
      have g6_12 : DataW.trod enc Try.prog W base spare held n6 54 (([c2, c3, c4, c5, c6, c7, c8, c9, c10, c11, c12, c13, c14, c15, c16, c17, c18].drop 12).take (Try.prog.cellsOf 54)) = some y6_12 := hf6 12 _ rfl
      rw [show Try.prog.cellsOf 54 = 1 by kernel_rfl] at g6_12
      have g6_12 : DataW.trod enc Try.prog W base spare held n6 54 [c14] = some y6_12 := g6_12
      have g6_13 : DataW.trod enc Try.prog W base spare held n6 5 (([c2, c3, c4, c5, c6, c7, c8, c9, c10, c11, c12, c13, c14, c15, c16, c17, c18].drop 13).take (Try.prog.cellsOf 5)) = some y6_13 := hf6 13 _ rfl
      rw [show Try.prog.cellsOf 5 = 1 by kernel_rfl] at g6_13
      have g6_13 : DataW.trod enc Try.prog W base spare held n6 5 [c15] = some y6_13 := g6_13
      have g6_14 : DataW.trod enc Try.prog W base spare held n6 57 (([c2, c3, c4, c5, c6, c7, c8, c9, c10, c11, c12, c13, c14, c15, c16, c17, c18].drop 14).take (Try.prog.cellsOf 57)) = some y6_14 := hf6 14 _ rfl
      rw [show Try.prog.cellsOf 57 = 1 by kernel_rfl] at g6_14
      have g6_14 : DataW.trod enc Try.prog W base spare held n6 57 [c16] = some y6_14 := g6_14
      have g6_15 : DataW.trod enc Try.prog W base spare held n6 58 (([c2, c3, c4, c5, c6, c7, c8, c9, c10, c11, c12, c13, c14, c15, c16, c17, c18].drop 15).take (Try.prog.cellsOf 58)) = some y6_15 := hf6 15 _ rfl
      rw [show Try.prog.cellsOf 58 = 1 by kernel_rfl] at g6_15
      have g6_15 : DataW.trod enc Try.prog W base spare held n6 58 [c17] = some y6_15 := g6_15
      have g6_16 : DataW.trod enc Try.prog W base spare held n6 48 (([c2, c3, c4, c5, c6, c7, c8, c9, c10, c11, c12, c13, c14, c15, c16, c17, c18].drop 16).take (Try.prog.cellsOf 48)) = some y6_16 := hf6 16 _ rfl
      rw [show Try.prog.cellsOf 48 = 1 by kernel_rfl] at g6_16
      have g6_16 : DataW.trod enc Try.prog W base spare held n6 48 [c18] = some y6_16 := g6_16
      obtain ⟨vg6_0, eg6_0, _, wg6_0⟩ := DataW.trod_int Try.underlying53 g6_0
      have fg6_0 := List.head_eq_of_cons_eq eg6_0
      subst fg6_0
      have bdg6_0 : 0 ≤ vg6_0 ∧ vg6_0 ≤ 255 := ⟨(wf_bounds_u8 wg6_0).1, by have := (wf_bounds_u8 wg6_0).2; omega⟩
      obtain ⟨vg6_1, eg6_1, _, wg6_1⟩ := DataW.trod_int Try.underlying54 g6_1
      have fg6_1 := List.head_eq_of_cons_eq eg6_1
      subst fg6_1
      have bdg6_1 : 0 ≤ vg6_1 ∧ vg6_1 ≤ 18446744073709551615 := ⟨(wf_bounds_u64 wg6_1).1, by have := (wf_bounds_u64 wg6_1).2; omega⟩
      obtain ⟨vg6_2, eg6_2, _, wg6_2⟩ := DataW.trod_int Try.underlying54 g6_2
      have fg6_2 := List.head_eq_of_cons_eq eg6_2
      subst fg6_2
      have bdg6_2 : 0 ≤ vg6_2 ∧ vg6_2 ≤ 18446744073709551615 := ⟨(wf_bounds_u64 wg6_2).1, by have := (wf_bounds_u64 wg6_2).2; omega⟩
      obtain ⟨vg6_3, eg6_3, _, wg6_3⟩ := DataW.trod_int Try.underlying54 g6_3
      have fg6_3 := List.head_eq_of_cons_eq eg6_3
      subst fg6_3
      have bdg6_3 : 0 ≤ vg6_3 ∧ vg6_3 ≤ 18446744073709551615 := ⟨(wf_bounds_u64 wg6_3).1, by have := (wf_bounds_u64 wg6_3).2; omega⟩
      obtain ⟨ag6_4, lg6_4, cg6_4, rfl⟩ : ∃ a l c, c6 = .slice a l c := by
        rcases open_slice Try.underlying48 g6_4 with ⟨h, _⟩ | ⟨x, l, c, _, _, _, _, h, _⟩
        · simp at h; exact ⟨_, _, _, h⟩
        · simp at h; exact ⟨_, _, _, h⟩
      obtain ⟨xg6_4, rfl, hbg6_4, hng6_4, hlg6_4⟩ := open_bytes (P := Try.prog) (W := W) (base := base) (spare := spare) (held := held) (enc := enc) (d := y6_4.1) (ps := y6_4.2) (a := ag6_4) (cap := cg6_4) (ts := [53, 54, 54, 54, 48, 48, 4, 53, 55, 46, 56, 56, 54, 5, 57, 58, 48]) (ds := [y6_0.1, y6_1.1, y6_2.1, y6_3.1, y6_4.1, y6_5.1, y6_6.1, y6_7.1, y6_8.1, y6_9.1, y6_10.1, y6_11.1, y6_12.1, y6_13.1, y6_14.1, y6_15.1, y6_16.1]) (j := 4) (t := 48)
        (List.all_eq_true.2 (fun q hq => by simpa using hw6 q hq)) rfl rfl Try.underlying48 Try.underlying5 (by kernel_rfl) (by kernel_rfl) ⟨_, g6_4⟩
      obtain ⟨ag6_5, lg6_5, cg6_5, rfl⟩ : ∃ a l c, c7 = .slice a l c := by
        rcases open_slice Try.underlying48 g6_5 with ⟨h, _⟩ | ⟨x, l, c, _, _, _, _, h, _⟩
        · simp at h; exact ⟨_, _, _, h⟩
        · simp at h; exact ⟨_, _, _, h⟩
      obtain ⟨xg6_5, rfl, hbg6_5, hng6_5, hlg6_5⟩ := open_bytes (P := Try.prog) (W := W) (base := base) (spare := spare) (held := held) (enc := enc) (d := y6_5.1) (ps := y6_5.2) (a := ag6_5) (cap := cg6_5) (ts := [53, 54, 54, 54, 48, 48, 4, 53, 55, 46, 56, 56, 54, 5, 57, 58, 48]) (ds := [y6_0.1, y6_1.1, y6_2.1, y6_3.1, y6_4.1, y6_5.1, y6_6.1, y6_7.1, y6_8.1, y6_9.1, y6_10.1, y6_11.1, y6_12.1, y6_13.1, y6_14.1, y6_15.1, y6_16.1]) (j := 5) (t := 48)
        (List.all_eq_true.2 (fun q hq => by simpa using hw6 q hq)) rfl rfl Try.underlying48 Try.underlying5 (by kernel_rfl) (by kernel_rfl) ⟨_, g6_5⟩
      obtain ⟨vg6_6, eg6_6, _⟩ := DataW.trod_bool Try.underlying4 g6_6
      have fg6_6 := List.head_eq_of_cons_eq eg6_6
      subst fg6_6
      obtain ⟨vg6_7, eg6_7, _, wg6_7⟩ := DataW.trod_int Try.underlying53 g6_7
      have fg6_7 := List.head_eq_of_cons_eq eg6_7
      subst fg6_7
      have bdg6_7 : 0 ≤ vg6_7 ∧ vg6_7 ≤ 255 := ⟨(wf_bounds_u8 wg6_7).1, by have := (wf_bounds_u8 wg6_7).2; omega⟩
      obtain ⟨vg6_8, eg6_8, _, wg6_8⟩ := DataW.trod_int Try.underlying55 g6_8
      have fg6_8 := List.head_eq_of_cons_eq eg6_8
      subst fg6_8
      have bdg6_8 : 0 ≤ vg6_8 ∧ vg6_8 ≤ 255 := ⟨(wf_bounds_u8 wg6_8).1, by have := (wf_bounds_u8 wg6_8).2; omega⟩
      obtain ⟨vg6_9, eg6_9, _, wg6_9⟩ := DataW.trod_int Try.underlying46 g6_9
      have fg6_9 := List.head_eq_of_cons_eq eg6_9
      subst fg6_9
      have bdg6_9 : 0 ≤ vg6_9 ∧ vg6_9 ≤ 255 := ⟨(wf_bounds_u8 wg6_9).1, by have := (wf_bounds_u8 wg6_9).2; omega⟩
      obtain ⟨vg6_10, eg6_10, _, wg6_10⟩ := DataW.trod_int Try.underlying56 g6_10
      have fg6_10 := List.head_eq_of_cons_eq eg6_10
      subst fg6_10
      have bdg6_10 : 0 ≤ vg6_10 ∧ vg6_10 ≤ 4294967295 := ⟨(wf_bounds_u32 wg6_10).1, by have := (wf_bounds_u32 wg6_10).2; omega⟩
      obtain ⟨vg6_11, eg6_11, _, wg6_11⟩ := DataW.trod_int Try.underlying56 g6_11
      have fg6_11 := List.head_eq_of_cons_eq eg6_11
      subst fg6_11
      have bdg6_11 : 0 ≤ vg6_11 ∧ vg6_11 ≤ 4294967295 := ⟨(wf_bounds_u32 wg6_11).1, by have := (wf_bounds_u32 wg6_11).2; omega⟩
      obtain ⟨vg6_12, eg6_12, _, wg6_12⟩ := DataW.trod_int Try.underlying54 g6_12
      have fg6_12 := List.head_eq_of_cons_eq eg6_12
      subst fg6_12
      obtain ⟨bg6_12, rfl⟩ := bv_of_int (k := 64) (wf_bounds_u64 wg6_12).1 (by have := (wf_bounds_u64 wg6_12).2; omega)
      obtain ⟨vg6_13, eg6_13, _, wg6_13⟩ := DataW.trod_int Try.underlying5 g6_13
      have fg6_13 := List.head_eq_of_cons_eq eg6_13
      subst fg6_13
      have bdg6_13 : 0 ≤ vg6_13 ∧ vg6_13 ≤ 255 := ⟨(wf_bounds_u8 wg6_13).1, by have := (wf_bounds_u8 wg6_13).2; omega⟩
      obtain ⟨ag6_14, lg6_14, cg6_14, rfl⟩ : ∃ a l c, c16 = .slice a l c := by
        rcases open_slice Try.underlying57 g6_14 with ⟨h, _⟩ | ⟨x, l, c, _, _, _, _, h, _⟩
        · simp at h; exact ⟨_, _, _, h⟩
        · simp at h; exact ⟨_, _, _, h⟩
      have hlg6_14 : lg6_14 ≤ 140737488351232 := open_len (W := W) (base := base) (spare := spare) (held := held) (enc := enc) (d := y6_14.1) (ps := y6_14.2) (a := ag6_14) (cap := cg6_14) (ts := [53, 54, 54, 54, 48, 48, 4, 53, 55, 46, 56, 56, 54, 5, 57, 58, 48]) (ds := [y6_0.1, y6_1.1, y6_2.1, y6_3.1, y6_4.1, y6_5.1, y6_6.1, y6_7.1, y6_8.1, y6_9.1, y6_10.1, y6_11.1, y6_12.1, y6_13.1, y6_14.1, y6_15.1, y6_16.1]) (j := 14) (t := 57) (List.all_eq_true.2 (fun q hq => by simpa using hw6 q hq)) rfl rfl Try.underlying57 (e := 194) (of_decide_eq_true (by kernel_rfl)) ⟨_, g6_14⟩
      obtain ⟨ag6_15, lg6_15, cg6_15, rfl⟩ : ∃ a l c, c17 = .slice a l c := by
        rcases open_slice Try.underlying58 g6_15 with ⟨h, _⟩ | ⟨x, l, c, _, _, _, _, h, _⟩
        · simp at h; exact ⟨_, _, _, h⟩
        · simp at h; exact ⟨_, _, _, h⟩
      have hlg6_15 : lg6_15 ≤ 140737488351232 := open_len (W := W) (base := base) (spare := spare) (held := held) (enc := enc) (d := y6_15.1) (ps := y6_15.2) (a := ag6_15) (cap := cg6_15) (ts := [53, 54, 54, 54, 48, 48, 4, 53, 55, 46, 56, 56, 54, 5, 57, 58, 48]) (ds := [y6_0.1, y6_1.1, y6_2.1, y6_3.1, y6_4.1, y6_5.1, y6_6.1, y6_7.1, y6_8.1, y6_9.1, y6_10.1, y6_11.1, y6_12.1, y6_13.1, y6_14.1, y6_15.1, y6_16.1]) (j := 15) (t := 58) (List.all_eq_true.2 (fun q hq => by simpa using hw6 q hq)) rfl rfl Try.underlying58 (e := 196) (of_decide_eq_true (by kernel_rfl)) ⟨_, g6_15⟩
      obtain ⟨ag6_16, lg6_16, cg6_16, rfl⟩ : ∃ a l c, c18 = .slice a l c := by
        rcases open_slice Try.underlying48 g6_16 with ⟨h, _⟩ | ⟨x, l, c, _, _, _, _, h, _⟩
        · simp at h; exact ⟨_, _, _, h⟩
        · simp at h; exact ⟨_, _, _, h⟩
      obtain ⟨xg6_16, rfl, hbg6_16, hng6_16, hlg6_16⟩ := open_bytes (P := Try.prog) (W := W) (base := base) (spare := spare) (held := held) (enc := enc) (d := y6_16.1) (ps := y6_16.2) (a := ag6_16) (cap := cg6_16) (ts := [53, 54, 54, 54, 48, 48, 4, 53, 55, 46, 56, 56, 54, 5, 57, 58, 48]) (ds := [y6_0.1, y6_1.1, y6_2.1, y6_3.1, y6_4.1, y6_5.1, y6_6.1, y6_7.1, y6_8.1, y6_9.1, y6_10.1, y6_11.1, y6_12.1, y6_13.1, y6_14.1, y6_15.1, y6_16.1]) (j := 16) (t := 48)
        (List.all_eq_true.2 (fun q hq => by simpa using hw6 q hq)) rfl rfl Try.underlying48 Try.underlying5 (by kernel_rfl) (by kernel_rfl) ⟨_, g6_16⟩
      refine ⟨⟨vg5_0, vg5_1, vg6_0, vg6_1, vg6_2, vg6_3, ag6_4, cg6_4, xg6_4, ag6_5, cg6_5, xg6_5, vg6_6, vg6_7, vg6_8, vg6_9, vg6_10, vg6_11, bg6_12, vg6_13, ag6_14, lg6_14, cg6_14, ag6_15, lg6_15, cg6_15, ag6_16, cg6_16, xg6_16⟩, ?_, ⟨bdg5_0, bdg5_1, bdg6_0, bdg6_1, bdg6_2, bdg6_3, ⟨hbg6_4, hlg6_4, hng6_4⟩, ⟨hbg6_5, hlg6_5, hng6_5⟩, bdg6_7, bdg6_8, bdg6_9, bdg6_10, bdg6_11, bdg6_13, hlg6_14, hlg6_15, ⟨hbg6_16, hlg6_16, hng6_16⟩⟩⟩
      intro j v hv
      have hj : j < 19 := by
        have := (List.getElem?_eq_some_iff.1 hv).1
        simpa [StpR.cells] using this
      rw [hat j hj]
      simpa [StpR.cells] using hv
    obtain ⟨f, hf⟩ := choose_lt key
    refine ⟨(List.range len).map f, by simp, ?_, by simpa using z2⟩
    intro i t hti
    simp only [List.getElem?_map, Option.map_eq_some_iff] at hti
    obtain ⟨i', hi', rfl⟩ := hti
    obtain ⟨hlt, rfl⟩ := List.getElem?_eq_some_iff.1 hi'
    simp only [List.length_range] at hlt
    rw [List.getElem_range]
    exact ⟨x, rfl, hf i hlt⟩
end Go.Proofs.Ytjepmckofocdnaa
