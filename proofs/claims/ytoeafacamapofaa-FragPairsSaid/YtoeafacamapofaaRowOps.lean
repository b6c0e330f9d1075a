
/-
  A row's argument, opened: a script of a Joiner's steps.
-/
import Derived.Test.YtoeafacamapofaaRowLists
import Derived.Deep.Slices
import Derived.Deep.Fields
import Derived.ChangeSame
namespace Go.Proofs.Ytoeafacamapofaa
open Go.RowKit Go.ChangeShapes Go.WideShapes Go.Deep
set_option linter.unusedVariables false
set_option linter.unusedSimpArgs false

theorem lst8 {α : Type} : ∀ {l : List α}, l.length = 8 → ∃ x0 x1 x2 x3 x4 x5 x6 x7, l = [x0, x1, x2, x3, x4, x5, x6, x7]
  | l, h => by
    rcases l with _ | ⟨x0, l⟩
    · simp at h
    rcases l with _ | ⟨x1, l⟩
    · simp at h
    rcases l with _ | ⟨x2, l⟩
    · simp at h
    rcases l with _ | ⟨x3, l⟩
    · simp at h
    rcases l with _ | ⟨x4, l⟩
    · simp at h
    rcases l with _ | ⟨x5, l⟩
    · simp at h
    rcases l with _ | ⟨x6, l⟩
    · simp at h
    rcases l with _ | ⟨x7, l⟩
    · simp at h
    rcases l with _ | ⟨y, l⟩
    · exact ⟨x0, x1, x2, x3, x4, x5, x6, x7, rfl⟩
    · simp at h <;> omega
structure OpR where
  kind : Int
  frm : Int
  packet : Int
  id : BitVec 64
  mtu : Int
  index : Int
  flip : Int
  rawA : Option Addr
  rawC : Nat
  raw : List B8
def OpR.cells (r : OpR) : List Value := [.int .i64 r.kind, .int .u8 r.frm, .int .i64 r.packet, .int .u64 (r.id.toNat : Int), .int .i64 r.mtu, .int .i64 r.index, .int .i64 r.flip, .slice r.rawA r.raw.length r.rawC]
theorem OpR.cells_len (r : OpR) : r.cells.length = 8 := rfl
structure OpR.Ok (w : World) (r : OpR) : Prop where
  kind : -9223372036854775808 ≤ r.kind ∧ r.kind ≤ 9223372036854775807
  frm : 0 ≤ r.frm ∧ r.frm ≤ 255
  packet : -9223372036854775808 ≤ r.packet ∧ r.packet ≤ 9223372036854775807
  mtu : -9223372036854775808 ≤ r.mtu ∧ r.mtu ≤ 9223372036854775807
  index : -9223372036854775808 ≤ r.index ∧ r.index ≤ 9223372036854775807
  flip : -9223372036854775808 ≤ r.flip ∧ r.flip ≤ 9223372036854775807
  raw : Bs w r.rawA r.raw ∧ r.raw.length ≤ 140737488351232 ∧ (r.rawA = none → r.rawC = 0)
theorem OpR.Ok.st {w w' : World} {r : OpR} {F : Nat → Prop} (h : r.Ok w) (t : St No w F w') : r.Ok w' where
  kind := h.kind
  frm := h.frm
  packet := h.packet
  mtu := h.mtu
  index := h.index
  flip := h.flip
  raw := ⟨h.raw.1.st t (Dj.no _), h.raw.2⟩
def OpsIn (w : World) (a : Option Addr) (rs : List OpR) : Prop := ∀ (i : Nat) (r : OpR), rs[i]? = some r → ∃ x, a = some x ∧ (∀ (j : Nat) (v : Value), r.cells[j]? = some v → w.cell? ((x.add (i * 8)).add j) = some v) ∧ r.Ok w
theorem OpsIn.st {w w' : World} {a : Option Addr} {rs : List OpR} {F : Nat → Prop} (h : OpsIn w a rs) (t : St No w F w') : OpsIn w' a rs := by
  intro i r hi
  obtain ⟨x, e1, e2, e3⟩ := h i r hi
  refine ⟨x, e1, fun j v hv => ?_, e3.st t⟩
  have hx := e2 j v hv
  have hl := World.block_lt_of_cell? w _ hx
  rw [World.cell?_of_block (w := w)]
  · exact hx
  · exact t.block _ hl (fun hf => hf)
instance : Inhabited OpR := ⟨⟨0, 0, 0, 0, 0, 0, 0, none, 0, []⟩⟩
set_option maxRecDepth 100000 in
/-- an argument that is a slice of these -/
theorem open_ops {H : Type} {enc : TypeId × Value → H} {W : World} {base : Nat} {spare : Nat → Bool} {held : Bool} {t : TypeId} {a : Option Addr} {len cap : Nat} {d : DataW H} {ps : List MemPlace} {ts : List TypeId} {ds : List (DataW H)} {j : Nat}
    (hsz : (DataW.weightsEach Try.prog ts ds).all (· ≤ reachBytes) = true) (ht : ts[j]? = some t) (hd : ds[j]? = some d)
    (h : DataW.Trod enc Try.prog W base spare held t (.slice a len cap) d ps) (htt : t = 76 := by rfl) :
    ∃ rs : List OpR, len = rs.length ∧ OpsIn W a rs ∧ rs.length ≤ 140737488351232 := by
  subst htt
  have hu := Try.underlying76
  have hC : Try.prog.cellsOf 85 = 8 := by kernel_rfl
  have hB : 1 ≤ Try.prog.bytesOf 85 := of_decide_eq_true (by kernel_rfl)
  obtain ⟨fuel, hf⟩ := h
  rcases open_slice hu hf with ⟨hcs, _⟩ | ⟨x, l, c, m, n, D, Pl, hcs, hb, hl, hm, hmm, hx, hi⟩
  · simp [Value.cells] at hcs
    obtain ⟨rfl, rfl, rfl⟩ := hcs
    exact ⟨[], rfl, fun i t h => by simp at h, by simp⟩
  · simp [Value.cells] at hcs
    obtain ⟨rfl, rfl, rfl⟩ := hcs
    obtain ⟨hx, _⟩ := Prod.mk.inj hx
    subst hx
    have z := sized_slice hsz ht hd hu
    have hlm : len ≤ m := by rw [hmm]; split <;> omega
    simp only [List.length_map, List.length_range] at z
    have z2 : len ≤ 140737488351232 := many_reach hlm hB z
    have hall := List.all_eq_true.1 hsz
    clear z hB
    have key : ∀ i, i < len → ∃ r : OpR, (∀ j v, r.cells[j]? = some v → W.cell? ((x.add (i * 8)).add j) = some v) ∧ r.Ok W := by
      intro i hil
      obtain ⟨cs, h1, h2⟩ := hi i (by omega)
      rw [hC] at h1
      obtain ⟨_, hcl, hat⟩ := World.cells?_some h1
      have hwD : ∀ q ∈ (D i).weights Try.prog 85, q ≤ reachBytes := by
        intro q hq2
        have hq3 : q ∈ DataW.weightsAll Try.prog 85 ((List.range len).map D) := mem_weightsAll (List.mem_map.2 ⟨i, List.mem_range.2 hil, rfl⟩) q hq2
        have hq4 : q ∈ (DataW.slice ((List.range len).map D) ((List.range (m - len)).map fun j => D (len + j))).weights Try.prog 76 := by
          unfold DataW.weights
          simp only [hu]
          exact List.mem_cons_of_mem _ (List.mem_append.2 (.inl hq3))
        simpa using hall q (DataW.weights_mem_each ht hd q hq4)
      obtain ⟨c0, c1, c2, c3, c4, c5, c6, c7, rfl⟩ := lst8 hcl
      have hs_1 := Try.underlying85
      obtain ⟨ys1, n1, hn1, hy1, hlen1, hyl1, hf1⟩ := DataW.trod_struct hs_1 h2
      have hyk1 : ys1.length = 8 := hyl1
      clear hyl1
      obtain ⟨y1_0, y1_1, y1_2, y1_3, y1_4, y1_5, y1_6, y1_7, rfl⟩ := lst8 hyk1
      simp only [Prod.mk.injEq] at hy1
      have hw1 : ∀ q ∈ DataW.weightsEach Try.prog [3, 28, 3, 43, 3, 3, 3, 25] [y1_0.1, y1_1.1, y1_2.1, y1_3.1, y1_4.1, y1_5.1, y1_6.1, y1_7.1], q ≤ reachBytes := by
        intro q hq
        refine hwD q ?_
        rw [hy1.1]
        unfold DataW.weights
        simp only [hs_1]
        exact hq
      have g1_0 : DataW.trod enc Try.prog W base spare held n1 3 (([c0, c1, c2, c3, c4, c5, c6, c7].drop 0).take (Try.prog.cellsOf 3)) = some y1_0 := hf1 0 _ rfl
      rw [show Try.prog.cellsOf 3 = 1 by kernel_rfl] at g1_0
      have g1_0 : DataW.trod enc Try.prog W base spare held n1 3 [c0] = some y1_0 := g1_0
      have g1_1 : DataW.trod enc Try.prog W base spare held n1 28 (([c0, c1, c2, c3, c4, c5, c6, c7].drop 1).take (Try.prog.cellsOf 28)) = some y1_1 := hf1 1 _ rfl
      rw [show Try.prog.cellsOf 28 = 1 by kernel_rfl] at g1_1
      have g1_1 : DataW.trod enc Try.prog W base spare held n1 28 [c1] = some y1_1 := g1_1
      have g1_2 : DataW.trod enc Try.prog W base spare held n1 3 (([c0, c1, c2, c3, c4, c5, c6, c7].drop 2).take (Try.prog.cellsOf 3)) = some y1_2 := hf1 2 _ rfl
      rw [show Try.prog.cellsOf 3 = 1 by kernel_rfl] at g1_2
      have g1_2 : DataW.trod enc Try.prog W base spare held n1 3 [c2] = some y1_2 := g1_2
      have g1_3 : DataW.trod enc Try.prog W base spare held n1 43 (([c0, c1, c2, c3, c4, c5, c6, c7].drop 3).take (Try.prog.cellsOf 43)) = some y1_3 := hf1 3 _ rfl
      rw [show Try.prog.cellsOf 43 = 1 by kernel_rfl] at g1_3
      have g1_3 : DataW.trod enc Try.prog W base spare held n1 43 [c3] = some y1_3 := g1_3
      have g1_4 : DataW.trod enc Try.prog W base spare held n1 3 (([c0, c1, c2, c3, c4, c5, c6, c7].drop 4).take (Try.prog.cellsOf 3)) = some y1_4 := hf1 4 _ rfl
      rw [show Try.prog.cellsOf 3 = 1 by kernel_rfl] at g1_4
      have g1_4 : DataW.trod enc Try.prog W base spare held n1 3 [c4] = some y1_4 := g1_4
      have g1_5 : DataW.trod enc Try.prog W base spare held n1 3 (([c0, c1, c2, c3, c4, c5, c6, c7].drop 5).take (Try.prog.cellsOf 3)) = some y1_5 := hf1 5 _ rfl
      rw [show Try.prog.cellsOf 3 = 1 by kernel_rfl] at g1_5
      have g1_5 : DataW.trod enc Try.prog W base spare held n1 3 [c5] = some y1_5 := g1_5
      have g1_6 : DataW.trod enc Try.prog W base spare held n1 3 (([c0, c1, c2, c3, c4, c5, c6, c7].drop 6).take (Try.prog.cellsOf 3)) = some y1_6 := hf1 6 _ rfl
      rw [show Try.prog.cellsOf 3 = 1 by kernel_rfl] at g1_6
      have g1_6 : DataW.trod enc Try.prog W base spare held n1 3 [c6] = some y1_6 := g1_6
      have g1_7 : DataW.trod enc Try.prog W base spare held n1 25 (([c0, c1, c2, c3, c4, c5, c6, c7].drop 7).take (Try.prog.cellsOf 25)) = some y1_7 := hf1 7 _ rfl
      rw [show Try.prog.cellsOf 25 = 1 by kernel_rfl] at g1_7
      have g1_7 : DataW.trod enc Try.prog W base spare held n1 25 [c7] = some y1_7 := g1_7
      obtain ⟨vg1_0, eg1_0, _, wg1_0⟩ := DataW.trod_int Try.underlying3 g1_0
      have fg1_0 := List.head_eq_of_cons_eq eg1_0
      subst fg1_0
      have bdg1_0 : -9223372036854775808 ≤ vg1_0 ∧ vg1_0 ≤ 9223372036854775807 := ⟨(wf_bounds_i64 wg1_0).1, by have := (wf_bounds_i64 wg1_0).2; omega⟩
      obtain ⟨vg1_1, eg1_1, _, wg1_1⟩ := DataW.trod_int Try.underlying28 g1_1
      have fg1_1 := List.head_eq_of_cons_eq eg1_1
      subst fg1_1
      have bdg1_1 : 0 ≤ vg1_1 ∧ vg1_1 ≤ 255 := ⟨(wf_bounds_u8 wg1_1).1, by have := (wf_bounds_u8 wg1_1).2; omega⟩
      obtain ⟨vg1_2, eg1_2, _, wg1_2⟩ := DataW.trod_int Try.underlying3 g1_2
      have fg1_2 := List.head_eq_of_cons_eq eg1_2
      subst fg1_2
      have bdg1_2 : -9223372036854775808 ≤ vg1_2 ∧ vg1_2 ≤ 9223372036854775807 := ⟨(wf_bounds_i64 wg1_2).1, by have := (wf_bounds_i64 wg1_2).2; omega⟩
      obtain ⟨vg1_3, eg1_3, _, wg1_3⟩ := DataW.trod_int Try.underlying43 g1_3
      have fg1_3 := List.head_eq_of_cons_eq eg1_3
      subst fg1_3
      obtain ⟨bg1_3, rfl⟩ := bv_of_int (k := 64) (wf_bounds_u64 wg1_3).1 (by have := (wf_bounds_u64 wg1_3).2; omega)
      obtain ⟨vg1_4, eg1_4, _, wg1_4⟩ := DataW.trod_int Try.underlying3 g1_4
      have fg1_4 := List.head_eq_of_cons_eq eg1_4
      subst fg1_4
      have bdg1_4 : -9223372036854775808 ≤ vg1_4 ∧ vg1_4 ≤ 9223372036854775807 := ⟨(wf_bounds_i64 wg1_4).1, by have := (wf_bounds_i64 wg1_4).2; omega⟩
      obtain ⟨vg1_5, eg1_5, _, wg1_5⟩ := DataW.trod_int Try.underlying3 g1_5
      have fg1_5 := List.head_eq_of_cons_eq eg1_5
      subst fg1_5
      have bdg1_5 : -9223372036854775808 ≤ vg1_5 ∧ vg1_5 ≤ 9223372036854775807 := ⟨(wf_bounds_i64 wg1_5).1, by have := (wf_bounds_i64 wg1_5).2; omega⟩
      obtain ⟨vg1_6, eg1_6, _, wg1_6⟩ := DataW.trod_int Try.underlying3 g1_6
      have fg1_6 := List.head_eq_of_cons_eq eg1_6
      subst fg1_6
      have bdg1_6 : -9223372036854775808 ≤ vg1_6 ∧ vg1_6 ≤ 9223372036854775807 := ⟨(wf_bounds_i64 wg1_6).1, by have := (wf_bounds_i64 wg1_6).2; omega⟩
      obtain ⟨ag1_7, lg1_7, cg1_7, rfl⟩ : ∃ a l c, c7 = .slice a l c := by
        rcases open_slice Try.underlying25 g1_7 with ⟨h, _⟩ | ⟨x, l, c, _, _, _, _, h, _⟩
        · simp at h; exact ⟨_, _, _, h⟩
        · simp at h; exact ⟨_, _, _, h⟩
      obtain ⟨xg1_7, rfl, hbg1_7, hng1_7, hlg1_7⟩ := open_bytes (P := Try.prog) (W := W) (base := base) (spare := spare) (held := held) (enc := enc) (d := y1_7.1) (ps := y1_7.2) (a := ag1_7) (cap := cg1_7) (ts := [3, 28, 3, 43, 3, 3, 3, 25]) (ds := [y1_0.1, y1_1.1, y1_2.1, y1_3.1, y1_4.1, y1_5.1, y1_6.1, y1_7.1]) (j := 7) (t := 25)
        (List.all_eq_true.2 (fun q hq => by simpa using hw1 q hq)) rfl rfl Try.underlying25 Try.underlying5 (by kernel_rfl) (by kernel_rfl) ⟨_, g1_7⟩
      refine ⟨⟨vg1_0, vg1_1, vg1_2, bg1_3, vg1_4, vg1_5, vg1_6, ag1_7, cg1_7, xg1_7⟩, ?_, ⟨bdg1_0, bdg1_1, bdg1_2, bdg1_4, bdg1_5, bdg1_6, ⟨hbg1_7, hlg1_7, hng1_7⟩⟩⟩
      intro j v hv
      have hj : j < 8 := by
        have := (List.getElem?_eq_some_iff.1 hv).1
        simpa [OpR.cells] using this
      rw [hat j hj]
      simpa [OpR.cells] using hv
    obtain ⟨f, hf⟩ := choose_lt key
    refine ⟨(List.range len).map f, by simp, ?_, by simpa using z2⟩
    intro i t hti
    simp only [List.getElem?_map, Option.map_eq_some_iff] at hti
    obtain ⟨i', hi', rfl⟩ := hti
    obtain ⟨hlt, rfl⟩ := List.getElem?_eq_some_iff.1 hi'
    simp only [List.length_range] at hlt
    rw [List.getElem_range]
    exact ⟨x, rfl, hf i hlt⟩
end Go.Proofs.Ytoeafacamapofaa
