
/-
  Lists of structs in memory: each element some cells.
  Elements of a list of structs.
-/
import Derived.Test.YtjepmckofocdnaaBytes
import Derived.Laws.OwnMore
import Derived.Deep.RegionLaw
import Derived.Deep.Slices
namespace Go.Proofs.Ytjepmckofocdnaa
open Go.RowKit
set_option linter.unusedVariables false
set_option linter.unusedSimpArgs false

theorem flat_len {α : Type} (f : α → List Value) (s : Nat) (hf : ∀ r, (f r).length = s) (rs : List α) : (rs.flatMap f).length = rs.length * s := by
  induction rs with
  | nil => simp
  | cons r rs ih => rw [List.flatMap_cons, List.length_append, hf, ih, List.length_cons, Nat.add_mul]; omega
theorem flat_get {α : Type} (f : α → List Value) (s : Nat) (hf : ∀ r, (f r).length = s) (rs : List α) (i j : Nat) (r : α) (h : rs[i]? = some r) (hj : j < s) : (rs.flatMap f)[i * s + j]? = (f r)[j]? := by
  induction rs generalizing i with
  | nil => simp at h
  | cons x rs ih =>
    rw [List.flatMap_cons]
    cases i with
    | zero =>
      simp at h
      subst h
      rw [Nat.zero_mul, Nat.zero_add, List.getElem?_append_left (by rw [hf]; exact hj)]
    | succ i =>
      rw [List.getElem?_append_right (by rw [hf, Nat.add_mul]; omega), hf, show (i + 1) * s + j - s = i * s + j by rw [Nat.add_mul]; omega]
      exact ih i h
theorem add_lit' (g n : Nat) : (⟨g, 0, none⟩ : Addr).add n = ⟨g, n, none⟩ := by unfold Addr.add; split <;> simp_all
/-- the cells of what is owned -/
theorem Own.cellAt {w : World} {e size : Nat} {g c n : Nat} {xs : List Value} (h : Own w e size (.slice (some ⟨g, 0, none⟩) n c) n xs) (i : Nat) (v : Value) (hv : xs[i]? = some v) : w.cell? ⟨g, i, none⟩ = some v := by
  obtain ⟨y, e, hy⟩ := h.rd i v hv
  cases e
  rw [add_lit'] at hy
  exact hy
/-- the step of a region that draws: append onto what is owned -/
theorem step_app {P : Program} {ops : Array Oper} {o : Oper} {ac : Act} {w : World} {K : Act → World → Prop} {Q : Exit → Act → World → Prop} {E : Prop} (hgd : o.guard = none) (s x : Operand) (t : TypeId)
    (ho : o.op = .call { callee := .builtin .append, args := #[s, x], argTypes := #[t, t] })
    (e : TypeId) (i : TypeInfo) (z : Value) (size bytes : Nat) (ht : P.underlying t = some (.slice e)) (hi : P.info? e = some i) (hz : i.zero = some z)
    (hsize : i.size = size) (hby : i.bytes = bytes) (hzs : z.cells.size = size) (hsz : 0 < size)
    (v : Value) (n : Nat) (xs : List Value) (hs : ac.eval s = v) (hown : Own w e size v n xs)
    (a : Option Addr) (m c : Nat) (news : List Value) (hx : ac.eval x = .slice a m c) (hsrc : Src w a m size news) (hmc : a = none → c = 0)
    (h63 : n + m ≤ maxLen) (hbytes : (n + m) * bytes ≤ 140737488355328)
    (h : ∀ v' w', Own w' e size v' (n + m) (xs ++ news) → St (fpV v) w (fpV v') w' → (v' = .slice none 0 0 ↔ v = .slice none 0 0 ∧ m = 0) → K (ac.put o.dst v') w') :
    if Region.wanted o (yielded ops ac.tmps) = true then Oper.wp P o ac w K Q else E := by
  have hw : Region.wanted o (yielded ops ac.tmps) = true := by simp [Region.wanted, hgd]
  rw [if_pos hw]
  obtain ⟨v', w', hr, h2, h3, h4⟩ := append_run (P := P) w t o.type e i z size bytes ht hi hz hsize hby hzs hsz v n xs hown a m c news hsrc hmc h63 hbytes
  unfold Oper.wp execOp
  simp only [ho, resolve, invoke, builtin, Sem.run_bind, Sem.run_pure, Result.andThen_ok, List.map_toArray, List.map_cons, List.map_nil, hs, hx, hr]
  exact h v' w' h2 h3 h4
/-- make([]T, 0, n) -/
theorem wpList_make0 {P : Program} {w : World} {ops : Array Oper} {rest : List Oper} {o : Oper} {ac : Act} {Q : Exit → Act → World → Prop} (hgd : o.guard = none) (t : TypeId) (l c : Operand)
    (ho : o.op = .makeSlice t l c) (e : TypeId) (i : TypeInfo) (z : Value) (size bytes : Nat) (ht : P.underlying t = some (.slice e)) (hi : P.info? e = some i) (hz : i.zero = some z) (hsize : i.size = size) (hby : i.bytes = bytes)
    (kl kc : IntKind) (L C : Int) (n : Nat) (hl : ac.eval l = .int kl L) (hc : ac.eval c = .int kc C) (hL : L = 0) (hC : C = (n : Int)) (hb : bytes * n ≤ 281474976710656) (h63 : n ≤ maxLen)
    (h : ∀ w', Own w' e size (.slice (some ⟨w.heap.size, 0, none⟩) 0 n) 0 [] → St No w (fpV (.slice (some ⟨w.heap.size, 0, none⟩) 0 n)) w' →
      wpList P ops Q rest (ac.put o.dst (.slice (some ⟨w.heap.size, 0, none⟩) 0 n)) w') : wpList P ops Q (o :: rest) ac w := by
  refine wpList_plain hgd fun K hK => ?_
  subst hL
  subst hC
  subst hby
  obtain ⟨w', hr, ho', hg⟩ := run_make_own (P := P) w 0 t e i z size ht hi hz hsize kl kc n hb h63 (Nat.zero_le _)
  unfold Oper.wp
  simp only [execOp, ho, Sem.run_bind, Sem.run_pure, hl, hc, hr, Result.andThen_ok]
  refine hK _ _ (h w' ho' ⟨hg.os, hg.tape, hg.output, hg.size, fun k hk _ => hg.block k hk (fun e => by cases e), fun k hk => ?_⟩)
  simp [fpV, Value.ownBlock] at hk
  exact .inr (by omega)
/-- make([]T, n) -/
theorem wpList_makeN {P : Program} {w : World} {ops : Array Oper} {rest : List Oper} {o : Oper} {ac : Act} {Q : Exit → Act → World → Prop} (hgd : o.guard = none) (t : TypeId) (l c : Operand)
    (ho : o.op = .makeSlice t l c) (e : TypeId) (i : TypeInfo) (z : Value) (size bytes : Nat) (ht : P.underlying t = some (.slice e)) (hi : P.info? e = some i) (hz : i.zero = some z) (hsize : i.size = size) (hby : i.bytes = bytes)
    (kl kc : IntKind) (L C : Int) (n : Nat) (hl : ac.eval l = .int kl L) (hc : ac.eval c = .int kc C) (hL : L = (n : Int)) (hC : C = (n : Int)) (hb : bytes * n ≤ 281474976710656) (h63 : n ≤ maxLen)
    (h : ∀ w', Own w' e size (.slice (some ⟨w.heap.size, 0, none⟩) n n) n (madeCells z.cells (n * size)).toList → St No w (fpV (.slice (some ⟨w.heap.size, 0, none⟩) n n)) w' →
      wpList P ops Q rest (ac.put o.dst (.slice (some ⟨w.heap.size, 0, none⟩) n n)) w') : wpList P ops Q (o :: rest) ac w := by
  refine wpList_plain hgd fun K hK => ?_
  subst hL
  subst hC
  subst hby
  obtain ⟨w', hr, ho', hg⟩ := run_make_full (P := P) w 0 t e i z size ht hi hz hsize kl kc n hb h63 (Nat.zero_le _)
  unfold Oper.wp
  simp only [execOp, ho, Sem.run_bind, Sem.run_pure, hl, hc, hr, Result.andThen_ok]
  refine hK _ _ (h w' ho' ⟨hg.os, hg.tape, hg.output, hg.size, fun k hk _ => hg.block k hk (fun e => by cases e), fun k hk => ?_⟩)
  simp [fpV, Value.ownBlock] at hk
  exact .inr (by omega)
/-- the store of a cell into what is owned -/
theorem Own.set {w : World} {e size : Nat} {g c n : Nat} {xs : List Value} (h : Own w e size (.slice (some ⟨g, 0, none⟩) n c) n xs) (i : Nat) (u : Value) : Own (w.setCell ⟨g, i, none⟩ u) e size (.slice (some ⟨g, 0, none⟩) n c) n (xs.set i u) :=
  (World.ownsRow.stored h i u).1
theorem Own.freeAt {w : World} {e size : Nat} {g c n : Nat} {xs : List Value} (h : Own w e size (.slice (some ⟨g, 0, none⟩) n c) n xs) (i : Nat) : w.frozen? ⟨g, i, none⟩ = false := World.ownsRow.frozenAt h i
end Go.Proofs.Ytjepmckofocdnaa
namespace Go.Proofs.Ytjepmckofocdnaa
open Go.RowKit
set_option linter.unusedVariables false
set_option linter.unusedSimpArgs false

theorem rowL_elem {α : Type} {f : α → List Value} {s : Nat} (hf : ∀ r, (f r).length = s) {w : World} {e : TypeId} {y : Addr} {n c : Nat} {rs : List α} (h : Own w e s (.slice (some y) n c) n (rs.flatMap f)) (i : Nat) (r : α) (hr : rs[i]? = some r) (j : Nat) (v : Value) (hj : j < s) (hv : (f r)[j]? = some v) : w.cell? ((y.add (i * s)).add j) = some v := by
  have h1 := flat_get f s hf rs i j r hr hj
  rw [hv] at h1
  have := h.rd.at_some _ _ h1
  rw [Go.Deep.add_add]
  exact this
theorem rowL_some {α : Type} {f : α → List Value} {s : Nat} (hf : ∀ r, (f r).length = s) (hs : 0 < s) {w : World} {e : TypeId} {a : Option Addr} {n c : Nat} {rs : List α} (h : Own w e s (.slice a n c) n (rs.flatMap f)) (i : Nat) (hi : i < rs.length) : ∃ y, a = some y := by
  have h1 := flat_get f s hf rs i 0 _ (List.getElem?_eq_getElem hi) hs
  have h2 : 0 < (f rs[i]).length := by rw [hf]; exact hs
  rw [List.getElem?_eq_getElem h2] at h1
  obtain ⟨y, hy, _⟩ := h.rd _ _ h1
  exact ⟨y, hy⟩
end Go.Proofs.Ytjepmckofocdnaa
