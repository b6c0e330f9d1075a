
/-
  Small words on the heap: what a step leaves alone, the places where an object lies, slices that the program owns or reads.
  Go's bit operations on whole numbers, as operations on bit vectors.
  Bytes in memory.
-/
import Derived.Test.YtjepmckofocdnaaProg
import Derived.WalkKit
import Derived.WalkSpells
import Derived.WalkLawsBesides
import Derived.KernelRfl
import Derived.Lib.Hide
import Derived.Deep.LoopGhost
import Derived.Deep.QuietTactic
import Derived.BigQuiet
import Derived.StillTailTactics
import Derived.Deep.RegionHeld3
import Derived.Deep.RegionLaw
import Derived.Deep.DeepCutAuto
import Derived.Deep.DeepFit
import Derived.IntWalk
namespace Go.Proofs.Ytjepmckofocdnaa
open Go.RowKit
set_option linter.unusedVariables false

/-- A step from w to w': of what was there only blocks in F may have turned; what is held behind it lies in F or is new. -/
structure St (F : Nat → Prop) (w : World) (F' : Nat → Prop) (w' : World) : Prop where
  os : w'.os = w.os
  tape : w'.tape = w.tape
  output : w'.output = w.output
  size : w.heap.size ≤ w'.heap.size
  block : ∀ k, k < w.heap.size → ¬ F k → w'.heap[k]? = w.heap[k]?
  new : ∀ k, F' k → F k ∨ w.heap.size ≤ k

theorem ret_int {k : IntKind} {a b : Int} (h : a = b) : Ending.returned (.int k a) = .returned (.int k b) := by rw [h]
theorem ret_bool {a b : Bool} (h : a = b) : Ending.returned (.bool a) = .returned (.bool b) := by rw [h]
def No : Nat → Prop := fun _ => False
/-- where a slice value lies -/
def fpV (v : Value) : Nat → Prop := fun k => v.ownBlock = some k

theorem St.refl (F : Nat → Prop) (w : World) : St F w F w := ⟨rfl, rfl, rfl, Nat.le_refl _, fun _ _ _ => rfl, fun _ h => .inl h⟩
theorem St.trans {F G H : Nat → Prop} {a b c : World} (h : St F a G b) (k : St G b H c) : St F a H c :=
  ⟨k.os.trans h.os, k.tape.trans h.tape, k.output.trans h.output, Nat.le_trans h.size k.size,
   fun i hi hF => (k.block i (Nat.lt_of_lt_of_le hi h.size) (fun hG => (h.new i hG).elim hF (fun hl => absurd hi (Nat.not_lt.2 hl)))).trans (h.block i hi hF),
   fun i hH => (k.new i hH).elim (h.new i) (fun hl => .inr (Nat.le_trans h.size hl))⟩
/-- the places may be told more widely -/
theorem St.wide {F G F' G' : Nat → Prop} {a b : World} (h : St F a G b) (hF : ∀ k, F k → F' k) (hG : ∀ k, G' k → F' k ∨ G k) : St F' a G' b :=
  ⟨h.os, h.tape, h.output, h.size, fun i hi hn => h.block i hi (fun hf => hn (hF i hf)), fun k hk => (hG k hk).elim .inl (fun hg => (h.new k hg).imp (hF k) id)⟩
theorem St.drop {F G G' : Nat → Prop} {a b : World} (h : St F a G b) (hG : ∀ k, G' k → F k ∨ G k) : St F a G' b := h.wide (fun _ h => h) hG
theorem St.below {G : Nat → Prop} {a b : World} (h : St No a G b) : Below a.heap.size a b :=
  ⟨h.os, h.tape, h.output, h.size, fun k hk => h.block k hk (fun h => h)⟩
theorem St.of_below {a b : World} (h : Below a.heap.size a b) : St No a No b :=
  ⟨h.os, h.tape, h.output, h.size, fun k hk _ => h.block k hk, fun _ h => .inl h⟩
theorem St.drew (F : Nat → Prop) (w : World) : St F w F w.drew := ⟨rfl, rfl, rfl, Nat.le_refl _, fun _ _ _ => rfl, fun _ h => .inl h⟩
theorem St.drewN (F : Nat → Prop) (w : World) (n : Nat) : St F w F (w.drewN n) := ⟨rfl, rfl, rfl, Nat.le_refl _, fun _ _ _ => rfl, fun _ h => .inl h⟩
theorem St.alloc (F : Nat → Prop) (w : World) (o : Obj) : St F w (fun k => F k ∨ k = w.heap.size) (w.alloc o) :=
  ⟨rfl, rfl, rfl, by simp, fun k hk _ => Below.heap_alloc w o k hk, fun k h => h.elim .inl (fun e => .inr (Nat.le_of_eq e.symm))⟩
theorem St.alloc' (F : Nat → Prop) (w : World) (o : Obj) : St F w F (w.alloc o) :=
  ⟨rfl, rfl, rfl, by simp, fun k hk _ => Below.heap_alloc w o k hk, fun k h => .inl h⟩
theorem St.setCell {F : Nat → Prop} (w : World) (a : Addr) (u : Value) (h : F a.block) : St F w F (w.setCell a u) :=
  ⟨rfl, rfl, rfl, by simp [World.setCell], fun k _ hn => Below.heap_setCell w a u k (fun e => hn (e ▸ h)), fun _ h => .inl h⟩
theorem St.setRow {F : Nat → Prop} (w : World) (g : Nat) (cs : Array Value) (h : F g) : St F w F (w.setRow g cs) :=
  ⟨rfl, rfl, rfl, by simp, fun k _ hn => setRow_other w g k cs (fun e => hn (e ▸ h)), fun _ h => .inl h⟩

/-- all that is new behind w -/
def Nw (w : World) : Nat → Prop := fun k => w.heap.size ≤ k
theorem St.toNew {F G : Nat → Prop} {w w' : World} (h : St F w G w') : St F w (Nw w) w' := ⟨h.os, h.tape, h.output, h.size, h.block, fun _ hk => .inr hk⟩
theorem St.then {G H : Nat → Prop} {w a b : World} (h : St No w G a) (k : St No a H b) : St No w (Nw w) b := (h.trans (k.wide (fun _ h => h.elim) (fun _ hk => .inr hk))).toNew
/-- nothing but draws -/
structure Dr (w w' : World) : Prop where
  out : ∃ n, w' = w.drewN n
theorem Dr.refl (w : World) : Dr w w := ⟨0, rfl⟩
theorem Dr.step {w : World} (m n : Nat) : Dr w ((w.drewN m).drewN n) := ⟨m + n, by unfold World.drewN; simp [Nat.add_assoc]⟩
theorem Dr.step1 {w : World} (m : Nat) : Dr w (w.drewN m).drew := ⟨m + 1, by unfold World.drewN World.drew; simp [Nat.add_assoc]⟩
theorem Dr.one {w : World} (m : Nat) : Dr w (w.drewN m) := ⟨m, rfl⟩
theorem Dr.drew {w w' : World} (h : Dr w w') : Dr w w'.drew := by obtain ⟨m, rfl⟩ := h; exact Dr.step1 m
theorem Dr.drewN {w w' : World} (h : Dr w w') (n : Nat) : Dr w (w'.drewN n) := by obtain ⟨m, rfl⟩ := h; exact Dr.step m n
theorem Dr.trans {a b c : World} (h : Dr a b) (k : Dr b c) : Dr a c := by obtain ⟨n, rfl⟩ := k; exact h.drewN n
theorem Dr.heap {w w' : World} (h : Dr w w') : w'.heap = w.heap := by obtain ⟨m, rfl⟩ := h; rfl
theorem Dr.st {w w' : World} (h : Dr w w') (F : Nat → Prop) : St F w F w' := by obtain ⟨m, rfl⟩ := h; exact St.drewN F w m
/-- Two objects lie apart. -/
def Dj (F G : Nat → Prop) : Prop := ∀ k, F k → G k → False
theorem Dj.symm {F G : Nat → Prop} (h : Dj F G) : Dj G F := fun k a b => h k b a
theorem Dj.no (F : Nat → Prop) : Dj No F := fun _ h _ => h
/-- all of an object's places are there -/
def In (F : Nat → Prop) (w : World) : Prop := ∀ k, F k → k < w.heap.size
/-- none of an object's places is below B -/
def Lo (B : Nat) (F : Nat → Prop) : Prop := ∀ k, F k → B ≤ k
theorem Lo.st {B : Nat} {F F' : Nat → Prop} {w w' : World} (h : Lo B F) (hB : B ≤ w.heap.size) (s : St F w F' w') : Lo B F' :=
  fun k hk => (s.new k hk).elim (h k) (fun hl => Nat.le_trans hB hl)
theorem Lo.dj {B : Nat} {F : Nat → Prop} (h : Lo B F) {G : Nat → Prop} (hG : ∀ k, G k → k < B) : Dj G F := fun k a b => absurd (hG k a) (Nat.not_lt.2 (h k b))
theorem In.st {G F F' : Nat → Prop} {w w' : World} (h : In G w) (s : St F w F' w') : In G w' := fun k hk => Nat.lt_of_lt_of_le (h k hk) s.size
theorem Dj.st {F F' G : Nat → Prop} {w w' : World} (h : Dj F G) (hG : In G w) (s : St F w F' w') : Dj F' G :=
  fun k a b => (s.new k a).elim (fun hf => h k hf b) (fun hl => absurd (hG k b) (Nat.not_lt.2 hl))
theorem St.same {F F' G : Nat → Prop} {w w' : World} (s : St F w F' w') (hG : In G w) (h : Dj F G) : ∀ k, G k → w'.heap[k]? = w.heap[k]? :=
  fun k hk => s.block k (hG k hk) (fun hf => h k hf hk)

/-- w holds at block p these cells, all its own -/
def Ob (w : World) (p : Nat) (T : TypeId) (cs : Array Value) : Prop := w.heap[p]? = some (.cells cs T (0, 0))
theorem Ob.lt {w : World} {p : Nat} {T : TypeId} {cs : Array Value} (h : Ob w p T cs) : p < w.heap.size := (Array.getElem?_eq_some_iff.1 h).1
theorem Ob.cell {w : World} {p : Nat} {T : TypeId} {cs : Array Value} (h : Ob w p T cs) (i : Nat) : w.cell? ⟨p, i, none⟩ = cs[i]? := cell_of_row w p i cs T (0, 0) h
theorem Ob.free {w : World} {p : Nat} {T : TypeId} {cs : Array Value} (h : Ob w p T cs) (i : Nat) : w.frozen? ⟨p, i, none⟩ = false := frozen_of_row w p i cs T h
theorem Ob.move {w w' : World} {p : Nat} {T : TypeId} {cs : Array Value} (h : Ob w p T cs) (e : w'.heap[p]? = w.heap[p]?) : Ob w' p T cs := e.trans h
theorem Ob.set {w : World} {p : Nat} {T : TypeId} {cs : Array Value} (h : Ob w p T cs) (i : Nat) (u : Value) : Ob (w.setCell ⟨p, i, none⟩ u) p T (cs.setIfInBounds i u) :=
  heap_setCell_same w p i cs T u h
theorem Ob.setRow {w : World} {p : Nat} {T : TypeId} {cs : Array Value} (h : Ob w p T cs) (ds : Array Value) : Ob (w.setRow p ds) p T ds := setRow_heap w p cs ds T (0, 0) h
theorem Ob.alloc (w : World) (cs : Array Value) (T : TypeId) : Ob (w.alloc (.cells cs T)) w.heap.size T cs := heap_alloc_new w _
theorem Ob.drew {w : World} {p : Nat} {T : TypeId} {cs : Array Value} (h : Ob w p T cs) : Ob w.drew p T cs := h
theorem Ob.drewN {w : World} {p : Nat} {T : TypeId} {cs : Array Value} (h : Ob w p T cs) (n : Nat) : Ob (w.drewN n) p T cs := h

/-- a slice's cells are readable -/
def Rd (w : World) (a : Option Addr) (vs : List Value) : Prop := ∀ i v, vs[i]? = some v → ∃ x, a = some x ∧ w.cell? (x.add i) = some v
theorem rd_row {w : World} {p : Nat} {T : TypeId} {cs : Array Value} {fr : Nat × Nat} (h : w.heap[p]? = some (.cells cs T fr)) : Rd w (some ⟨p, 0, none⟩) cs.toList := by
  intro i v hv
  refine ⟨_, rfl, ?_⟩
  have e : (⟨p, 0, none⟩ : Addr).add i = ⟨p, i, none⟩ := by unfold Addr.add; split <;> simp_all
  rw [e, cell_of_row w p i cs T fr h]
  simpa using hv
theorem Ob.rd {w : World} {p : Nat} {T : TypeId} {cs : Array Value} (h : Ob w p T cs) : Rd w (some ⟨p, 0, none⟩) cs.toList := by
  intro i v hv
  refine ⟨_, rfl, ?_⟩
  have e : (⟨p, 0, none⟩ : Addr).add i = ⟨p, i, none⟩ := by unfold Addr.add; split <;> simp_all
  rw [e, h.cell i]
  simpa using hv
theorem Rd.take {w : World} {a : Option Addr} {vs : List Value} (h : Rd w a vs) (n : Nat) : Rd w a (vs.take n) := by
  intro i v hv
  rw [List.getElem?_take] at hv
  split at hv
  · exact h i v hv
  · cases hv
/-- where a slice that is read lies -/
def fpA (a : Option Addr) : Nat → Prop := fun k => ∃ x, a = some x ∧ x.block = k
theorem addr_block (x : Addr) (i : Nat) : (x.add i).block = x.block := by unfold Addr.add; split <;> rfl
theorem Rd.move {w w' : World} {a : Option Addr} {vs : List Value} (h : Rd w a vs) (e : ∀ k, fpA a k → w'.heap[k]? = w.heap[k]?) : Rd w' a vs := by
  intro i v hv
  obtain ⟨x, rfl, hx⟩ := h i v hv
  exact ⟨x, rfl, by rw [World.cell?_of_block (w := w)]; · exact hx
                    · rw [addr_block]; exact e _ ⟨x, rfl, rfl⟩⟩
theorem Rd.nil (w : World) (a : Option Addr) : Rd w a [] := fun i v h => by simp at h

theorem Rd.st {w w' : World} {a : Option Addr} {vs : List Value} {F F' : Nat → Prop} (h : Rd w a vs) (s : St F w F' w') (hd : Dj F (fpA a)) : Rd w' a vs := by
  intro i v hv
  obtain ⟨x, rfl, hx⟩ := h i v hv
  refine ⟨x, rfl, ?_⟩
  have hl := World.block_lt_of_cell? w _ hx
  rw [World.cell?_of_block (w := w)]
  · exact hx
  · rw [addr_block] at hl ⊢
    exact s.block _ hl (fun hf => hd _ hf ⟨x, rfl, rfl⟩)
/-- a slice of the program's own, elements of one size -/
def Own (w : World) (e size : Nat) (v : Value) (n : Nat) (xs : List Value) : Prop := w.ownsRow 0 e size v n xs
theorem Own.nil (w : World) (e size : Nat) : Own w e size (.slice none 0 0) 0 [] := World.ownsRow_nil w 0 e size
theorem Own.move {w w' : World} {e size : Nat} {v : Value} {n : Nat} {xs : List Value} (h : Own w e size v n xs) (hm : ∀ k, fpV v k → w'.heap[k]? = w.heap[k]?) : Own w' e size v n xs := by
  obtain ⟨h1, h2⟩ := h
  refine ⟨h1, ?_⟩
  rcases h2 with h2 | ⟨g, cap, cur, rfl, hg, hh, r⟩
  · exact .inl h2
  · exact .inr ⟨g, cap, cur, rfl, hg, (hm g (by simp [fpV, Value.ownBlock])).trans hh, r⟩
theorem Own.in {w : World} {e size : Nat} {v : Value} {n : Nat} {xs : List Value} (h : Own w e size v n xs) : In (fpV v) w := fun k hk => (World.ownsRow.lt h k hk).2
theorem Own.st {w w' : World} {e size : Nat} {v : Value} {n : Nat} {xs : List Value} {F F' : Nat → Prop} (h : Own w e size v n xs) (s : St F w F' w') (hd : Dj F (fpV v)) : Own w' e size v n xs := h.move (s.same h.in hd)
/-- what is owned shows its form -/
theorem Own.form {w : World} {e size : Nat} {v : Value} {n : Nat} {xs : List Value} (h : Own w e size v n xs) : ∃ a c, v = .slice a n c ∧ n ≤ c ∧ c ≤ maxLen ∧ (∀ k, fpV v k ↔ fpA a k) ∧ (a = none → n = 0 ∧ c = 0) := by
  rcases h.2 with ⟨rfl, rfl⟩ | ⟨g, cap, cur, rfl, _, _, hc, hm, _⟩
  · exact ⟨none, 0, rfl, Nat.le_refl _, by unfold maxLen; omega, fun k => by simp [fpV, fpA, Value.ownBlock], fun _ => ⟨rfl, rfl⟩⟩
  · exact ⟨_, cap, rfl, hc, hm, fun k => by simp [fpV, fpA, Value.ownBlock], fun h => by cases h⟩
/-- what is owned can be read -/
theorem Own.rd {w : World} {e size : Nat} {a : Option Addr} {c n : Nat} {xs : List Value} (h : Own w e size (.slice a n c) n xs) : Rd w a xs := by
  intro i v hv
  rcases h.2 with ⟨h', rfl⟩ | ⟨g, cap, cur, h', _⟩
  · have : xs = [] := List.eq_nil_of_length_eq_zero (by have := h.1; simpa using this)
    subst this; simp at hv
  · have ha : a = some ⟨g, 0, none⟩ := by injection h'
    subst ha
    exact ⟨_, rfl, World.ownsRow.cells h (g := g) rfl i v hv⟩

/-- what is appended: cells that can be read, whatever the address where there is none -/
structure Src (w : World) (a : Option Addr) (m size : Nat) (news : List Value) : Prop where
  len : news.length = m * size
  rd : Rd w a news
  one : ∀ u ∈ news, u.oneCell' = true
theorem Src.move {w w' : World} {a : Option Addr} {m size : Nat} {vs : List Value} (h : Src w a m size vs) (e : ∀ k, fpA a k → w'.heap[k]? = w.heap[k]?) : Src w' a m size vs := ⟨h.len, h.rd.move e, h.one⟩

theorem Rd.at_some {w : World} {x : Addr} {vs : List Value} (h : Rd w (some x) vs) : ∀ j u, vs[j]? = some u → w.cell? (x.add j) = some u := by
  intro j u hu
  obtain ⟨y, e, hy⟩ := h j u hu
  cases e
  exact hy

/-- append onto a slice of the program's own -/
theorem append_run {P : Program} (w : World) (t ty e : TypeId) (i : TypeInfo) (z : Value) (size bytes : Nat) (ht : P.underlying t = some (.slice e)) (hi : P.info? e = some i) (hz : i.zero = some z)
    (hsize : i.size = size) (hby : i.bytes = bytes) (hzs : z.cells.size = size) (hsz : 0 < size)
    (v : Value) (n : Nat) (xs : List Value) (hown : Own w e size v n xs)
    (a : Option Addr) (m c : Nat) (news : List Value) (hs : Src w a m size news) (hmc : a = none → c = 0)
    (h63 : n + m ≤ maxLen) (hbytes : (n + m) * bytes ≤ 140737488355328) :
    ∃ v' w', (Builtin.append_ #[t, t] ty #[v, .slice a m c]).run P w = .ok v' w' ∧ Own w' e size v' (n + m) (xs ++ news) ∧ St (fpV v) w (fpV v') w' ∧ (v' = .slice none 0 0 ↔ v = .slice none 0 0 ∧ m = 0) := by
  cases a with
  | none =>
    have hn : news = [] := by
      cases news with
      | nil => rfl
      | cons u us => obtain ⟨x, e, _⟩ := hs.rd 0 u rfl; cases e
    subst hn
    have hm : m = 0 := by
      have h0 : m * size = 0 := by simpa using hs.len.symm
      rcases Nat.mul_eq_zero.1 h0 with h | h
      · exact h
      · omega
    subst hm
    have := hmc rfl
    subst this
    refine ⟨v, w, ?_, by simpa using hown, St.refl _ _, by simp⟩
    exact run_append_owned_none w 0 t ty e i size ht hi v n xs hown
  | some ad =>
    obtain ⟨v', w', hr, ho, hg, hnil⟩ := run_append_own w 0 t ty e i z size bytes ht hi hz hsize hby hzs hsz v n xs hown ad m c news hs.len hs.rd.at_some hs.one h63 hbytes (Nat.zero_le _)
    refine ⟨v', w', hr, ho, ⟨hg.os, hg.tape, hg.output, hg.size, fun k hk hn => hg.block k hk (fun e => hn e.symm), ?_⟩, hnil⟩
    intro k hk
    by_cases hlt : w.heap.size ≤ k
    · exact .inr hlt
    left
    -- the new row is an old block: then there was room
    rcases hown.2 with ⟨rfl, rfl⟩ | ⟨g, cap, cur, rfl, hbg, hgg, hnc, hcm, hcs, htake⟩
    · exfalso
      obtain ⟨v2, w2, hr2, ho2, _⟩ := run_append_own w w.heap.size t ty e i z size bytes ht hi hz hsize hby hzs hsz (.slice none 0 0) 0 xs ⟨hown.1, .inl ⟨rfl, rfl⟩⟩ ad m c news hs.len hs.rd.at_some hs.one h63 hbytes (Nat.le_refl _)
      rw [hr] at hr2
      injection hr2 with e1 e2
      subst e1
      have := (World.ownsRow.lt ho2 k hk).1
      omega
    · by_cases hroom : n + m ≤ cap
      · obtain ⟨w2, hr2, _⟩ := run_append_fits w 0 t ty e i size ht hi hsize g n cap xs hown ad m c news hs.len hs.rd.at_some hs.one hroom
        rw [hr] at hr2
        injection hr2 with e1 e2
        subst e1
        simpa [fpV, Value.ownBlock] using hk
      · exfalso
        have holds : ∀ j u, xs[j]? = some u → w.cell? ((⟨g, 0, none⟩ : Addr).add j) = some u := World.ownsRow.cells hown (g := g) rfl
        have hsmall : n + m ≤ 9223372036854775807 := by simp only [maxLen] at h63; omega
        subst hsize
        subst hby
        have hr2 := run_append_grow (P := P) w t ty e i z ht hi hz ⟨g, 0, none⟩ n cap xs hown.1 holds ad m c news hs.len hs.rd.at_some (by omega) (by omega) (growslice_fits (by omega) hbytes)
        rw [hr] at hr2
        injection hr2 with e1 e2
        subst e1
        simp [fpV, Value.ownBlock] at hk
        omega

/-- the same as an operation of a list -/
theorem wpList_app {P : Program} {w : World} {ops : Array Oper} {rest : List Oper} {o : Oper} {ac : Act} {Q : Exit → Act → World → Prop} (hgd : o.guard = none) (s x : Operand) (t : TypeId)
    (ho : o.op = .call { callee := .builtin .append, args := #[s, x], argTypes := #[t, t] })
    (e : TypeId) (i : TypeInfo) (z : Value) (size bytes : Nat) (ht : P.underlying t = some (.slice e)) (hi : P.info? e = some i) (hz : i.zero = some z)
    (hsize : i.size = size) (hby : i.bytes = bytes) (hzs : z.cells.size = size) (hsz : 0 < size)
    (v : Value) (n : Nat) (xs : List Value) (hs : ac.eval s = v) (hown : Own w e size v n xs)
    (a : Option Addr) (m c : Nat) (news : List Value) (hx : ac.eval x = .slice a m c) (hsrc : Src w a m size news) (hmc : a = none → c = 0)
    (h63 : n + m ≤ maxLen) (hbytes : (n + m) * bytes ≤ 140737488355328)
    (h : ∀ v' w', Own w' e size v' (n + m) (xs ++ news) → St (fpV v) w (fpV v') w' → (v' = .slice none 0 0 ↔ v = .slice none 0 0 ∧ m = 0) → wpList P ops Q rest (ac.put o.dst v') w') : wpList P ops Q (o :: rest) ac w :=
  wpList_plain hgd fun _ hK => by
    obtain ⟨v', w', hr, h2, h3, h4⟩ := append_run (P := P) w t o.type e i z size bytes ht hi hz hsize hby hzs hsz v n xs hown a m c news hsrc hmc h63 hbytes
    unfold Oper.wp execOp
    simp only [ho, resolve, invoke, builtin, Sem.run_bind, Sem.run_pure, Result.andThen_ok, List.map_toArray, List.map_cons, List.map_nil, hs, hx, hr]
    exact hK _ _ (h v' w' h2 h3 h4)

end Go.Proofs.Ytjepmckofocdnaa
namespace Go.Proofs.Ytjepmckofocdnaa
open Go.RowKit
set_option linter.unusedVariables false

theorem bits_xor_u32 (a b : BitVec 32) : bits .xor .u32 (a.toNat : Int) (b.toNat : Int) = ((a ^^^ b).toNat : Int) := by
  simp only [bits, IntKind.bits, BitVec.ofInt_natCast, BitVec.ofNat_toNat, BitVec.setWidth_eq]
  rw [IntKind.wrap_u32]
  exact Int.emod_eq_of_lt (Int.natCast_nonneg _) (Int.ofNat_lt.mpr (a ^^^ b).isLt)
theorem bits_and_u32 (a b : BitVec 32) : bits .and .u32 (a.toNat : Int) (b.toNat : Int) = ((a &&& b).toNat : Int) := by
  simp only [bits, IntKind.bits, BitVec.ofInt_natCast, BitVec.ofNat_toNat, BitVec.setWidth_eq]
  rw [IntKind.wrap_u32]
  exact Int.emod_eq_of_lt (Int.natCast_nonneg _) (Int.ofNat_lt.mpr (a &&& b).isLt)
theorem bits_xor_u8 (a b : BitVec 8) : bits .xor .u8 (a.toNat : Int) (b.toNat : Int) = ((a ^^^ b).toNat : Int) := by
  simp only [bits, IntKind.bits, BitVec.ofInt_natCast, BitVec.ofNat_toNat, BitVec.setWidth_eq]
  rw [IntKind.wrap_u8]
  exact Int.emod_eq_of_lt (Int.natCast_nonneg _) (Int.ofNat_lt.mpr (a ^^^ b).isLt)

theorem bits_not_u32 (r : BitVec 32) : bits .xor .u32 IntKind.u32.max (r.toNat : Int) = ((~~~ r).toNat : Int) := by
  have h : IntKind.u32.max = ((BitVec.allOnes 32).toNat : Int) := by decide
  rw [h, bits_xor_u32]
  rw [BitVec.xor_comm, BitVec.xor_allOnes]
theorem mask_bit (mask : BitVec 32) (k : Nat) : bits .and .u32 ((mask.toNat : Int) / 2 ^ k) 1 = 1 ↔ mask.getLsbD k = true := by
  have e4 : (((mask >>> k).toNat : Nat) : Int) = (mask.toNat : Int) / 2 ^ k := by
    rw [BitVec.toNat_ushiftRight, Nat.shiftRight_eq_div_pow]; simp
  have e := bits_and_u32 (mask >>> k) 1#32
  have h1 : ((1#32).toNat : Int) = 1 := by decide
  rw [h1, e4] at e
  rw [e]
  constructor
  · intro h
    have h4 : ((mask >>> k) &&& 1#32) = 1#32 := by
      apply BitVec.eq_of_toNat_eq
      have h3 : ((((mask >>> k) &&& 1#32).toNat : Nat) : Int) = ((1 : Nat) : Int) := h
      rw [Int.ofNat.inj h3]; rfl
    have := congrArg (fun x => x.getLsbD 0) h4
    simpa using this
  · intro h
    have h2 : ((mask >>> k) &&& 1#32) = 1#32 := by
      apply BitVec.eq_of_getLsbD_eq
      intro i hi
      rw [BitVec.getLsbD_and]
      by_cases h0 : i = 0
      · subst h0; simp [h]
      · have : (1#32).getLsbD i = false := by
          rw [BitVec.getLsbD_one]; simp [h0]
        simp [this]
    rw [h2]; rfl

theorem xor_shl_u8 (y : BitVec 8) (m : Nat) (hm : m < 8) : bits .xor .u8 (y.toNat : Int) (2 ^ m % 256) = ((y ^^^ (1#8 <<< m)).toNat : Int) := by
  rw [← bits_xor_u8]
  congr 1
  have : m = 0 ∨ m = 1 ∨ m = 2 ∨ m = 3 ∨ m = 4 ∨ m = 5 ∨ m = 6 ∨ m = 7 := by omega
  rcases this with rfl | rfl | rfl | rfl | rfl | rfl | rfl | rfl <;> decide
theorem int_eq_bv {n : Nat} (a b : BitVec n) : (((a.toNat : Nat) : Int) == ((b.toNat : Nat) : Int)) = decide (a = b) := by
  by_cases h : a = b
  · subst h; simp
  · have : (a.toNat : Int) ≠ (b.toNat : Int) := fun e => h (BitVec.eq_of_toNat_eq (by exact_mod_cast e))
    simp [h, this]
theorem wrap_u64 (n : Int) : IntKind.u64.wrap n = n % 18446744073709551616 := by simp [IntKind.wrap, IntKind.bits, IntKind.signed]
theorem bits_xor_u64 (a b : BitVec 64) : bits .xor .u64 (a.toNat : Int) (b.toNat : Int) = ((a ^^^ b).toNat : Int) := by
  simp only [bits, IntKind.bits, BitVec.ofInt_natCast, BitVec.ofNat_toNat, BitVec.setWidth_eq]
  rw [wrap_u64]
  exact Int.emod_eq_of_lt (Int.natCast_nonneg _) (Int.ofNat_lt.mpr (a ^^^ b).isLt)
theorem bits_and_u64 (a b : BitVec 64) : bits .and .u64 (a.toNat : Int) (b.toNat : Int) = ((a &&& b).toNat : Int) := by
  simp only [bits, IntKind.bits, BitVec.ofInt_natCast, BitVec.ofNat_toNat, BitVec.setWidth_eq]
  rw [wrap_u64]
  exact Int.emod_eq_of_lt (Int.natCast_nonneg _) (Int.ofNat_lt.mpr (a &&& b).isLt)
theorem bits_or_u64 (a b : BitVec 64) : bits .or .u64 (a.toNat : Int) (b.toNat : Int) = ((a ||| b).toNat : Int) := by
  simp only [bits, IntKind.bits, BitVec.ofInt_natCast, BitVec.ofNat_toNat, BitVec.setWidth_eq]
  rw [wrap_u64]
  exact Int.emod_eq_of_lt (Int.natCast_nonneg _) (Int.ofNat_lt.mpr (a ||| b).isLt)
/-- the lowest bit -/
theorem and1_u64 (n : Nat) (h : n < 18446744073709551616) : bits .and .u64 (n : Int) 1 = ((n % 2 : Nat) : Int) := by
  have e := bits_and_u64 (BitVec.ofNat 64 n) 1#64
  have h1 : ((1#64).toNat : Int) = 1 := by decide
  rw [h1, BitVec.toNat_ofNat, Nat.mod_eq_of_lt h] at e
  rw [e, BitVec.toNat_and, BitVec.toNat_ofNat, Nat.mod_eq_of_lt h]
  show ((n &&& 1 : Nat) : Int) = _
  rw [Nat.and_one_is_mod]

end Go.Proofs.Ytjepmckofocdnaa
namespace Go.Proofs.Ytjepmckofocdnaa
open Go.RowKit
set_option linter.unusedVariables false

abbrev B8 := BitVec 8
/-- bytes as the program's values -/
def bv (xs : List B8) : List Value := xs.map fun b => .int .u8 (b.toNat : Int)
theorem bv_len (xs : List B8) : (bv xs).length = xs.length := by simp [bv]
theorem bv_append (xs ys : List B8) : bv (xs ++ ys) = bv xs ++ bv ys := by simp [bv]
theorem bv_get (xs : List B8) (i : Nat) (h : i < xs.length) : (bv xs)[i]? = some (.int .u8 ((xs[i]).toNat : Int)) := by simp [bv, h]
theorem bv_one (xs : List B8) : ∀ u ∈ bv xs, u.oneCell' = true := by
  intro u hu
  simp only [bv, List.mem_map] at hu
  obtain ⟨b, _, rfl⟩ := hu
  rfl
theorem bv_take (xs : List B8) (n : Nat) : (bv xs).take n = bv (xs.take n) := by simp [bv, List.map_take]
theorem bv_drop (xs : List B8) (n : Nat) : (bv xs).drop n = bv (xs.drop n) := by simp [bv, List.map_drop]
theorem foldl_take_succ {α β : Type} (f : α → β → α) (z : α) (xs : List β) (k : Nat) (h : k < xs.length) : (xs.take (k + 1)).foldl f z = f ((xs.take k).foldl f z) xs[k] := by
  rw [List.take_succ_eq_append_getElem h, List.foldl_append]; rfl
theorem bv_set (xs : List B8) (k : Nat) (b : B8) : (bv xs).toArray.setIfInBounds k (.int .u8 (b.toNat : Int)) = (bv (xs.set k b)).toArray := by simp [bv, List.map_set]
theorem bv_at (xs : List B8) (k : Nat) (h : k < xs.length) : (bv xs).toArray[k]? = some (.int .u8 ((xs[k]).toNat : Int)) := by simp [bv, h]
theorem bv_size (xs : List B8) (n : Nat) (h : xs.length = n) : (bv xs).toArray.size = n := by rw [List.size_toArray, bv_len, h]
/-- bytes that can be read -/
def Bs (w : World) (a : Option Addr) (xs : List B8) : Prop := Rd w a (bv xs)
theorem Bs.move {w w' : World} {a : Option Addr} {xs : List B8} (h : Bs w a xs) (e : ∀ k, fpA a k → w'.heap[k]? = w.heap[k]?) : Bs w' a xs := Rd.move h e
theorem Bs.st {w w' : World} {a : Option Addr} {xs : List B8} {F F' : Nat → Prop} (h : Bs w a xs) (s : St F w F' w') (hd : Dj F (fpA a)) : Bs w' a xs := Rd.st h s hd
theorem Bs.src {w : World} {a : Option Addr} {xs : List B8} (h : Bs w a xs) : Src w a xs.length 1 (bv xs) := ⟨by simp [bv], h, bv_one xs⟩
/-- the byte at i, as the walk asks for it -/
theorem Bs.at {w : World} {a : Option Addr} {xs : List B8} (h : Bs w a xs) (i : Nat) (hi : i < xs.length) : ∃ x, a = some x ∧ w.cell? (x.add i) = some (.int .u8 ((xs[i]).toNat : Int)) := h i _ (bv_get xs i hi)
theorem Bs.at_some {w : World} {x : Addr} {xs : List B8} (h : Bs w (some x) xs) (i : Nat) (hi : i < xs.length) : w.cell? (x.add i) = some (.int .u8 ((xs[i]).toNat : Int)) := Rd.at_some h i _ (bv_get xs i hi)
theorem Bs.drew {w : World} {a : Option Addr} {xs : List B8} (h : Bs w a xs) : Bs w.drew a xs := Bs.move h (fun _ _ => rfl)
theorem Bs.drewN {w : World} {a : Option Addr} {xs : List B8} (h : Bs w a xs) (n : Nat) : Bs (w.drewN n) a xs := Bs.move h (fun _ _ => rfl)
/-- bytes that the program owns -/
def OwB (w : World) (v : Value) (xs : List B8) : Prop := Own w 5 1 v xs.length (bv xs)
theorem OwB.nil (w : World) : OwB w (.slice none 0 0) [] := Own.nil w _ _
theorem OwB.move {w w' : World} {v : Value} {xs : List B8} (h : OwB w v xs) (hm : ∀ k, fpV v k → w'.heap[k]? = w.heap[k]?) : OwB w' v xs := Own.move h hm
theorem OwB.in {w : World} {v : Value} {xs : List B8} (h : OwB w v xs) : In (fpV v) w := Own.in h
theorem OwB.form {w : World} {v : Value} {xs : List B8} (h : OwB w v xs) : ∃ a c, v = .slice a xs.length c ∧ xs.length ≤ c ∧ c ≤ maxLen ∧ (∀ k, fpV v k ↔ fpA a k) ∧ (a = none → xs.length = 0 ∧ c = 0) := Own.form h
theorem OwB.bs {w : World} {a : Option Addr} {c : Nat} {xs : List B8} (h : OwB w (.slice a xs.length c) xs) : Bs w a xs := Own.rd h
theorem OwB.st {w w' : World} {v : Value} {xs : List B8} {F F' : Nat → Prop} (h : OwB w v xs) (s : St F w F' w') (hd : Dj F (fpV v)) : OwB w' v xs := Own.st h s hd
theorem u8info : (Try.prog.info? 5).map (fun i => (i.zero, i.size, i.bytes)) = some (some (.int .u8 0), 1, 1) := by kernel_rfl


/-- make([]byte, l, n) -/
theorem wpList_makeB {w : World} {ops : Array Oper} {rest : List Oper} {o : Oper} {ac : Act} {Q : Exit → Act → World → Prop} (hgd : o.guard = none) (l c : Operand)
    (ho : o.op = .makeSlice 48 l c) (kl kc : IntKind) (L C : Int) (nl n : Nat) (hl : ac.eval l = .int kl L) (hc : ac.eval c = .int kc C) (hL : L = (nl : Int)) (hC : C = (n : Int)) (hle : nl ≤ n) (hn : n ≤ 281474976710656)
    (h : ∀ w', OwB w' (.slice (some ⟨w.heap.size, 0, none⟩) nl n) (List.replicate nl 0#8) → Ob w' w.heap.size 5 (bv (List.replicate n 0#8)).toArray → St No w (fpV (.slice (some ⟨w.heap.size, 0, none⟩) nl n)) w' →
      wpList Try.prog ops Q rest (ac.put o.dst (.slice (some ⟨w.heap.size, 0, none⟩) nl n)) w') : wpList Try.prog ops Q (o :: rest) ac w := by
  refine wpList_plain hgd fun K hK => ?_
  obtain ⟨i, hi, hz, hs, hb⟩ := info_parts u8info
  subst hL
  subst hC
  have hr := run_make (P := Try.prog) w 48 5 i (.int .u8 0) Try.underlying48 hi hz kl kc nl n (by omega) (by omega) (by rw [hb]; omega) (by omega)
  rw [hs] at hr
  simp only [Int.toNat_natCast, Nat.mul_one] at hr
  have hcs : madeCells (Value.int .u8 0).cells n = (bv (List.replicate n 0#8)).toArray := by
    apply Array.ext'
    rw [show (Value.int .u8 0).cells = #[Value.int .u8 0] from rfl, toList_madeCells_one]
    simp [bv]
  rw [hcs] at hr
  unfold Oper.wp
  simp only [execOp, ho, Sem.run_bind, Sem.run_pure, hl, hc, hr, Result.andThen_ok]
  have hob := Ob.alloc w (bv (List.replicate n 0#8)).toArray 5
  refine hK _ _ (h _ ⟨by simp [bv], .inr ⟨w.heap.size, n, _, by simp, Nat.zero_le _, hob, by simpa using hle, by unfold maxLen; omega, by simp [bv], ?_⟩⟩ hob
    ((St.alloc No w _).drop (fun k hk => .inr (.inr (by simpa [fpV, Value.ownBlock] using hk.symm)))))
  simp only [List.length_replicate, Nat.mul_one]
  rw [bv_take, List.take_replicate, Nat.min_eq_left hle]

/-- append(own, read...) of bytes -/
theorem wpList_appB {w : World} {ops : Array Oper} {rest : List Oper} {o : Oper} {ac : Act} {Q : Exit → Act → World → Prop} (hgd : o.guard = none) (s x : Operand)
    (ho : o.op = .call { callee := .builtin .append, args := #[s, x], argTypes := #[48, 48] })
    (v : Value) (xs : List B8) (hs : ac.eval s = v) (hown : OwB w v xs) (a : Option Addr) (m c : Nat) (ys : List B8) (hx : ac.eval x = .slice a m c) (hm : m = ys.length) (hsrc : Bs w a ys) (hmc : a = none → c = 0)
    (hlen : xs.length + ys.length ≤ 140737488355328)
    (h : ∀ v' w', OwB w' v' (xs ++ ys) → St (fpV v) w (fpV v') w' → (v' = .slice none 0 0 ↔ v = .slice none 0 0 ∧ ys.length = 0) → wpList Try.prog ops Q rest (ac.put o.dst v') w') : wpList Try.prog ops Q (o :: rest) ac w := by
  obtain ⟨i, hi, hz, hsz, hb⟩ := info_parts u8info
  subst hm
  refine wpList_app hgd s x _ ho _ i (.int .u8 0) 1 1 Try.underlying48 hi hz hsz hb rfl (by decide) v xs.length (bv xs) hs hown a ys.length c (bv ys) hx hsrc.src hmc (by unfold maxLen; omega) (by omega) ?_
  intro v' w' h1 h2 h3
  refine h v' w' ?_ h2 h3
  unfold OwB
  rw [bv_append, List.length_append]
  exact h1

/-- the store of a byte into what is owned -/
theorem OwB.set {w : World} {g c n : Nat} {xs : List B8} (h : OwB w (.slice (some ⟨g, 0, none⟩) n c) xs) (hn : n = xs.length) (i : Nat) (b : B8) : OwB (w.setCell ⟨g, i, none⟩ (.int .u8 (b.toNat : Int))) (.slice (some ⟨g, 0, none⟩) n c) (xs.set i b) := by
  subst hn
  have := (World.ownsRow.stored h i (.int .u8 (b.toNat : Int))).1
  unfold OwB Own
  have e : bv (xs.set i b) = (bv xs).set i (.int .u8 (b.toNat : Int)) := by simp [bv, List.map_set]
  rw [e, List.length_set]
  exact this
theorem OwB.cell {w : World} {g c n : Nat} {xs : List B8} (h : OwB w (.slice (some ⟨g, 0, none⟩) n c) xs) (i : Nat) (hi : i < xs.length) : w.cell? ⟨g, i, none⟩ = some (.int .u8 ((xs[i]).toNat : Int)) := by
  obtain ⟨a, c', e, _⟩ := h.form
  injection e with e1 e2 e3
  subst e1; subst e2; subst e3
  obtain ⟨x, hx, hc⟩ := Bs.at (OwB.bs h) i hi
  cases hx
  rw [← hc]
  unfold Addr.add; split <;> simp_all
theorem OwB.free {w : World} {g c n : Nat} {xs : List B8} (h : OwB w (.slice (some ⟨g, 0, none⟩) n c) xs) (i : Nat) : w.frozen? ⟨g, i, none⟩ = false := by
  obtain ⟨a, c', e, _⟩ := h.form
  injection e with e1 e2 e3
  subst e1; subst e2; subst e3
  exact World.ownsRow.frozenAt h i

/-- what is written lies apart from these bytes -/
def Apart (F : Nat → Prop) (a : Option Addr) (bs : List B8) : Prop := bs = [] ∨ Dj F (fpA a)
theorem Bs.stA {w w' : World} {a : Option Addr} {bs : List B8} {F F' : Nat → Prop} (h : Bs w a bs) (s : St F w F' w') (hd : Apart F a bs) : Bs w' a bs := by
  rcases hd with rfl | hd
  · exact Rd.nil _ _
  · exact h.st s hd
end Go.Proofs.Ytjepmckofocdnaa
