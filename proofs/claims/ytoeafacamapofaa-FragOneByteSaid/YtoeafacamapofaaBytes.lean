
/-
  Bytes in memory.
-/
import Derived.Test.YtoeafacamapofaaBits
namespace Go.Proofs.Ytoeafacamapofaa
open Go.RowKit
set_option linter.unusedVariables false

abbrev B8 := BitVec 8
/-- bytes as the program's values -/
def bv (xs : List B8) : List Value := xs.map fun b => .int .u8 (b.toNat : Int)
theorem bv_len (xs : List B8) : (bv xs).length = xs.length := by simp [bv]
theorem bv_append (xs ys : List B8) : bv (xs ++ ys) = bv xs ++ bv ys := by simp [bv]
theorem bv_get (xs : List B8) (i : Nat) (h : i < xs.length) : (bv xs)[i]? = some (.int .u8 ((xs[i]).toNat : Int)) := by simp [bv, h]
theorem bv_one (xs : List B8) : ∀ u ∈ bv xs, u.oneCell' = true := by
  intro u hu
  simp only [bv, List.mem_map] at hu
  obtain ⟨b, _, rfl⟩ := hu
  rfl
theorem bv_take (xs : List B8) (n : Nat) : (bv xs).take n = bv (xs.take n) := by simp [bv, List.map_take]
theorem bv_drop (xs : List B8) (n : Nat) : (bv xs).drop n = bv (xs.drop n) := by simp [bv, List.map_drop]
theorem foldl_take_succ {α β : Type} (f : α → β → α) (z : α) (xs : List β) (k : Nat) (h : k < xs.length) : (xs.take (k + 1)).foldl f z = f ((xs.take k).foldl f z) xs[k] := by
  rw [List.take_succ_eq_append_getElem h, List.foldl_append]; rfl
theorem bv_set (xs : List B8) (k : Nat) (b : B8) : (bv xs).toArray.setIfInBounds k (.int .u8 (b.toNat : Int)) = (bv (xs.set k b)).toArray := by simp [bv, List.map_set]
theorem bv_at (xs : List B8) (k : Nat) (h : k < xs.length) : (bv xs).toArray[k]? = some (.int .u8 ((xs[k]).toNat : Int)) := by simp [bv, h]
theorem bv_size (xs : List B8) (n : Nat) (h : xs.length = n) : (bv xs).toArray.size = n := by rw [List.size_toArray, bv_len, h]
/-- bytes that can be read -/
def Bs (w : World) (a : Option Addr) (xs : List B8) : Prop := Rd w a (bv xs)
theorem Bs.move {w w' : World} {a : Option Addr} {xs : List B8} (h : Bs w a xs) (e : ∀ k, fpA a k → w'.heap[k]? = w.heap[k]?) : Bs w' a xs := Rd.move h e
theorem Bs.st {w w' : World} {a : Option Addr} {xs : List B8} {F F' : Nat → Prop} (h : Bs w a xs) (s : St F w F' w') (hd : Dj F (fpA a)) : Bs w' a xs := Rd.st h s hd
theorem Bs.src {w : World} {a : Option Addr} {xs : List B8} (h : Bs w a xs) : Src w a xs.length 1 (bv xs) := ⟨by simp [bv], h, bv_one xs⟩
/-- the byte at i, as the walk asks for it -/
theorem Bs.at {w : World} {a : Option Addr} {xs : List B8} (h : Bs w a xs) (i : Nat) (hi : i < xs.length) : ∃ x, a = some x ∧ w.cell? (x.add i) = some (.int .u8 ((xs[i]).toNat : Int)) := h i _ (bv_get xs i hi)
theorem Bs.at_some {w : World} {x : Addr} {xs : List B8} (h : Bs w (some x) xs) (i : Nat) (hi : i < xs.length) : w.cell? (x.add i) = some (.int .u8 ((xs[i]).toNat : Int)) := Rd.at_some h i _ (bv_get xs i hi)
theorem Bs.drew {w : World} {a : Option Addr} {xs : List B8} (h : Bs w a xs) : Bs w.drew a xs := Bs.move h (fun _ _ => rfl)
theorem Bs.drewN {w : World} {a : Option Addr} {xs : List B8} (h : Bs w a xs) (n : Nat) : Bs (w.drewN n) a xs := Bs.move h (fun _ _ => rfl)
/-- bytes that the program owns -/
def OwB (w : World) (v : Value) (xs : List B8) : Prop := Own w 5 1 v xs.length (bv xs)
theorem OwB.nil (w : World) : OwB w (.slice none 0 0) [] := Own.nil w _ _
theorem OwB.move {w w' : World} {v : Value} {xs : List B8} (h : OwB w v xs) (hm : ∀ k, fpV v k → w'.heap[k]? = w.heap[k]?) : OwB w' v xs := Own.move h hm
theorem OwB.in {w : World} {v : Value} {xs : List B8} (h : OwB w v xs) : In (fpV v) w := Own.in h
theorem OwB.form {w : World} {v : Value} {xs : List B8} (h : OwB w v xs) : ∃ a c, v = .slice a xs.length c ∧ xs.length ≤ c ∧ c ≤ maxLen ∧ (∀ k, fpV v k ↔ fpA a k) ∧ (a = none → xs.length = 0 ∧ c = 0) := Own.form h
theorem OwB.bs {w : World} {a : Option Addr} {c : Nat} {xs : List B8} (h : OwB w (.slice a xs.length c) xs) : Bs w a xs := Own.rd h
theorem OwB.st {w w' : World} {v : Value} {xs : List B8} {F F' : Nat → Prop} (h : OwB w v xs) (s : St F w F' w') (hd : Dj F (fpV v)) : OwB w' v xs := Own.st h s hd
theorem u8info : (Try.prog.info? 5).map (fun i => (i.zero, i.size, i.bytes)) = some (some (.int .u8 0), 1, 1) := by kernel_rfl


/-- make([]byte, l, n) -/
theorem wpList_makeB {w : World} {ops : Array Oper} {rest : List Oper} {o : Oper} {ac : Act} {Q : Exit → Act → World → Prop} (hgd : o.guard = none) (l c : Operand)
    (ho : o.op = .makeSlice 25 l c) (kl kc : IntKind) (L C : Int) (nl n : Nat) (hl : ac.eval l = .int kl L) (hc : ac.eval c = .int kc C) (hL : L = (nl : Int)) (hC : C = (n : Int)) (hle : nl ≤ n) (hn : n ≤ 281474976710656)
    (h : ∀ w', OwB w' (.slice (some ⟨w.heap.size, 0, none⟩) nl n) (List.replicate nl 0#8) → Ob w' w.heap.size 5 (bv (List.replicate n 0#8)).toArray → St No w (fpV (.slice (some ⟨w.heap.size, 0, none⟩) nl n)) w' →
      wpList Try.prog ops Q rest (ac.put o.dst (.slice (some ⟨w.heap.size, 0, none⟩) nl n)) w') : wpList Try.prog ops Q (o :: rest) ac w := by
  refine wpList_plain hgd fun K hK => ?_
  obtain ⟨i, hi, hz, hs, hb⟩ := info_parts u8info
  subst hL
  subst hC
  have hr := run_make (P := Try.prog) w 25 5 i (.int .u8 0) Try.underlying25 hi hz kl kc nl n (by omega) (by omega) (by rw [hb]; omega) (by omega)
  rw [hs] at hr
  simp only [Int.toNat_natCast, Nat.mul_one] at hr
  have hcs : madeCells (Value.int .u8 0).cells n = (bv (List.replicate n 0#8)).toArray := by
    apply Array.ext'
    rw [show (Value.int .u8 0).cells = #[Value.int .u8 0] from rfl, toList_madeCells_one]
    simp [bv]
  rw [hcs] at hr
  unfold Oper.wp
  simp only [execOp, ho, Sem.run_bind, Sem.run_pure, hl, hc, hr, Result.andThen_ok]
  have hob := Ob.alloc w (bv (List.replicate n 0#8)).toArray 5
  refine hK _ _ (h _ ⟨by simp [bv], .inr ⟨w.heap.size, n, _, by simp, Nat.zero_le _, hob, by simpa using hle, by unfold maxLen; omega, by simp [bv], ?_⟩⟩ hob
    ((St.alloc No w _).drop (fun k hk => .inr (.inr (by simpa [fpV, Value.ownBlock] using hk.symm)))))
  simp only [List.length_replicate, Nat.mul_one]
  rw [bv_take, List.take_replicate, Nat.min_eq_left hle]

/-- append(own, read...) of bytes -/
theorem wpList_appB {w : World} {ops : Array Oper} {rest : List Oper} {o : Oper} {ac : Act} {Q : Exit → Act → World → Prop} (hgd : o.guard = none) (s x : Operand)
    (ho : o.op = .call { callee := .builtin .append, args := #[s, x], argTypes := #[25, 25] })
    (v : Value) (xs : List B8) (hs : ac.eval s = v) (hown : OwB w v xs) (a : Option Addr) (m c : Nat) (ys : List B8) (hx : ac.eval x = .slice a m c) (hm : m = ys.length) (hsrc : Bs w a ys) (hmc : a = none → c = 0)
    (hlen : xs.length + ys.length ≤ 140737488355328)
    (h : ∀ v' w', OwB w' v' (xs ++ ys) → St (fpV v) w (fpV v') w' → (v' = .slice none 0 0 ↔ v = .slice none 0 0 ∧ ys.length = 0) → wpList Try.prog ops Q rest (ac.put o.dst v') w') : wpList Try.prog ops Q (o :: rest) ac w := by
  obtain ⟨i, hi, hz, hsz, hb⟩ := info_parts u8info
  subst hm
  refine wpList_app hgd s x _ ho _ i (.int .u8 0) 1 1 Try.underlying25 hi hz hsz hb rfl (by decide) v xs.length (bv xs) hs hown a ys.length c (bv ys) hx hsrc.src hmc (by unfold maxLen; omega) (by omega) ?_
  intro v' w' h1 h2 h3
  refine h v' w' ?_ h2 h3
  unfold OwB
  rw [bv_append, List.length_append]
  exact h1

/-- the store of a byte into what is owned -/
theorem OwB.set {w : World} {g c n : Nat} {xs : List B8} (h : OwB w (.slice (some ⟨g, 0, none⟩) n c) xs) (hn : n = xs.length) (i : Nat) (b : B8) : OwB (w.setCell ⟨g, i, none⟩ (.int .u8 (b.toNat : Int))) (.slice (some ⟨g, 0, none⟩) n c) (xs.set i b) := by
  subst hn
  have := (World.ownsRow.stored h i (.int .u8 (b.toNat : Int))).1
  unfold OwB Own
  have e : bv (xs.set i b) = (bv xs).set i (.int .u8 (b.toNat : Int)) := by simp [bv, List.map_set]
  rw [e, List.length_set]
  exact this
theorem OwB.cell {w : World} {g c n : Nat} {xs : List B8} (h : OwB w (.slice (some ⟨g, 0, none⟩) n c) xs) (i : Nat) (hi : i < xs.length) : w.cell? ⟨g, i, none⟩ = some (.int .u8 ((xs[i]).toNat : Int)) := by
  obtain ⟨a, c', e, _⟩ := h.form
  injection e with e1 e2 e3
  subst e1; subst e2; subst e3
  obtain ⟨x, hx, hc⟩ := Bs.at (OwB.bs h) i hi
  cases hx
  rw [← hc]
  unfold Addr.add; split <;> simp_all
theorem OwB.free {w : World} {g c n : Nat} {xs : List B8} (h : OwB w (.slice (some ⟨g, 0, none⟩) n c) xs) (i : Nat) : w.frozen? ⟨g, i, none⟩ = false := by
  obtain ⟨a, c', e, _⟩ := h.form
  injection e with e1 e2 e3
  subst e1; subst e2; subst e3
  exact World.ownsRow.frozenAt h i

/-- what is written lies apart from these bytes -/
def Apart (F : Nat → Prop) (a : Option Addr) (bs : List B8) : Prop := bs = [] ∨ Dj F (fpA a)
theorem Bs.stA {w w' : World} {a : Option Addr} {bs : List B8} {F F' : Nat → Prop} (h : Bs w a bs) (s : St F w F' w') (hd : Apart F a bs) : Bs w' a bs := by
  rcases hd with rfl | hd
  · exact Rd.nil _ _
  · exact h.st s hd
end Go.Proofs.Ytoeafacamapofaa
