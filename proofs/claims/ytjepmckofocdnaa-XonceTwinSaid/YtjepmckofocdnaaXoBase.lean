
/-
  The ends in memory: a peer, its queue, its early frames; copies.
-/
import Derived.Test.YtjepmckofocdnaaBytes
import Derived.Test.YtjepmckofocdnaaStRows2
namespace Go.Proofs.Ytjepmckofocdnaa
open Go.RowKit
set_option linter.unusedVariables false
set_option linter.unusedSimpArgs false

theorem OwB.xempty (w : World) : OwB (w.alloc (.cells #[] 5)) (.slice (some ⟨w.heap.size, 0, none⟩) 0 0) [] := by
  have h := Ob.alloc w #[] 5
  exact ⟨rfl, .inr ⟨w.heap.size, 0, #[], rfl, Nat.zero_le _, h, by simp, by unfold maxLen; omega, by simp, by simp [bv]⟩⟩
theorem St.xgrow {w w2 : World} {o : Obj} {n c : Nat} {G : Nat → Prop} (h : St (fpV (.slice (some ⟨w.heap.size, 0, none⟩) n c)) (w.alloc o) G w2) : St No w G w2 := by
  have hs := h.size
  rw [World.size_alloc] at hs
  refine ⟨h.os, h.tape, h.output, by omega, fun k hk _ => ?_, fun k hk => ?_⟩
  · rw [h.block k (by rw [World.size_alloc]; omega) (fun hf => by simp [fpV, Value.ownBlock] at hf; omega)]
    exact Below.heap_alloc w o k hk
  · rcases h.new k hk with hf | hf
    · simp [fpV, Value.ownBlock] at hf; exact .inr (by omega)
    · rw [World.size_alloc] at hf; exact .inr (by omega)
theorem St.new1x (w : World) (o : Obj) : St No w (Nw w) (w.alloc o) := (St.alloc' No w o).toNew
theorem St.newF' {w w' : World} {F G : Nat → Prop} (h : St No w G w') (hF : ∀ k, F k → w.heap.size ≤ k) : St No w F w' := ⟨h.os, h.tape, h.output, h.size, h.block, fun k hk => .inr (hF k hk)⟩
theorem St.news {w w' : World} {G : Nat → Prop} (h : St No w G w') : ∀ k, G k → w.heap.size ≤ k := fun k hk => (h.new k hk).elim (fun h => h.elim) (fun h => h)
theorem St.cellN {w w' : World} {G : Nat → Prop} {x : Addr} {v : Value} (s : St No w G w') (h : w.cell? x = some v) : w'.cell? x = some v := by
  rw [World.cell?_of_block (w := w) (s.block _ (World.block_lt_of_cell? w _ h) (fun h => h))]
  exact h
theorem Bs.xnil {w : World} {xs : List B8} (h : Bs w none xs) : xs = [] := by
  cases xs with
  | nil => rfl
  | cons b l =>
    obtain ⟨x, hx, _⟩ := h 0 _ (by simp [bv]; rfl)
    cases hx
/-- bytes of its own handed back -/
def BJ (w : World) (bs : List B8) (e : Ending) (w' : World) : Prop := ∃ v, e = .returned v ∧ OwB w' v bs ∧ St No w (fpV v) w'
set_option maxRecDepth 100000 in
theorem xclone_calls (a : Option Addr) (c : Nat) (bs : List B8) (hn : bs.length ≤ 140737488351232) (hac : a = none → c = 0) (w : World) (hb : Bs w a bs) :
    Calls Try.prog 77 #[.slice a bs.length c] w (BJ w bs) := by
  cases a with
  | none =>
    obtain rfl := hb.xnil
    obtain rfl := hac rfl
    clear hac
    have he := fun W => Lib.run_eql_slice_nil (P := Try.prog) W 48 5 none 0 0 0 0 Try.underlying48
    go_enter Try.func77, Try.ntmps77
    go_wp2
    go_ret
    exact ⟨_, rfl, OwB.nil _, St.refl _ _ |>.drop (fun k hk => by simp [fpV, Value.ownBlock] at hk)⟩
  | some x =>
    have HB := Lib.hid hb
    clear hb hac
    have he := fun W => Lib.run_eql_slice_nil (P := Try.prog) W 48 5 (some x) bs.length c 0 0 Try.underlying48
    go_enter Try.func77, Try.ntmps77
    go_wp2_with (at_builtin; refine wpList_appB rfl (.tmp 5) (.tmp 6) rfl _ [] rfl (OwB.xempty w) (some x) bs.length c bs rfl rfl (HB.out.st (St.alloc' No w _) (Dj.no _)) (fun h => by cases h) (by simp; omega) ?_; intro v2 w2 ho2 hs2 hn2; have HO2 := Lib.hid ho2; have HS2 := Lib.hid hs2; clear ho2 hs2 hn2)
    go_ret
    refine ⟨v2, rfl, HO2.out, ?_⟩
    exact St.xgrow HS2.out
-- a row stored cell by cell
theorem St.xsets {F : Nat → Prop} (g : Nat) (h : F g) : ∀ (vs : List Value) (o : Nat) (w : World), St F w F (w.setCells g o vs)
  | [], o, w => St.refl F w
  | v :: vs, o, w => (St.setCell w ⟨g, o, none⟩ v h).trans (St.xsets g h vs (o + 1) _)
theorem Ob.xsets {p : Nat} {T : TypeId} : ∀ (vs : List Value) (pre : List Value) (cs : List Value) (w : World), Ob w p T (pre ++ cs).toArray → vs.length = cs.length → Ob (w.setCells p pre.length vs) p T (pre ++ vs).toArray
  | [], pre, cs, w, h, hl => by
    obtain rfl : cs = [] := by cases cs with | nil => rfl | cons _ _ => simp at hl
    exact h
  | v :: vs, pre, c :: cs, w, h, hl => by
    have h1 := h.set pre.length v
    have e : ((pre ++ c :: cs).toArray.setIfInBounds pre.length v) = ((pre ++ [v]) ++ cs).toArray := by
      rw [List.setIfInBounds_toArray]
      simp
    rw [e] at h1
    have h2 := Ob.xsets vs (pre ++ [v]) cs (w.setCell ⟨p, pre.length, none⟩ v) h1 (by simpa using hl)
    rw [List.length_append] at h2
    have e2 : (pre ++ [v]) ++ vs = pre ++ v :: vs := by simp
    rw [e2] at h2
    exact h2
  | _ :: _, _, [], _, _, hl => by simp at hl
theorem Ob.row {w : World} {p : Nat} {T : TypeId} {cs : Array Value} (h : Ob w p T cs) (vs : List Value) (hl : vs.length = cs.size) : Ob (w.setCells p 0 vs) p T vs.toArray :=
  Ob.xsets vs [] cs.toList w h (by simpa using hl)
-- lists of regions
def Un (Rs : List (Nat → Prop)) : Nat → Prop := fun k => ∃ R ∈ Rs, R k
def Sep (Rs : List (Nat → Prop)) : Prop := Rs.Pairwise Dj
/-- rows of s cells, each with bytes of its own -/
structure LsG {α : Type} (cells : α → List Value) (val : α → Value) (byt : α → List B8) (s : Nat) (T : TypeId) (w : World) (V : Value) (xs : List α) : Prop where
  own : Own w T s V xs.length (xs.flatMap cells)
  el : ∀ x ∈ xs, OwB w (val x) (byt x)
  sep : Sep (fpV V :: xs.map fun x => fpV (val x))
def fpL {α : Type} (val : α → Value) (V : Value) (xs : List α) : Nat → Prop := Un (fpV V :: xs.map fun x => fpV (val x))
theorem fpL_iff {α : Type} {val : α → Value} {V : Value} {xs : List α} {k : Nat} : fpL val V xs k ↔ fpV V k ∨ ∃ x ∈ xs, fpV (val x) k := by
  unfold fpL Un
  constructor
  · rintro ⟨R, hR, hk⟩
    rcases List.mem_cons.1 hR with rfl | hR
    · exact .inl hk
    · obtain ⟨x, hx, rfl⟩ := List.mem_map.1 hR
      exact .inr ⟨x, hx, hk⟩
  · rintro (h | ⟨x, hx, h⟩)
    · exact ⟨_, List.mem_cons_self .., h⟩
    · exact ⟨_, List.mem_cons_of_mem _ (List.mem_map.2 ⟨x, hx, rfl⟩), h⟩
theorem fpL_nil {α : Type} {val : α → Value} {k : Nat} : ¬ fpL val (.slice none 0 0) [] k := by
  rw [fpL_iff]; simp [fpV, Value.ownBlock]
section
variable {α : Type} {cells : α → List Value} {val : α → Value} {byt : α → List B8} {s : Nat} {T : TypeId}
theorem LsG.nil (w : World) : LsG cells val byt s T w (.slice none 0 0) [] := ⟨Own.nil _ _ _, fun x h => by simp at h, by simp [Sep]⟩
theorem LsG.in {w : World} {V : Value} {xs : List α} (h : LsG cells val byt s T w V xs) : In (fpL val V xs) w := by
  intro k hk
  rcases fpL_iff.1 hk with hk | ⟨x, hx, hk⟩
  · exact h.own.in k hk
  · exact (h.el x hx).in k hk
theorem LsG.st {w w' : World} {V : Value} {xs : List α} {G G' : Nat → Prop} (h : LsG cells val byt s T w V xs) (t : St G w G' w') (hd : Dj G (fpL val V xs)) : LsG cells val byt s T w' V xs :=
  ⟨h.own.st t (fun k a b => hd k a (fpL_iff.2 (.inl b))), fun x hx => (h.el x hx).st t (fun k a b => hd k a (fpL_iff.2 (.inr ⟨x, hx, b⟩))), h.sep⟩
theorem LsG.hp {w w' : World} {V : Value} {xs : List α} (h : LsG cells val byt s T w V xs) (e : w'.heap = w.heap) : LsG cells val byt s T w' V xs :=
  ⟨h.own.move (fun k _ => by rw [e]), fun x hx => (h.el x hx).move (fun k _ => by rw [e]), h.sep⟩
/-- the list behind one more row -/
theorem LsG.app {w w' : World} {V V' : Value} {xs : List α} {x : α} (h : LsG cells val byt s T w V xs) (hx : OwB w (val x) (byt x)) (hd : Dj (fpV (val x)) (fpL val V xs))
    (ho : Own w' T s V' (xs.length + 1) (xs.flatMap cells ++ cells x)) (hs : St (fpV V) w (fpV V') w') : LsG cells val byt s T w' V' (xs ++ [x]) := by
  have hp := List.pairwise_cons.1 h.sep
  have hV : ∀ u : Value, In (fpV u) w → Dj (fpV V) (fpV u) → Dj (fpV V') (fpV u) := fun u hi hj k a b => (hs.new k a).elim (fun e => hj k e b) (fun hl => absurd (hi k b) (Nat.not_lt.2 hl))
  refine ⟨?_, ?_, ?_⟩
  · rw [List.length_append, List.flatMap_append]
    simpa using ho
  · intro y hy
    rcases List.mem_append.1 hy with hy | hy
    · exact (h.el y hy).st hs (hp.1 _ (List.mem_map.2 ⟨y, hy, rfl⟩))
    · rw [List.mem_singleton.1 hy]
      exact hx.st hs (fun k a b => hd k b (fpL_iff.2 (.inl a)))
  · refine List.pairwise_cons.2 ⟨?_, ?_⟩
    · intro R hR
      obtain ⟨y, hy, rfl⟩ := List.mem_map.1 hR
      rcases List.mem_append.1 hy with hy | hy
      · exact hV _ (h.el y hy).in (hp.1 _ (List.mem_map.2 ⟨y, hy, rfl⟩))
      · rw [List.mem_singleton.1 hy]
        exact hV _ hx.in (fun k a b => hd k b (fpL_iff.2 (.inl a)))
    · rw [List.map_append]
      refine List.pairwise_append.2 ⟨hp.2, by simp, ?_⟩
      intro R hR R' hR'
      obtain ⟨y, hy, rfl⟩ := List.mem_map.1 hR
      simp only [List.map_cons, List.map_nil, List.mem_singleton] at hR'
      subst hR'
      exact fun k a b => hd k b (fpL_iff.2 (.inr ⟨y, hy, a⟩))
theorem fpL_app {w wa wb w3 : World} {V V' : Value} {x : α} {xs : List α} {G1 : Nat → Prop} (h1 : St No w G1 wa) (h2 : St No wa (fpV (val x)) wb) (h3 : St (fpV V) wb (fpV V') w3) : St (fpL val V xs) w (fpL val V' (xs ++ [x])) w3 :=
  ⟨h3.os.trans (h2.os.trans h1.os), h3.tape.trans (h2.tape.trans h1.tape), h3.output.trans (h2.output.trans h1.output), Nat.le_trans h1.size (Nat.le_trans h2.size h3.size),
   fun k hk hn => (h3.block k (Nat.lt_of_lt_of_le hk (Nat.le_trans h1.size h2.size)) (fun h => hn (fpL_iff.2 (.inl h)))).trans ((h2.block k (Nat.lt_of_lt_of_le hk h1.size) (fun h => h)).trans (h1.block k hk (fun h => h))),
   fun k hk => by
    rcases fpL_iff.1 hk with hk | ⟨u, hu, hk⟩
    · rcases h3.new k hk with h | h
      · exact .inl (fpL_iff.2 (.inl h))
      · exact .inr (Nat.le_trans (Nat.le_trans h1.size h2.size) h)
    · rcases List.mem_append.1 hu with hu | hu
      · exact .inl (fpL_iff.2 (.inr ⟨u, hu, hk⟩))
      · rw [List.mem_singleton.1 hu] at hk
        exact (h2.new k hk).elim (fun h => h.elim) (fun h => .inr (Nat.le_trans h1.size h))⟩
theorem info_z {P : Program} {T : TypeId} {s : Nat} (h : (P.info? T).map (fun i => (i.zero.map (fun z => z.cells.size), i.size, decide (i.bytes ≤ 1000))) = some (some s, s, true)) :
    ∃ i z, P.info? T = some i ∧ i.zero = some z ∧ z.cells.size = s ∧ i.size = s ∧ i.bytes ≤ 1000 := by
  cases hi : P.info? T with
  | none => rw [hi] at h; cases h
  | some i =>
    rw [hi] at h
    simp only [Option.map_some, Option.some.injEq, Prod.mk.injEq] at h
    cases hz : i.zero with
    | none => rw [hz] at h; cases h.1
    | some z =>
      rw [hz] at h
      exact ⟨i, z, rfl, hz, by simpa using h.1, h.2.1, of_decide_eq_true h.2.2⟩
/-- append of one row -/
theorem wpList_appL {P : Program} {w : World} {ops : Array Oper} {rest : List Oper} {o : Oper} {ac : Act} {Q : Exit → Act → World → Prop} (t : TypeId)
    (hinf : (P.info? T).map (fun i => (i.zero.map (fun z => z.cells.size), i.size, decide (i.bytes ≤ 1000))) = some (some s, s, true)) (ht : P.underlying t = some (.slice T)) (hs0 : 0 < s)
    (hgd : o.guard = none) (a b : Operand)
    (ho : o.op = .call { callee := .builtin .append, args := #[a, b], argTypes := #[t, t] })
    (V : Value) (xs : List α) (hs : ac.eval a = V) (hown : LsG cells val byt s T w V xs) (x : α) (g : Nat) (hx : ac.eval b = .slice (some ⟨g, 0, none⟩) 1 1)
    (hg : Ob w g T (cells x).toArray) (hlc : (cells x).length = s) (hone : ∀ u ∈ cells x, u.oneCell' = true) (hv : OwB w (val x) (byt x)) (hd : Dj (fpV (val x)) (fpL val V xs))
    (hlen : xs.length ≤ 4294967296)
    (h : ∀ V' w', LsG cells val byt s T w' V' (xs ++ [x]) → St (fpV V) w (fpV V') w' → wpList P ops Q rest (ac.put o.dst V') w') : wpList P ops Q (o :: rest) ac w := by
  obtain ⟨i, z, hi, hz, hzs, hsz, hby⟩ := info_z hinf
  refine wpList_app hgd a b t ho T i z s i.bytes ht hi hz hsz rfl hzs hs0 V xs.length _ hs hown.own (some ⟨g, 0, none⟩) 1 1 (cells x) hx ?_ (fun h => by cases h) (by unfold maxLen; omega) ?_ ?_
  · exact ⟨by omega, by simpa using hg.rd, hone⟩
  · exact Nat.le_trans (Nat.mul_le_mul (show xs.length + 1 ≤ 4294967297 by omega) hby) (by omega)
  · intro V' w' h1 h2 h3
    exact h V' w' (hown.app hv hd h1 h2) h2
/-- the same as a step of a region that draws -/
theorem step_appL {P : Program} {ops : Array Oper} {o : Oper} {ac : Act} {w : World} {K : Act → World → Prop} {Q : Exit → Act → World → Prop} {E : Prop} (t : TypeId)
    (hinf : (P.info? T).map (fun i => (i.zero.map (fun z => z.cells.size), i.size, decide (i.bytes ≤ 1000))) = some (some s, s, true)) (ht : P.underlying t = some (.slice T)) (hs0 : 0 < s)
    (hgd : o.guard = none) (a b : Operand)
    (ho : o.op = .call { callee := .builtin .append, args := #[a, b], argTypes := #[t, t] })
    (V : Value) (xs : List α) (hs : ac.eval a = V) (hown : LsG cells val byt s T w V xs) (x : α) (g : Nat) (hx : ac.eval b = .slice (some ⟨g, 0, none⟩) 1 1)
    (hg : Ob w g T (cells x).toArray) (hlc : (cells x).length = s) (hone : ∀ u ∈ cells x, u.oneCell' = true) (hv : OwB w (val x) (byt x)) (hd : Dj (fpV (val x)) (fpL val V xs))
    (hlen : xs.length ≤ 4294967296)
    (h : ∀ V' w', LsG cells val byt s T w' V' (xs ++ [x]) → St (fpV V) w (fpV V') w' → K (ac.put o.dst V') w') : if Region.wanted o (yielded ops ac.tmps) = true then Oper.wp P o ac w K Q else E := by
  obtain ⟨i, z, hi, hz, hzs, hsz, hby⟩ := info_z hinf
  refine step_app hgd a b t ho T i z s i.bytes ht hi hz hsz rfl hzs hs0 V xs.length _ hs hown.own (some ⟨g, 0, none⟩) 1 1 (cells x) hx ?_ (fun h => by cases h) (by unfold maxLen; omega) ?_ ?_
  · exact ⟨by omega, by simpa using hg.rd, hone⟩
  · exact Nat.le_trans (Nat.mul_le_mul (show xs.length + 1 ≤ 4294967297 by omega) hby) (by omega)
  · intro V' w' h1 h2 h3
    exact h V' w' (hown.app hv hd h1 h2) h2
end
/-- a payload in memory; a frame -/
structure PB where
  v : Value
  b : List B8
structure FB where
  seq : Nat
  v : Value
  b : List B8
def FB.cells (f : FB) : List Value := [.int .u64 (f.seq : Int), f.v]
theorem FB.cells_len (f : FB) : f.cells.length = 2 := rfl
def PB.cells (b : PB) : List Value := [b.v]
/-- a queue; early frames -/
abbrev LsQ := LsG PB.cells PB.v PB.b 1 48
abbrev LsF := LsG FB.cells FB.v FB.b 2 133
theorem infQ : (Try.prog.info? 48).map (fun i => (i.zero.map (fun z => z.cells.size), i.size, decide (i.bytes ≤ 1000))) = some (some 1, 1, true) := by kernel_rfl
theorem infF : (Try.prog.info? 133).map (fun i => (i.zero.map (fun z => z.cells.size), i.size, decide (i.bytes ≤ 1000))) = some (some 2, 2, true) := by kernel_rfl
theorem infO : (Try.prog.info? 62).map (fun i => (i.zero.map (fun z => z.cells.size), i.size, decide (i.bytes ≤ 1000))) = some (some 18, 18, true) := by kernel_rfl
theorem infU : (Try.prog.info? 136).map (fun i => (i.zero.map (fun z => z.cells.size), i.size, decide (i.bytes ≤ 1000))) = some (some 3, 3, true) := by kernel_rfl
theorem qmap : ∀ qs : List PB, qs.flatMap PB.cells = qs.map (·.v)
  | [] => rfl
  | b :: qs => by rw [List.flatMap_cons, qmap qs]; rfl
theorem OwB.one {w : World} {v : Value} {bs : List B8} (h : OwB w v bs) : v.oneCell' = true := by
  obtain ⟨a, c, rfl, _⟩ := h.form; rfl
/-- a peer, plain: what it sent, what was acknowledged, .. -/
structure XP where
  sent : Nat
  acked : Nat
  mask : BitVec 64
  delivered : Nat
  queue : List (List B8)
  early : List (Nat × List B8)
/-- a peer's numbers that stay -/
structure PC where
  adr : Int
  room : Nat
  win : Nat
def fpB0 (b : Nat) : Nat → Prop := fun k => k = b
def fpP (p : Nat) (Vq Ve : Value) (qs : List PB) (es : List FB) : Nat → Prop := fun k => k = p ∨ fpL PB.v Vq qs k ∨ fpL FB.v Ve es k
structure PrM (w : World) (p : Nat) (c : PC) (sent acked : Nat) (mask : BitVec 64) (delivered : Nat) (Vq Ve : Value) (qs : List PB) (es : List FB) : Prop where
  ob : Ob w p 124 #[.int .u8 c.adr, .int .i64 c.room, .int .i64 c.win, .int .u64 sent, .int .u64 acked, Vq, .int .u64 (mask.toNat : Int), .int .u8 c.adr, .int .u64 c.win, .int .u64 delivered, Ve]
  lq : LsQ w Vq qs
  lf : LsF w Ve es
  dq : ¬ fpL PB.v Vq qs p
  df : ¬ fpL FB.v Ve es p
  dd : Dj (fpL PB.v Vq qs) (fpL FB.v Ve es)
/-- a peer in memory, its places told -/
def Pr (w : World) (F : Nat → Prop) (p : Nat) (c : PC) (x : XP) : Prop :=
  ∃ Vq Ve qs es, PrM w p c x.sent x.acked x.mask x.delivered Vq Ve qs es ∧ x.queue = qs.map (·.b) ∧ x.early = es.map (fun f => (f.seq, f.b)) ∧ F = fpP p Vq Ve qs es
theorem PrM.in {w : World} {p : Nat} {c : PC} {sent acked : Nat} {mask : BitVec 64} {delivered : Nat} {Vq Ve : Value} {qs : List PB} {es : List FB} (h : PrM w p c sent acked mask delivered Vq Ve qs es) : In (fpP p Vq Ve qs es) w := by
  rintro k (rfl | hk | hk)
  · exact h.ob.lt
  · exact h.lq.in k hk
  · exact h.lf.in k hk
theorem PrM.st {w w' : World} {p : Nat} {c : PC} {sent acked : Nat} {mask : BitVec 64} {delivered : Nat} {Vq Ve : Value} {qs : List PB} {es : List FB} {G G' : Nat → Prop} (h : PrM w p c sent acked mask delivered Vq Ve qs es) (s : St G w G' w') (hd : Dj G (fpP p Vq Ve qs es)) : PrM w' p c sent acked mask delivered Vq Ve qs es :=
  ⟨h.ob.move (s.block _ h.ob.lt (fun hg => hd p hg (.inl rfl))), h.lq.st s (fun k a b => hd k a (.inr (.inl b))), h.lf.st s (fun k a b => hd k a (.inr (.inr b))), h.dq, h.df, h.dd⟩
/-- the peer's own block written -/
theorem PrM.ob' {w w' : World} {p : Nat} {c c' : PC} {sent acked sent' acked' : Nat} {mask mask' : BitVec 64} {delivered delivered' : Nat} {Vq Ve : Value} {qs : List PB} {es : List FB} {G' : Nat → Prop} (h : PrM w p c sent acked mask delivered Vq Ve qs es) (s : St (fpB0 p) w G' w')
    (ob : Ob w' p 124 #[.int .u8 c.adr, .int .i64 c.room, .int .i64 c.win, .int .u64 sent', .int .u64 acked', Vq, .int .u64 (mask'.toNat : Int), .int .u8 c.adr, .int .u64 c.win, .int .u64 delivered', Ve]) : PrM w' p c sent' acked' mask' delivered' Vq Ve qs es :=
  ⟨ob, h.lq.st s (fun k a b => by cases (show k = p from a); exact h.dq b), h.lf.st s (fun k a b => by cases (show k = p from a); exact h.df b), h.dq, h.df, h.dd⟩
theorem Pr.in {w : World} {F : Nat → Prop} {p : Nat} {c : PC} {x : XP} (h : Pr w F p c x) : In F w := by
  obtain ⟨Vq, Ve, qs, es, h1, _, _, rfl⟩ := h
  exact h1.in
theorem Pr.st {w w' : World} {F G G' : Nat → Prop} {p : Nat} {c : PC} {x : XP} (h : Pr w F p c x) (s : St G w G' w') (hd : Dj G F) : Pr w' F p c x := by
  obtain ⟨Vq, Ve, qs, es, h1, h2, h3, rfl⟩ := h
  exact ⟨Vq, Ve, qs, es, h1.st s hd, h2, h3, rfl⟩
theorem Ob.n3 {w : World} {p : Nat} {T : TypeId} {a0 a1 a2 : Value} (h : Ob w p T #[a0, a1, a2]) : w.cell? ⟨p, 0, none⟩ = some a0 ∧ w.cell? ⟨p, 1, none⟩ = some a1 ∧ w.cell? ⟨p, 2, none⟩ = some a2 ∧ w.frozen? ⟨p, 0, none⟩ = false ∧ w.frozen? ⟨p, 1, none⟩ = false ∧ w.frozen? ⟨p, 2, none⟩ = false :=
  ⟨by rw [h.cell 0]; rfl, by rw [h.cell 1]; rfl, by rw [h.cell 2]; rfl, h.free 0, h.free 1, h.free 2⟩
theorem Ob.n11 {w : World} {p : Nat} {T : TypeId} {a0 a1 a2 a3 a4 a5 a6 a7 a8 a9 a10 : Value} (h : Ob w p T #[a0, a1, a2, a3, a4, a5, a6, a7, a8, a9, a10]) : w.cell? ⟨p, 0, none⟩ = some a0 ∧ w.cell? ⟨p, 1, none⟩ = some a1 ∧ w.cell? ⟨p, 2, none⟩ = some a2 ∧ w.cell? ⟨p, 3, none⟩ = some a3 ∧ w.cell? ⟨p, 4, none⟩ = some a4 ∧ w.cell? ⟨p, 5, none⟩ = some a5 ∧ w.cell? ⟨p, 6, none⟩ = some a6 ∧ w.cell? ⟨p, 7, none⟩ = some a7 ∧ w.cell? ⟨p, 8, none⟩ = some a8 ∧ w.cell? ⟨p, 9, none⟩ = some a9 ∧ w.cell? ⟨p, 10, none⟩ = some a10 ∧ w.frozen? ⟨p, 0, none⟩ = false ∧ w.frozen? ⟨p, 1, none⟩ = false ∧ w.frozen? ⟨p, 2, none⟩ = false ∧ w.frozen? ⟨p, 3, none⟩ = false ∧ w.frozen? ⟨p, 4, none⟩ = false ∧ w.frozen? ⟨p, 5, none⟩ = false ∧ w.frozen? ⟨p, 6, none⟩ = false ∧ w.frozen? ⟨p, 7, none⟩ = false ∧ w.frozen? ⟨p, 8, none⟩ = false ∧ w.frozen? ⟨p, 9, none⟩ = false ∧ w.frozen? ⟨p, 10, none⟩ = false :=
  ⟨by rw [h.cell 0]; rfl, by rw [h.cell 1]; rfl, by rw [h.cell 2]; rfl, by rw [h.cell 3]; rfl, by rw [h.cell 4]; rfl, by rw [h.cell 5]; rfl, by rw [h.cell 6]; rfl, by rw [h.cell 7]; rfl, by rw [h.cell 8]; rfl, by rw [h.cell 9]; rfl, by rw [h.cell 10]; rfl, h.free 0, h.free 1, h.free 2, h.free 3, h.free 4, h.free 5, h.free 6, h.free 7, h.free 8, h.free 9, h.free 10⟩
theorem Ob.n17 {w : World} {p : Nat} {T : TypeId} {a0 a1 a2 a3 a4 a5 a6 a7 a8 a9 a10 a11 a12 a13 a14 a15 a16 : Value} (h : Ob w p T #[a0, a1, a2, a3, a4, a5, a6, a7, a8, a9, a10, a11, a12, a13, a14, a15, a16]) : w.cell? ⟨p, 0, none⟩ = some a0 ∧ w.cell? ⟨p, 1, none⟩ = some a1 ∧ w.cell? ⟨p, 2, none⟩ = some a2 ∧ w.cell? ⟨p, 3, none⟩ = some a3 ∧ w.cell? ⟨p, 4, none⟩ = some a4 ∧ w.cell? ⟨p, 5, none⟩ = some a5 ∧ w.cell? ⟨p, 6, none⟩ = some a6 ∧ w.cell? ⟨p, 7, none⟩ = some a7 ∧ w.cell? ⟨p, 8, none⟩ = some a8 ∧ w.cell? ⟨p, 9, none⟩ = some a9 ∧ w.cell? ⟨p, 10, none⟩ = some a10 ∧ w.cell? ⟨p, 11, none⟩ = some a11 ∧ w.cell? ⟨p, 12, none⟩ = some a12 ∧ w.cell? ⟨p, 13, none⟩ = some a13 ∧ w.cell? ⟨p, 14, none⟩ = some a14 ∧ w.cell? ⟨p, 15, none⟩ = some a15 ∧ w.cell? ⟨p, 16, none⟩ = some a16 ∧ w.frozen? ⟨p, 0, none⟩ = false ∧ w.frozen? ⟨p, 1, none⟩ = false ∧ w.frozen? ⟨p, 2, none⟩ = false ∧ w.frozen? ⟨p, 3, none⟩ = false ∧ w.frozen? ⟨p, 4, none⟩ = false ∧ w.frozen? ⟨p, 5, none⟩ = false ∧ w.frozen? ⟨p, 6, none⟩ = false ∧ w.frozen? ⟨p, 7, none⟩ = false ∧ w.frozen? ⟨p, 8, none⟩ = false ∧ w.frozen? ⟨p, 9, none⟩ = false ∧ w.frozen? ⟨p, 10, none⟩ = false ∧ w.frozen? ⟨p, 11, none⟩ = false ∧ w.frozen? ⟨p, 12, none⟩ = false ∧ w.frozen? ⟨p, 13, none⟩ = false ∧ w.frozen? ⟨p, 14, none⟩ = false ∧ w.frozen? ⟨p, 15, none⟩ = false ∧ w.frozen? ⟨p, 16, none⟩ = false :=
  ⟨by rw [h.cell 0]; rfl, by rw [h.cell 1]; rfl, by rw [h.cell 2]; rfl, by rw [h.cell 3]; rfl, by rw [h.cell 4]; rfl, by rw [h.cell 5]; rfl, by rw [h.cell 6]; rfl, by rw [h.cell 7]; rfl, by rw [h.cell 8]; rfl, by rw [h.cell 9]; rfl, by rw [h.cell 10]; rfl, by rw [h.cell 11]; rfl, by rw [h.cell 12]; rfl, by rw [h.cell 13]; rfl, by rw [h.cell 14]; rfl, by rw [h.cell 15]; rfl, by rw [h.cell 16]; rfl, h.free 0, h.free 1, h.free 2, h.free 3, h.free 4, h.free 5, h.free 6, h.free 7, h.free 8, h.free 9, h.free 10, h.free 11, h.free 12, h.free 13, h.free 14, h.free 15, h.free 16⟩
theorem Ob.n18 {w : World} {p : Nat} {T : TypeId} {a0 a1 a2 a3 a4 a5 a6 a7 a8 a9 a10 a11 a12 a13 a14 a15 a16 a17 : Value} (h : Ob w p T #[a0, a1, a2, a3, a4, a5, a6, a7, a8, a9, a10, a11, a12, a13, a14, a15, a16, a17]) : w.cell? ⟨p, 0, none⟩ = some a0 ∧ w.cell? ⟨p, 1, none⟩ = some a1 ∧ w.cell? ⟨p, 2, none⟩ = some a2 ∧ w.cell? ⟨p, 3, none⟩ = some a3 ∧ w.cell? ⟨p, 4, none⟩ = some a4 ∧ w.cell? ⟨p, 5, none⟩ = some a5 ∧ w.cell? ⟨p, 6, none⟩ = some a6 ∧ w.cell? ⟨p, 7, none⟩ = some a7 ∧ w.cell? ⟨p, 8, none⟩ = some a8 ∧ w.cell? ⟨p, 9, none⟩ = some a9 ∧ w.cell? ⟨p, 10, none⟩ = some a10 ∧ w.cell? ⟨p, 11, none⟩ = some a11 ∧ w.cell? ⟨p, 12, none⟩ = some a12 ∧ w.cell? ⟨p, 13, none⟩ = some a13 ∧ w.cell? ⟨p, 14, none⟩ = some a14 ∧ w.cell? ⟨p, 15, none⟩ = some a15 ∧ w.cell? ⟨p, 16, none⟩ = some a16 ∧ w.cell? ⟨p, 17, none⟩ = some a17 ∧ w.frozen? ⟨p, 0, none⟩ = false ∧ w.frozen? ⟨p, 1, none⟩ = false ∧ w.frozen? ⟨p, 2, none⟩ = false ∧ w.frozen? ⟨p, 3, none⟩ = false ∧ w.frozen? ⟨p, 4, none⟩ = false ∧ w.frozen? ⟨p, 5, none⟩ = false ∧ w.frozen? ⟨p, 6, none⟩ = false ∧ w.frozen? ⟨p, 7, none⟩ = false ∧ w.frozen? ⟨p, 8, none⟩ = false ∧ w.frozen? ⟨p, 9, none⟩ = false ∧ w.frozen? ⟨p, 10, none⟩ = false ∧ w.frozen? ⟨p, 11, none⟩ = false ∧ w.frozen? ⟨p, 12, none⟩ = false ∧ w.frozen? ⟨p, 13, none⟩ = false ∧ w.frozen? ⟨p, 14, none⟩ = false ∧ w.frozen? ⟨p, 15, none⟩ = false ∧ w.frozen? ⟨p, 16, none⟩ = false ∧ w.frozen? ⟨p, 17, none⟩ = false :=
  ⟨by rw [h.cell 0]; rfl, by rw [h.cell 1]; rfl, by rw [h.cell 2]; rfl, by rw [h.cell 3]; rfl, by rw [h.cell 4]; rfl, by rw [h.cell 5]; rfl, by rw [h.cell 6]; rfl, by rw [h.cell 7]; rfl, by rw [h.cell 8]; rfl, by rw [h.cell 9]; rfl, by rw [h.cell 10]; rfl, by rw [h.cell 11]; rfl, by rw [h.cell 12]; rfl, by rw [h.cell 13]; rfl, by rw [h.cell 14]; rfl, by rw [h.cell 15]; rfl, by rw [h.cell 16]; rfl, by rw [h.cell 17]; rfl, h.free 0, h.free 1, h.free 2, h.free 3, h.free 4, h.free 5, h.free 6, h.free 7, h.free 8, h.free 9, h.free 10, h.free 11, h.free 12, h.free 13, h.free 14, h.free 15, h.free 16, h.free 17⟩
theorem outInfo : (Try.prog.info? 62).map (·.size) = some 18 := by kernel_rfl
/-- a message's cells behind its address: all that is not told is zero -/
def outC (adr kind : Int) (seq : Nat) (mask : BitVec 64) (V : Value) : Array Value :=
  #[.int .u8 adr, .int .u8 kind, .int .u64 seq, .int .u64 0, .int .u64 0, .slice none 0 0, .slice none 0 0, .bool false, .int .u8 0, .int .u8 0, .int .u8 0, .int .u32 0, .int .u32 0, .int .u64 (mask.toNat : Int), .int .u8 0, .slice none 0 0, .slice none 0 0, V]
def DataJ (w : World) (adr : Int) (seq : Nat) (bs : List B8) (e : Ending) (w' : World) : Prop := ∃ V, e = .returned (.agg (outC adr 10 seq 0 V)) ∧ OwB w' V bs ∧ St No w (fpV V) w'
set_option maxRecDepth 100000 in
set_option maxHeartbeats 1000000 in
theorem data_calls (w : World) (p : Nat) (c : PC) (sent acked : Nat) (mask : BitVec 64) (delivered : Nat) (Vq Ve : Value) (qs : List PB) (es : List FB) (h : PrM w p c sent acked mask delivered Vq Ve qs es) (i : Nat) (b : PB) (hb : qs[i]? = some b) (hbl : b.b.length ≤ 3072) (hseq : acked + 1 + i ≤ 18446744073709551615) :
    Calls Try.prog 85 #[.pointer (some ⟨p, 0, none⟩), .int .i64 i] w (DataJ w c.adr (acked + 1 + i) b.b) := by
  have H := Lib.hid h
  have hil := (List.getElem?_eq_some_iff.1 hb).1
  have hbo := h.lq.el b (List.mem_of_getElem? hb)
  obtain ⟨ba, bc, hbv, _, _, _, hbn⟩ := hbo.form
  obtain ⟨qa, qc, rfl, _, _, _, _⟩ := h.lq.own.form
  have hq := h.lq.own.rd i b.v (by rw [qmap, List.getElem?_map, hb]; rfl)
  obtain ⟨y, rfl, hcy⟩ := hq
  rw [hbv] at hcy
  have HB := Lib.hid hbo
  have HBV := Lib.hid hbv
  have d0 : w.cell? ⟨p, 0, none⟩ = some (.int .u8 c.adr) := by rw [h.ob.cell 0]; rfl
  have d4 : w.cell? ⟨p, 4, none⟩ = some (.int .u64 acked) := by rw [h.ob.cell 4]; rfl
  have d5 : w.cell? ⟨p, 5, none⟩ = some (.slice (some y) qs.length qc) := by rw [h.ob.cell 5]; rfl
  have hpl := h.ob.lt
  clear h hb hbo hbv
  go_enter Try.func85, Try.ntmps85
  have hyl := World.block_lt_of_cell? w _ hcy
  have HBN : Hid (ba = none → bc = 0) := Lib.hid (fun e => (hbn e).2)
  have w1 : IntKind.u64.wrap ((acked : Int) + 1) = (acked : Int) + 1 := by rw [wrap_u64]; omega
  have w2 : IntKind.u64.wrap (i : Int) = (i : Int) := by rw [wrap_u64]; omega
  have w3 : IntKind.u64.wrap ((acked : Int) + 1 + (i : Int)) = (acked : Int) + 1 + (i : Int) := by rw [wrap_u64]; omega
  have hii : (i : Int) < (qs.length : Int) := by omega
  clear hbn
  have HOB : Hid (Ob (w.alloc (.cells (outC 0 0 0 0 (.slice none 0 0)) 62)) w.heap.size 62 (outC 0 0 0 0 (.slice none 0 0))) := Lib.hid (Ob.alloc w _ _)
  have HS0 : Hid (St No w No (w.alloc (.cells (outC 0 0 0 0 (.slice none 0 0)) 62))) := Lib.hid (St.alloc' No w _)
  have hne1 : p ≠ w.heap.size := by omega
  have hne2 : (y.add i).block ≠ w.heap.size := by omega
  have hne3 : w.heap.size ≠ p := by omega
  have hne4 : w.heap.size ≠ (y.add i).block := by omega
  go_wp2_with fail
  go_region_held3 (fun w' => w'.cell? ⟨p, 0, none⟩ = some (.int .u8 c.adr) ∧ w'.cell? ⟨p, 4, none⟩ = some (.int .u64 acked) ∧ w'.cell? ⟨p, 5, none⟩ = some (.slice (some y) qs.length qc) ∧ w'.cell? (y.add i) = some (.slice ba b.b.length bc)) (go_keep)
    (first
      | (go_at_call 77
         refine (xclone_calls ba bc b.b (by omega) HBN.out _ ?_).mono ?_
         · exact Bs.drew (((OwB.bs (by rw [← HBV.out]; exact HB.out)).st HS0.out (Dj.no _)))
         rintro e w5 ⟨v5, rfl, ho5, hs5⟩
         have hs5' := (St.drew No _).trans hs5
         have hob5 := HOB.out.move (hs5'.block _ HOB.out.lt (fun e => e))
         obtain ⟨z0, z1, z2, z3, z4, z5, z6, z7, z8, z9, z10, z11, z12, z13, z14, z15, z16, z17, zf0, zf1, zf2, zf3, zf4, zf5, zf6, zf7, zf8, zf9, zf10, zf11, zf12, zf13, zf14, zf15, zf16, zf17⟩ := hob5.n18
         have x0 : w5.cell? ⟨p, 0, none⟩ = some (.int .u8 c.adr) := hs5'.cellN (HS0.out.cellN d0)
         have x1 : w5.cell? ⟨p, 4, none⟩ = some (.int .u64 acked) := hs5'.cellN (HS0.out.cellN d4)
         have x2 : w5.cell? ⟨p, 5, none⟩ = some (.slice (some y) qs.length qc) := hs5'.cellN (HS0.out.cellN d5)
         have x3 : w5.cell? (y.add i) = some (.slice ba b.b.length bc) := hs5'.cellN (HS0.out.cellN hcy)
         obtain ⟨a5, c5, rfl, _, _, _, _⟩ := ho5.form
         have HO5 := Lib.hid ho5
         have HS5 := Lib.hid hs5'
         have HOB5 := Lib.hid hob5
         clear ho5 hs5 hs5' hob5))
  change Exit.then _ _ Exit.normal _ (w5.setCells w.heap.size 0 (outC c.adr 10 (acked + 1 + i) 0 (.slice a5 b.b.length c5)).toList)
  have HOX : Hid (Ob (w5.setCells w.heap.size 0 (outC c.adr 10 (acked + 1 + i) 0 (.slice a5 b.b.length c5)).toList) w.heap.size 62 (outC c.adr 10 (acked + 1 + i) 0 (.slice a5 b.b.length c5))) := Lib.hid (HOB5.out.row _ rfl)
  have HSX : Hid (St (fpB0 w.heap.size) w5 (fpB0 w.heap.size) (w5.setCells w.heap.size 0 (outC c.adr 10 (acked + 1 + i) 0 (.slice a5 b.b.length c5)).toList)) := Lib.hid (St.xsets (F := fpB0 w.heap.size) w.heap.size rfl _ 0 w5)
  generalize w5.setCells w.heap.size 0 (outC c.adr 10 (acked + 1 + i) 0 (.slice a5 b.b.length c5)).toList = wx at *
  go_wp2_with fail
  refine bodyPost_ret (results_cell_row rfl _ _ w.heap.size _ _ _ _ rfl HOX.out Try.underlying62 rfl outInfo) rfl ?_
  have hns : ∀ k, fpV (.slice a5 b.b.length c5) k → w.heap.size + 1 ≤ k := fun k hk => by
    have := HS5.out.news k hk
    simpa using this
  refine ⟨_, rfl, HO5.out.st HSX.out (fun k hk hv => by have e : k = w.heap.size := hk; have := hns k hv; omega), ?_⟩
  have h1 := HS0.out.trans HS5.out
  exact ⟨HSX.out.os.trans h1.os, HSX.out.tape.trans h1.tape, HSX.out.output.trans h1.output, Nat.le_trans h1.size HSX.out.size, fun k hk hn => (HSX.out.block k (Nat.lt_of_lt_of_le hk h1.size) (fun e => by have e' : k = w.heap.size := e; omega)).trans (h1.block k hk (fun e => e)), fun k hk => .inr (by have := hns k hk; omega)⟩
end Go.Proofs.Ytjepmckofocdnaa
