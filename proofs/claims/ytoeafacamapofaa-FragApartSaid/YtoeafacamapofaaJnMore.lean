
/-
  The program's Joiner: a slot more.
-/
import Derived.Test.YtoeafacamapofaaJnAsk
namespace Go.Proofs.Ytoeafacamapofaa
open Go.RowKit
set_option linter.unusedVariables false
set_option linter.unusedSimpArgs false

/-- a step of a region: a map's new entry -/
theorem step_upd {α : Type} [DecidableEq α] {P : Program} {kt : TypeId} {key : α → Value} {ops : Array Oper} {o : Oper} {ac : Act} {w : World} {K : Act → World → Prop} {Q : Exit → Act → World → Prop} {E : Prop} (hgd : o.guard = none) (m x v : Operand) (t e : TypeId)
    (ho : o.op = .mapUpdate t m x v) (KE : KeyEq P kt key) (hinj : ∀ x y, key x = key y → x = y) (ht : P.underlying t = some (.map kt e)) (b : Nat) (L : List (α × Value)) (k : α) (u : Value)
    (hm : ac.eval m = .map (some b)) (hx : ac.eval x = key k) (hv : ac.eval v = u) (h : Mp w b key L) (hk : ∀ p ∈ L, p.1 ≠ k)
    (hK : ∀ w', Mp w' b key (L ++ [(k, u)]) → St (fpB b) w (fpB b) w' → w'.heap.size = w.heap.size → K (ac.put o.dst undef) w') :
    if Region.wanted o (yielded ops ac.tmps) = true then Oper.wp P o ac w K Q else E := by
  have hw : Region.wanted o (yielded ops ac.tmps) = true := by simp [Region.wanted, hgd]
  rw [if_pos hw]
  obtain ⟨w', hr, h1, h2, h3⟩ := h.push KE hinj ht k u hk
  unfold Oper.wp execOp
  simp only [ho, Sem.run_bind, Sem.run_pure, Result.andThen_ok, hm, hx, hv, hr]
  exact hK w' h1 h2 h3
theorem St.thenN {F G H : Nat → Prop} {w a b : World} (h : St No w G a) (k : St F a H b) (hF : ∀ j, F j → w.heap.size ≤ j) : St No w (Nw w) b :=
  ⟨k.os.trans h.os, k.tape.trans h.tape, k.output.trans h.output, Nat.le_trans h.size k.size, fun i hi hn => (k.block i (Nat.lt_of_lt_of_le hi h.size) (fun h' => absurd hi (Nat.not_lt.2 (hF i h')))).trans (h.block i hi hn), fun i hi => .inr hi⟩
def nilRow (n : Nat) : Array Value := (List.replicate n (Value.slice none 0 0)).toArray
theorem make_parts (W : World) (n : Nat) (hn : n ≤ 1048576) : (Instr.makeSlice 41 (.int .i64 (n : Int)) (.int .i64 (n : Int))).run Try.prog W = .ok (.slice (some ⟨W.heap.size, 0, none⟩) n n) (W.alloc (.cells (nilRow n) 25)) := by
  obtain ⟨i, hi, hz, hs, hb⟩ := info_parts slinfo4
  have hr := run_make (P := Try.prog) W 41 25 i (.slice none 0 0) Try.underlying41 hi hz .i64 .i64 n n (by omega) (by omega) (by rw [hb]; omega) (by omega)
  rw [hs] at hr
  simp only [Int.toNat_natCast, Nat.mul_one] at hr
  have hcs : madeCells (Value.slice none 0 0).cells n = nilRow n := by
    apply Array.ext'
    rw [show (Value.slice none 0 0).cells = #[Value.slice none 0 0] from rfl, toList_madeCells_one]
    rfl
  rw [hcs] at hr
  exact hr
/-- a slot just begun -/
def newSM (x : Nm) (p g total count : Nat) : SM := ⟨x, p, g, total, 0, 0, List.replicate count ⟨none, 0, []⟩⟩
theorem blkS_snoc (ss : List SM) (s : SM) : blkS (ss ++ [s]) = blkS ss ++ [s.p, s.g] := by simp [blkS]
theorem begin_end {wd w5 w6 w6' w7 : World} {pj bm : Nat} {V : Value} {D : Nat → Prop} {sl ag : Nat} {ss : List SM} (h : Jm wd pj bm V D sl ag ss) {x : Nm} (hx : 0 ≤ x.1 ∧ x.1 < 255) {p g total count : Nat} (ht : total ≤ 4096) (hc : count ≤ 128)
    (s5 : St No wd (Nw wd) w5) (og : Ob w5 g 25 (List.replicate count (Value.slice none 0 0)).toArray) (op : Ob w5 p 177 #[.int .i64 total, .int .i64 0, .int .i64 0, .slice (some ⟨g, 0, none⟩) count count])
    (hg : wd.heap.size ≤ g) (hp : wd.heap.size ≤ p) (hgp : p ≠ g)
    (m6 : Mp w6 bm nmV (ss.map SM.ent ++ [(x, .pointer (some ⟨p, 0, none⟩))])) (s6 : St (fpB bm) w5 (fpB bm) w6) (s6' : St No w6 (Nw w6) w6')
    {V' : Value} (o7 : Own w7 174 2 V' (ss.length + 1) ((ss.flatMap fun s => nmC s.key) ++ nmC x)) (s7 : St (fpV V) w6' (fpV V') w7) :
    Jm (w7.setCell ⟨pj, 3, none⟩ V') pj bm V' D sl ag (ss ++ [newSM x p g total count]) ∧ St (fpJ pj bm V D ss) wd (fpJ pj bm V' D (ss ++ [newSM x p g total count])) (w7.setCell ⟨pj, 3, none⟩ V') := by
  have hin := h.in
  have hpj : pj < wd.heap.size := h.ob.lt
  have hbm : bm < wd.heap.size := h.mp.lt
  have hpb : pj ≠ bm := by have := h.apart; simp at this; exact this.1.1
  have hVn : ∀ k, fpV V' k → fpV V k ∨ wd.heap.size ≤ k := fun k hk => (s7.new k hk).imp id (fun hl => Nat.le_trans s5.size (Nat.le_trans s6.size (Nat.le_trans s6'.size hl)))
  -- the whole step ahead of the last store
  have st : St (fun k => k = bm ∨ fpV V k) wd (Nw wd) w7 := by
    refine ⟨?_, ?_, ?_, Nat.le_trans s5.size (Nat.le_trans s6.size (Nat.le_trans s6'.size s7.size)), fun k hk hn => ?_, fun k hk => .inr hk⟩
    · rw [s7.os, s6'.os, s6.os, s5.os]
    · rw [s7.tape, s6'.tape, s6.tape, s5.tape]
    · rw [s7.output, s6'.output, s6.output, s5.output]
    · have k5 := Nat.lt_of_lt_of_le hk s5.size
      have k6 := Nat.lt_of_lt_of_le k5 s6.size
      have k6' := Nat.lt_of_lt_of_le k6 s6'.size
      rw [s7.block k k6' (fun e => hn (.inr e)), s6'.block k k6 (fun e => e), s6.block k k5 (fun e => hn (.inl e)), s5.block k hk (fun e => e)]
  have stc : St (fpB pj) w7 (fpB pj) (w7.setCell ⟨pj, 3, none⟩ V') := St.setCell w7 ⟨pj, 3, none⟩ V' rfl
  have hbs : ∀ s ∈ ss, pj ≠ s.p ∧ pj ≠ s.g ∧ bm ≠ s.p ∧ bm ≠ s.g := by
    intro s hs
    have h1 := h.apart
    have h2 := blkS_mem hs
    simp only [List.nodup_cons, List.mem_cons, not_or] at h1
    exact ⟨fun e => h1.1.2 (e ▸ h2.1), fun e => h1.1.2 (e ▸ h2.2), fun e => h1.2.1 (e ▸ h2.1), fun e => h1.2.1 (e ▸ h2.2)⟩
  have hnv : ∀ k ∈ pj :: bm :: blkS ss, ¬ (k = bm ∨ fpV V k) ∨ k = bm := fun k hk => by
    by_cases e : k = bm
    · exact .inr e
    · exact .inl (fun h' => h'.elim e (h.notV k hk))
  have hold : ∀ s ∈ ss, SMOk (w7.setCell ⟨pj, 3, none⟩ V') D s := by
    intro s hs
    have hb := hbs s hs
    have h2 := blkS_mem hs
    refine ((h.slots s hs).st st (fun e => ?_) (fun e => ?_) (fun k hk hd => ?_)).st stc (fun e => hb.1 e.symm) (fun e => hb.2.1 e.symm) (fun k hk hd => ?_)
    · rcases e with e | e
      · exact hb.2.2.1 e.symm
      · exact h.notV s.p (by simp [h2.1]) e
    · rcases e with e | e
      · exact hb.2.2.2 e.symm
      · exact h.notV s.g (by simp [h2.2]) e
    · rcases hk with rfl | hk
      · exact h.notD k (by simp) hd
      · exact h.vD k hk hd
    · obtain rfl : k = pj := hk
      exact h.notD k (by simp) hd
  have hlp := op.lt
  have hlg := og.lt
  have hpV : ∀ k, (k = p ∨ k = g) → ¬ fpV V' k := by
    intro k hk hf
    rcases s7.new k hf with h1 | h1
    · have := h.ord.in k h1
      rcases hk with rfl | rfl <;> omega
    · have := s6.size; have := s6'.size
      rcases hk with rfl | rfl <;> omega
  have new6 : ∀ k, (k = p ∨ k = g) → (w7.setCell ⟨pj, 3, none⟩ V').heap[k]? = w5.heap[k]? := by
    intro k hk
    have k0 : wd.heap.size ≤ k := by rcases hk with rfl | rfl <;> assumption
    have k5 : k < w5.heap.size := by rcases hk with rfl | rfl <;> assumption
    have k6 := Nat.lt_of_lt_of_le k5 s6.size
    have k6' := Nat.lt_of_lt_of_le k6 s6'.size
    have nV : ¬ fpV V k := fun e => by have := h.ord.in k e; omega
    rw [stc.block k (Nat.lt_of_lt_of_le k6' s7.size) (fun e => by have e' : k = pj := e; omega), s7.block k k6' nV, s6'.block k k6 (fun e => e), s6.block k k5 (fun e => by have e' : k = bm := e; omega)]
  refine ⟨⟨?_, ?_, ?_, ?_, ?_, ?_, ?_, ?_, ?_⟩, ?_⟩
  · exact (h.ob.move (st.block pj hpj (fun e => e.elim hpb (h.notV pj (by simp))))).set 3 _
  · rw [List.map_append]
    exact ((m6.st s6' (fun e => e)).st s7 (h.notV bm (by simp))).st stc (fun e => hpb e.symm)
  · rw [List.length_append, List.flatMap_append]
    refine Own.st (h := ?_) stc (fun k hk hf => ?_)
    · simpa [newSM] using o7
    · obtain rfl : k = pj := hk
      rcases hVn k hf with h1 | h1
      · exact h.notV k (by simp) h1
      · omega
  · intro s hs
    rcases List.mem_append.1 hs with hs | hs
    · exact hold s hs
    · have e := List.mem_singleton.1 hs
      subst e
      refine ⟨?_, ?_, ?_, ht, by simpa [newSM] using hc, (by simp [newSM]), by simp [newSM], hx⟩
      · refine Ob.move (w := w5) ?_ (new6 p (.inl rfl))
        simpa [newSM, SM.cells] using op
      · refine Ob.move (w := w5) ?_ (new6 g (.inr rfl))
        simpa [newSM, PR.val] using og
      · intro r hr
        simp only [newSM, List.mem_replicate] at hr
        obtain ⟨_, rfl⟩ := hr
        exact ⟨Rd.nil _ _, fun k hk => (by obtain ⟨x, e, _⟩ := hk; cases e), by simp, fun _ => rfl, by simp, (by unfold maxLen; simp), by simp⟩
  · intro k hk
    exact Nat.lt_of_lt_of_le (h.inD k hk) (Nat.le_trans st.size stc.size)
  · rw [blkS_snoc]
    have h1 := h.apart
    have : (pj :: bm :: (blkS ss ++ [p, g])) = (pj :: bm :: blkS ss) ++ [p, g] := rfl
    show (pj :: bm :: (blkS ss ++ [p, g])).Nodup
    rw [this, List.nodup_append]
    refine ⟨h1, by simp [hgp], fun a ha b hb => ?_⟩
    have := hin a (.inl ha)
    simp at hb
    rcases hb with rfl | rfl <;> omega
  · intro k hk hf
    rw [blkS_snoc] at hk
    have hk' : k ∈ (pj :: bm :: blkS ss) ++ [p, g] := hk
    rcases List.mem_append.1 hk' with hk' | hk'
    · rcases hVn k hf with h1 | h1
      · exact h.notV k hk' h1
      · have := hin k (.inl hk'); omega
    · simp at hk'
      exact hpV k hk' hf
  · intro k hk hd
    rw [blkS_snoc] at hk
    have hk' : k ∈ (pj :: bm :: blkS ss) ++ [p, g] := hk
    rcases List.mem_append.1 hk' with hk' | hk'
    · exact h.notD k hk' hd
    · have := h.inD k hd
      simp at hk'
      rcases hk' with rfl | rfl <;> omega
  · intro k hk hd
    rcases hVn k hk with h1 | h1
    · exact h.vD k h1 hd
    · have := h.inD k hd; omega
  · refine ⟨?_, ?_, ?_, Nat.le_trans st.size stc.size, fun k hk hn => ?_, fun k hk => ?_⟩
    · rw [stc.os, st.os]
    · rw [stc.tape, st.tape]
    · rw [stc.output, st.output]
    · rw [stc.block k (Nat.lt_of_lt_of_le hk st.size) (fun e => hn (.inl (by have e' : k = pj := e; simp [e']))), st.block k hk (fun e => hn (e.elim (fun e => .inl (by simp [e])) (fun e => .inr (.inl e))))]
    · rcases hk with hk | hk | hk
      · rw [blkS_snoc] at hk
        have hk' : k ∈ (pj :: bm :: blkS ss) ++ [p, g] := hk
        rcases List.mem_append.1 hk' with hk' | hk'
        · exact .inl (.inl hk')
        · simp at hk'
          rcases hk' with rfl | rfl
          · exact .inr hp
          · exact .inr hg
      · exact (hVn k hk).imp (fun h => .inr (.inl h)) id
      · exact .inl (.inr (.inr hk))
end Go.Proofs.Ytoeafacamapofaa
