
/-
  The program's Joiner: the closures that drop asks.
-/
import Derived.Test.YtoeafacamapofaaJnDrop
namespace Go.Proofs.Ytoeafacamapofaa
open Go.RowKit
set_option linter.unusedVariables false
set_option linter.unusedSimpArgs false

set_option maxRecDepth 100000 in
theorem take1_calls (y1 y2 x1 x2 : Int) (W : World) (cb : Nat) (h : Ob W cb 174 #[.int .u8 x1, .int .u64 x2]) :
    Calls Try.prog 96 #[nmV (y1, y2), .pointer (some ⟨cb, 0, none⟩)] W fun e w' => e = .returned (.bool (decide ((y1, y2) = (x1, x2)))) ∧ St No W No w' := by
  have hl := h.lt
  have q1 : cb ≠ W.heap.size := by omega
  obtain ⟨c0, c1, _, _⟩ := h.two
  have he := fun w => nmKey.eq (y1, y2) (x1, x2) w
  simp only [nmV, key2] at he ⊢
  clear h
  go_enter Try.func96, Try.ntmps96
  go_wp2
  all_goals go_ret
  all_goals refine ⟨?_, St.alloc' No W _⟩
  all_goals first
    | rfl
    | (simp; done)
    | (simp_all; done)
    | (simp; assumption)
    | skip
set_option maxRecDepth 100000 in
theorem begin1_calls (y1 y2 x1 x2 : Int) (W : World) (cb : Nat) (h : Ob W cb 174 #[.int .u8 x1, .int .u64 x2]) :
    Calls Try.prog 124 #[nmV (y1, y2), .pointer (some ⟨cb, 0, none⟩)] W fun e w' => e = .returned (.bool (decide ((y1, y2) = (x1, x2)))) ∧ St No W No w' := by
  have hl := h.lt
  have q1 : cb ≠ W.heap.size := by omega
  obtain ⟨c0, c1, _, _⟩ := h.two
  have he := fun w => nmKey.eq (y1, y2) (x1, x2) w
  simp only [nmV, key2] at he ⊢
  clear h
  go_enter Try.func124, Try.ntmps124
  go_wp2
  all_goals go_ret
  all_goals refine ⟨?_, St.alloc' No W _⟩
  all_goals first
    | rfl
    | (simp; done)
    | (simp_all; done)
    | (simp; assumption)
    | skip
set_option maxRecDepth 100000 in
theorem forget1_calls (y1 y2 x : Int) (W : World) (cb : Nat) (T : TypeId) (h : Ob W cb T #[.int .u8 x]) :
    Calls Try.prog 98 #[nmV (y1, y2), .pointer (some ⟨cb, 0, none⟩)] W fun e w' => e = .returned (.bool (decide (y1 = x))) ∧ St No W No w' := by
  have hl := h.lt
  have q1 : cb ≠ W.heap.size := by omega
  have c0 : W.cell? ⟨cb, 0, none⟩ = some (.int .u8 x) := by rw [h.cell 0]; rfl
  simp only [nmV, key2]
  clear h
  go_enter Try.func98, Try.ntmps98
  go_wp2
  go_ret
  refine ⟨?_, St.alloc' No W _⟩
  first
    | rfl
    | (by_cases e : y1 = x <;> simp [e])
set_option maxRecDepth 100000 in
theorem tick1_calls (y1 y2 : Int) (W : World) (cb pj bm sp ag : Nat) (u0 u3 : Value) (L : List (Nm × Value)) (tt gt age : Int) (pv : Value) (h : Ob W cb 77 #[.pointer (some ⟨pj, 0, none⟩)]) (hj : Ob W pj 164 #[u0, .int .i64 ag, .map (some bm), u3])
    (hm : Mp W bm nmV L) (hf : L.find? (fun p => decide (p.1 = (y1, y2))) = some ((y1, y2), .pointer (some ⟨sp, 0, none⟩))) (hs : Ob W sp 177 #[.int .i64 tt, .int .i64 gt, .int .i64 age, pv]) :
    Calls Try.prog 97 #[nmV (y1, y2), .pointer (some ⟨cb, 0, none⟩)] W fun e w' => e = .returned (.bool (decide ((ag : Int) ≤ age))) ∧ St No W No w' := by
  have hl := h.lt
  have hjl := hj.lt
  have hsl := hs.lt
  have q1 : cb ≠ W.heap.size := by omega
  have q2 : pj ≠ W.heap.size := by omega
  have q3 : sp ≠ W.heap.size := by omega
  have c0 : W.cell? ⟨cb, 0, none⟩ = some (.pointer (some ⟨pj, 0, none⟩)) := by rw [h.cell 0]; rfl
  have d1 : W.cell? ⟨pj, 1, none⟩ = some (.int .i64 ag) := by rw [hj.cell 1]; rfl
  have d2 : W.cell? ⟨pj, 2, none⟩ = some (.map (some bm)) := by rw [hj.cell 2]; rfl
  have s2 : W.cell? ⟨sp, 2, none⟩ = some (.int .i64 age) := by rw [hs.cell 2]; rfl
  have hlk : ∀ n, (Instr.lookup 161 (.map (some bm)) (.agg #[.int .u8 y1, .int .u64 y2]) false).run Try.prog ((W.alloc (.cells #[.int .u8 y1, .int .u64 y2] 174)).drewN n) = .ok (.pointer (some ⟨sp, 0, none⟩)) ((W.alloc (.cells #[.int .u8 y1, .int .u64 y2] 174)).drewN n) := by
    intro n
    have hm' := (hm.st (St.alloc' No W (.cells #[.int .u8 y1, .int .u64 y2] 174)) (fun h => h)).st (St.drewN No _ n) (fun h => h)
    have := hm'.lookup nmKey Try.underlying161 (nmZero _) (y1, y2)
    rw [hf] at this
    exact this
  simp only [nmV, key2]
  clear h hj hs hm hf
  go_enter Try.func97, Try.ntmps97
  go_wp2
  go_quiet (fail)
  go_wp2
  go_ret
  exact ⟨by first | rfl | simp, (St.alloc' No W _).trans (St.drewN No _ _)⟩
/-- Take's and begin's closures: this name -/
theorem asks_take (w : World) (bm : Nat) (ss : List SM) (cb : Nat) (hne : cb ≠ bm) (x : Nm) (h : Ob w cb 174 #[.int .u8 x.1, .int .u64 x.2]) :
    Asks 96 (.pointer (some ⟨cb, 0, none⟩)) (fun y => decide (y = x)) w bm ss := fun k hk W st mp =>
  take1_calls ss[k].key.1 ss[k].key.2 x.1 x.2 W cb (h.move (st.block cb h.lt hne))
theorem asks_begin (w : World) (bm : Nat) (ss : List SM) (cb : Nat) (hne : cb ≠ bm) (x : Nm) (h : Ob w cb 174 #[.int .u8 x.1, .int .u64 x.2]) :
    Asks 124 (.pointer (some ⟨cb, 0, none⟩)) (fun y => decide (y = x)) w bm ss := fun k hk W st mp =>
  begin1_calls ss[k].key.1 ss[k].key.2 x.1 x.2 W cb (h.move (st.block cb h.lt hne))
theorem asks_forget (w : World) (bm : Nat) (ss : List SM) (cb : Nat) (hne : cb ≠ bm) (T : TypeId) (x : Int) (h : Ob w cb T #[.int .u8 x]) :
    Asks 98 (.pointer (some ⟨cb, 0, none⟩)) (fun y => decide (y.1 = x)) w bm ss := fun k hk W st mp =>
  forget1_calls ss[k].key.1 ss[k].key.2 x W cb T (h.move (st.block cb h.lt hne))
/-- a slot by its place -/
theorem getS_at {ss : List SM} (hn : (ss.map (·.key)).Nodup) (k : Nat) (hk : k < ss.length) : getS ss[k].key ss = some ss[k] := by
  unfold getS
  rw [List.find?_eq_some_iff_getElem]
  refine ⟨by simp, k, hk, rfl, fun j hj => ?_⟩
  simp only [Bool.not_eq_true', decide_eq_false_iff_not]
  intro e
  have h1 := List.getElem?_inj (i := j) (j := k) (l := ss.map (·.key)) (by simp; omega) hn
  have : j = k := h1.1 (by simp [hk, Nat.lt_trans hj hk, e])
  omega
def oldS (ag : Nat) (ss : List SM) (y : Nm) : Bool := match getS y ss with | some s => decide ((ag : Int) ≤ s.age) | none => false
theorem Jm.keys {w : World} {pj bm : Nat} {V : Value} {D : Nat → Prop} {sl ag : Nat} {ss : List SM} (h : Jm w pj bm V D sl ag ss) : (ss.map (·.key)).Nodup := by
  have := h.mp.nodup
  rw [List.map_map] at this
  exact this
theorem asks_tick {w : World} {pj bm : Nat} {V : Value} {D : Nat → Prop} {sl ag : Nat} {ss : List SM} (h : Jm w pj bm V D sl ag ss) (cb : Nat) (hne : cb ≠ bm) (hc : Ob w cb 77 #[.pointer (some ⟨pj, 0, none⟩)]) :
    Asks 97 (.pointer (some ⟨cb, 0, none⟩)) (oldS ag ss) w bm ss := fun k hk W st mp => by
  have hpb : pj ≠ bm := by have := h.apart; simp at this; exact this.1.1
  have hsm := List.getElem_mem hk
  have hsb : ss[k].p ≠ bm := fun e => by
    have h1 := h.apart
    simp only [List.nodup_cons, List.mem_cons, not_or] at h1
    exact h1.2.1 (e ▸ (blkS_mem hsm).1)
  have hf := midS_find h.mp.nodup (q := oldS ag ss) k hk
  have := tick1_calls ss[k].key.1 ss[k].key.2 W cb pj bm ss[k].p ag _ _ _ _ _ _ _ (hc.move (st.block cb hc.lt hne)) (h.ob.move (st.block pj h.ob.lt hpb)) mp hf ((h.slots _ hsm).ob.move (st.block _ (h.slots _ hsm).ob.lt hsb))
  have e : oldS ag ss ss[k].key = decide ((ag : Int) ≤ ss[k].age) := by unfold oldS; rw [getS_at h.keys k hk]
  rw [e]
  exact this
end Go.Proofs.Ytoeafacamapofaa
