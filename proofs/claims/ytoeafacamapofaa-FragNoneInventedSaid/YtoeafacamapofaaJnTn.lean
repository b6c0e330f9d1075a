
/-
  Only some places, and new ones, have turned.
-/
import Derived.Test.YtoeafacamapofaaBytes
namespace Go.Proofs.Ytoeafacamapofaa
open Go.RowKit
set_option linter.unusedVariables false
set_option linter.unusedSimpArgs false

/-- the places from lo to hi -/
def Iv (lo hi : Nat) : Nat → Prop := fun k => lo ≤ k ∧ k < hi
/-- only places in M, and new ones, have turned -/
def Tn (M : Nat → Prop) (wS w : World) : Prop := St M wS (fun k => M k ∨ wS.heap.size ≤ k) w
theorem Tn.refl (M : Nat → Prop) (w : World) : Tn M w w := ⟨rfl, rfl, rfl, Nat.le_refl _, fun _ _ _ => rfl, fun _ h => h⟩
theorem Tn.step {M : Nat → Prop} {wS wr w' : World} {G G' : Nat → Prop} (h : Tn M wS wr) (k : St G wr G' w') (hG : ∀ q, G q → M q ∨ wS.heap.size ≤ q) : Tn M wS w' :=
  ⟨k.os.trans h.os, k.tape.trans h.tape, k.output.trans h.output, Nat.le_trans h.size k.size,
   fun q hq hn => (k.block q (Nat.lt_of_lt_of_le hq h.size) (fun hg => (hG q hg).elim hn (fun hl => absurd hq (Nat.not_lt.2 hl)))).trans (h.block q hq hn), fun q hq => hq⟩
theorem Tn.wide {M M' : Nat → Prop} {wS w : World} (h : Tn M wS w) (hM : ∀ q, M q → M' q) : Tn M' wS w :=
  ⟨h.os, h.tape, h.output, h.size, fun q hq hn => h.block q hq (fun hm => hn (hM q hm)), fun q hq => hq⟩
theorem Tn.dj {M F : Nat → Prop} {lo hi : Nat} (hF : ∀ k, F k → Iv lo hi k) (hM : ∀ k, M k → ¬ Iv lo hi k) : Dj M F := fun k hm hf => hM k hm (hF k hf)
/-- a Joiner's places F and a list V beside it, since wS -/
structure Z2 (wS : World) (F1 : Nat → Prop) (wr : World) (F : Nat → Prop) (V : Value) : Prop where
  v : ∀ q, fpV V q → wS.heap.size ≤ q ∧ ¬ F q
  fn : ∀ q, F q → F1 q ∨ wS.heap.size ≤ q
  tn : Tn F1 wS wr
  vin : In (fpV V) wr
  fin : In F wr
theorem Z2.stepJ {wS wr w' : World} {F1 F F' G : Nat → Prop} {V : Value} (h : Z2 wS F1 wr F V) (s : St F wr G w') (hG : ∀ q, F' q → G q) (hin : In F' w') : Z2 wS F1 w' F' V :=
  ⟨fun q hq => ⟨(h.v q hq).1, fun hf => (s.new q (hG q hf)).elim (h.v q hq).2 (fun hl => absurd (h.vin q hq) (Nat.not_lt.2 hl))⟩,
   fun q hq => (s.new q (hG q hq)).elim (h.fn q) (fun hl => .inr (Nat.le_trans h.tn.size hl)), h.tn.step s h.fn, h.vin.st s, hin⟩
theorem Z2.stepNo {wS wr w' : World} {F1 F G : Nat → Prop} {V : Value} (h : Z2 wS F1 wr F V) (s : St No wr G w') : Z2 wS F1 w' F V :=
  ⟨h.v, h.fn, h.tn.step s (fun q hq => hq.elim), h.vin.st s, h.fin.st s⟩
theorem Z2.stepV {wS wr w' : World} {F1 F : Nat → Prop} {V V' : Value} (h : Z2 wS F1 wr F V) (s : St (fpV V) wr (fpV V') w') (hin : In (fpV V') w') : Z2 wS F1 w' F V' :=
  ⟨fun q hq => (s.new q hq).elim (h.v q) (fun hl => ⟨Nat.le_trans h.tn.size hl, fun hf => absurd (h.fin q hf) (Nat.not_lt.2 hl)⟩),
   h.fn, h.tn.step s (fun q hq => .inr (h.v q hq).1), hin, h.fin.st s⟩
end Go.Proofs.Ytoeafacamapofaa
