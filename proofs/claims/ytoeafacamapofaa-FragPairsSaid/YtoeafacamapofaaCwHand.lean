
/-
  The walks over the statements' lists with marks behind them: handed, kept.
-/
import Derived.Test.YtoeafacamapofaaBytes
import Derived.RegionTactic
namespace Go.Proofs.Ytoeafacamapofaa
open Go.RowKit
set_option linter.unusedVariables false
set_option linter.unusedSimpArgs false

/-- the list with its marks -/
def marked (xs : List B8) : List B8 := xs ++ List.replicate 8 173#8
theorem marked_len (xs : List B8) : (marked xs).length = xs.length + 8 := by simp [marked]
/-- what is handed in: nothing for the nil list, else a list of its own with marks behind it -/
def Hand (w : World) (a : Option Addr) (xs : List B8) (v : Value) : Prop :=
  (a = none ∧ xs = [] ∧ v = .slice none 0 0) ∨ (∃ x g, a = some x ∧ v = .slice (some ⟨g, 0, none⟩) xs.length (xs.length + 8) ∧ Ob w g 5 (bv (marked xs)).toArray)
theorem Bs.none_nil {w : World} {xs : List B8} (h : Bs w none xs) : xs = [] := by
  cases xs with
  | nil => rfl
  | cons x xs => obtain ⟨y, e, _⟩ := h.at 0 (by simp); cases e
theorem Hand.form {w : World} {a : Option Addr} {xs : List B8} {v : Value} (h : Hand w a xs v) : ∃ b c, v = .slice b xs.length c ∧ Bs w b xs ∧ (b = none → c = 0) ∧ (∀ k, fpA b k ↔ fpV v k) := by
  rcases h with ⟨rfl, rfl, rfl⟩ | ⟨x, g, rfl, rfl, ho⟩
  · exact ⟨none, 0, rfl, Rd.nil _ _, fun _ => rfl, fun k => by simp [fpA, fpV, Value.ownBlock]⟩
  · refine ⟨_, _, rfl, ?_, (fun h => by cases h), fun k => by simp [fpA, fpV, Value.ownBlock]⟩
    have := (ho.rd).take xs.length
    rw [List.toList_toArray, bv_take] at this
    have e : (marked xs).take xs.length = xs := by simp [marked]
    rw [e] at this
    exact this
theorem Hand.in {w : World} {a : Option Addr} {xs : List B8} {v : Value} (h : Hand w a xs v) : In (fpV v) w := by
  rcases h with ⟨rfl, rfl, rfl⟩ | ⟨x, g, rfl, rfl, ho⟩
  · intro k hk; simp [fpV, Value.ownBlock] at hk
  · intro k hk
    simp [fpV, Value.ownBlock] at hk
    subst hk
    exact ho.lt
theorem Hand.move {w w' : World} {a : Option Addr} {xs : List B8} {v : Value} (h : Hand w a xs v) (e : ∀ k, fpV v k → w'.heap[k]? = w.heap[k]?) : Hand w' a xs v := by
  rcases h with ⟨rfl, rfl, rfl⟩ | ⟨x, g, rfl, rfl, ho⟩
  · exact .inl ⟨rfl, rfl, rfl⟩
  · exact .inr ⟨x, g, rfl, rfl, ho.move (e g (by simp [fpV, Value.ownBlock]))⟩
theorem Hand.st {w w' : World} {a : Option Addr} {xs : List B8} {v : Value} {F F' : Nat → Prop} (h : Hand w a xs v) (s : St F w F' w') (hd : Dj F (fpV v)) : Hand w' a xs v := h.move (s.same h.in hd)

theorem fill_set (ys : List B8) (k : Nat) (h : k < ys.length) : (ys.take k ++ List.replicate (ys.length - k) 0#8).set k ys[k] = ys.take (k + 1) ++ List.replicate (ys.length - (k + 1)) 0#8 := by
  have hl : (ys.take k).length = k := by simp; omega
  rw [List.set_append_right _ _ (by omega), hl, Nat.sub_self, show ys.length - k = (ys.length - (k + 1)) + 1 by omega, List.replicate_succ, List.set_cons_zero, List.take_succ_eq_append_getElem h, List.append_assoc]
  rfl
theorem marked_get1 (xs : List B8) (k : Nat) (h : k < xs.length) (h2 : k < (marked xs).length) : (marked xs)[k] = xs[k] := by simp [marked, List.getElem_append_left h]
theorem marked_get2 (xs : List B8) (k : Nat) (h : ¬ k < xs.length) (h2 : k < (marked xs).length) : (marked xs)[k] = 173#8 := by
  simp only [marked]
  rw [List.getElem_append_right (by omega), List.getElem_replicate]

end Go.Proofs.Ytoeafacamapofaa
