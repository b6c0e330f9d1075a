
/-
  The program's Joiner: New.
-/
import Derived.Test.YtoeafacamapofaaJnBase
namespace Go.Proofs.Ytoeafacamapofaa
open Go.RowKit
set_option linter.unusedVariables false
set_option linter.unusedSimpArgs false

def newOk (sl ag : Int) : Bool := decide (1 ≤ sl ∧ sl ≤ 16 ∧ 1 ≤ ag ∧ ag ≤ 64)
def NewPost (w : World) (sl ag : Int) (e : Ending) (w' : World) : Prop :=
  (newOk sl ag = true ∧ ∃ pj F, e = .returned (.tuple #[.pointer (some ⟨pj, 0, none⟩), .int .i64 0]) ∧ Jn w' F pj sl.toNat ag.toNat [] ∧ St No w F w') ∨
  (newOk sl ag = false ∧ e = .returned (.tuple #[.pointer none, .int .i64 2]) ∧ w' = w)
set_option maxRecDepth 100000 in
theorem new_calls (sl ag : Int) (w : World) : Calls Try.prog 48 #[.int .i64 sl, .int .i64 ag] w (NewPost w sl ag) := by
  have hmm := @run_makeMap Try.prog
  by_cases h1 : sl < 1
  · have HB : newOk sl ag = false := decide_eq_false (by omega)
    go_enter Try.func48, Try.ntmps48
    go_wp2
    go_ret2
    exact .inr ⟨HB, rfl, rfl⟩
  by_cases h2 : 16 < sl
  · have HB : newOk sl ag = false := decide_eq_false (by omega)
    go_enter Try.func48, Try.ntmps48
    go_wp2
    go_ret2
    exact .inr ⟨HB, rfl, rfl⟩
  by_cases h3 : ag < 1
  · have HB : newOk sl ag = false := decide_eq_false (by omega)
    go_enter Try.func48, Try.ntmps48
    go_wp2
    go_ret2
    exact .inr ⟨HB, rfl, rfl⟩
  by_cases h4 : 64 < ag
  · have HB : newOk sl ag = false := decide_eq_false (by omega)
    go_enter Try.func48, Try.ntmps48
    go_wp2
    go_ret2
    exact .inr ⟨HB, rfl, rfl⟩
  have HB : newOk sl ag = true := decide_eq_true (by omega)
  go_enter Try.func48, Try.ntmps48
  go_wp2
  go_ret2
  obtain ⟨n, rfl⟩ := Int.eq_ofNat_of_zero_le (show 0 ≤ sl by omega)
  obtain ⟨m, rfl⟩ := Int.eq_ofNat_of_zero_le (show 0 ≤ ag by omega)
  refine .inl ⟨HB, _, fun k => k = w.heap.size ∨ k = w.heap.size + 1, rfl, ?_, ?_⟩
  · refine ⟨w.heap.size, .slice none 0 0, No, [], ?_, rfl, ?_⟩
    · have ho := lnew2 w (.map #[] 0) (.cells #[.int .i64 n, .int .i64 m, .map (some w.heap.size), .slice none 0 0] 164)
      have hm := lmid2 w (.map #[] 0) (.cells #[.int .i64 n, .int .i64 m, .map (some w.heap.size), .slice none 0 0] 164)
      refine ⟨ho, ⟨#[], 0, hm, rfl, MapKept.stamped_empty 0, by simp⟩, Own.nil _ _ _, by simp, fun k hk => hk.elim, by simp [blkS], ?_, fun _ _ h => h, fun _ _ h => h⟩
      intro k _ hk
      simp [fpV, Value.ownBlock] at hk
    · intro k
      simp [fpJ, blkS, fpV, Value.ownBlock, No]
      exact or_comm
  · refine ((St.alloc' No w _).trans (St.alloc No _ _)).toNew.drop ?_
    rintro k (rfl | rfl)
    · exact .inr (Nat.le_refl _)
    · exact .inr (Nat.le_succ _)
end Go.Proofs.Ytoeafacamapofaa
