
/-
  The walks over the program's Reader: NewReader, Err, Left, Done, Fail, Raw.
-/
import Derived.Test.YtoeafacamapofaaCwReader2
import Derived.Test.YtoeafacamapofaaCwWriter4
namespace Go.Proofs.Ytoeafacamapofaa
open Go.RowKit
set_option linter.unusedVariables false
set_option linter.unusedSimpArgs false

theorem Rr.open {w : World} {p : Nat} {D : Nat → Prop} {s : RS} (h : Rr w p D s) : ∃ a c, w.cell? ⟨p, 0, none⟩ = some (.slice a s.rest.length c) ∧ w.cell? ⟨p, 1, none⟩ = some (.int .i64 s.err) ∧ w.frozen? ⟨p, 0, none⟩ = false ∧ w.frozen? ⟨p, 1, none⟩ = false ∧
    Bs w a s.rest ∧ s.rest.length ≤ c ∧ c ≤ 9223372036854775807 ∧ (a = none → c = 0) ∧ (∀ k, fpA a k → D k) ∧ Ob w p 203 #[.slice a s.rest.length c, .int .i64 s.err] := by
  obtain ⟨a, c, ho, hb, h1, h2, h3, h4⟩ := h
  exact ⟨a, c, by rw [ho.cell 0]; rfl, by rw [ho.cell 1]; rfl, ho.free 0, ho.free 1, hb, h1, by unfold maxLen at h2; omega, h3, h4, ho⟩
theorem Rr.setErr {w : World} {p : Nat} {D : Nat → Prop} {s : RS} (h : Rr w p D s) (hd : ¬ D p) (e : Int) : Rr (w.setCell ⟨p, 1, none⟩ (.int .i64 e)) p D ⟨s.rest, e⟩ := by
  obtain ⟨a, c, ho, hb, h1, h2, h3, h4⟩ := h
  exact ⟨a, c, ho.set 1 _, hb.st (St.setCell (F := fpP p) _ _ _ rfl) (fun k hk hf => hd (by have e : k = p := hk; rw [← e]; exact h4 k hf)), h1, h2, h3, h4⟩
/-- the error that is told -/
def errR (th : Bool) (s : RS) : Int := if th then s.err else 1
/-- how many bytes are left -/
def leftR (th : Bool) (s : RS) : Nat := if th then s.rest.length else 0
def doneR (th : Bool) (s : RS) : Int := if errR th s = 0 then (if s.rest.length = 0 then 0 else 26) else errR th s
/-- an error that stands from now on -/
def RS.fail (s : RS) (n : Int) : RS := if s.err = 0 then ⟨s.rest, n⟩ else s
def FailPost (w : World) (v : Value) (th : Bool) (p : Nat) (D : Nat → Prop) (s : RS) (n : Int) (e : Ending) (w' : World) : Prop := e = .returned (.tuple #[]) ∧ Rh w' v th p D (s.fail n) ∧ St (fpP p) w (fpP p) w'
set_option maxRecDepth 100000 in
theorem rFail2_calls (n : Int) (w : World) (v : Value) (th : Bool) (p : Nat) (D : Nat → Prop) (s : RS) (h : Rh w v th p D s) :
    Calls Try.prog 117 #[v, .int .i64 n] w (FailPost w v th p D s n) := by
  rcases h with ⟨rfl, rfl⟩ | ⟨rfl, rfl, hr, hdp⟩
  · go_enter Try.func117, Try.ntmps117
    go_wp2
    go_end0
    exact ⟨rfl, .inl ⟨rfl, rfl⟩, St.refl _ _⟩
  · obtain ⟨a, c, k0, k1, f0, f1, _⟩ := hr.open
    have HR := Lib.hid hr
    have HDP := Lib.hid hdp
    clear hr hdp
    by_cases he : s.err = 0
    · have HE := Lib.hid he
      rw [he] at k1
      clear he
      go_enter Try.func117, Try.ntmps117
      go_wp2
      go_end0
      exact ⟨rfl, .inr ⟨rfl, rfl, (by unfold RS.fail; rw [if_pos HE.out]; exact HR.out.setErr HDP.out n), HDP.out⟩, St.setCell _ _ _ rfl⟩
    · have hb : (s.err == 0) = false := beq_eq_false_iff_ne.2 he
      have HE := Lib.hid he
      clear he
      go_enter Try.func117, Try.ntmps117
      go_wp2
      go_end0
      exact ⟨rfl, .inr ⟨rfl, rfl, (by unfold RS.fail; rw [if_neg HE.out]; exact HR.out), HDP.out⟩, St.refl _ _⟩
end Go.Proofs.Ytoeafacamapofaa
