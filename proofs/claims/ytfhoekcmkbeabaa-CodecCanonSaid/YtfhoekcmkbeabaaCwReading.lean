
/-
  The walks over the reference's Reading: Error, Left, Fail.
-/
import Derived.Test.YtfhoekcmkbeabaaCwReader3
namespace Go.Proofs.Ytfhoekcmkbeabaa
open Go.RowKit
set_option linter.unusedVariables false
set_option linter.unusedSimpArgs false

/-- the reference's reader in memory: its bytes, where it stands, its error -/
structure RG where
  data : List B8
  pos : Nat
  err : Int
def RG.rs (g : RG) : RS := ⟨g.data.drop g.pos, g.err⟩
def Rg (w : World) (p : Nat) (th : Bool) (D : Nat → Prop) (g : RG) : Prop :=
  ∃ a c, Ob w p 77 #[.bool th, .slice a g.data.length c, .int .i64 (g.pos : Int), .int .i64 g.err] ∧ Bs w a g.data ∧ g.data.length ≤ c ∧ c ≤ 9223372036854775807 ∧ (a = none → c = 0) ∧ (∀ k, fpA a k → D k) ∧ g.pos ≤ g.data.length ∧ g.data.length ≤ 16777216
theorem Rg.st {w w' : World} {F F' : Nat → Prop} {p : Nat} {th : Bool} {D : Nat → Prop} {g : RG} (h : Rg w p th D g) (t : St F w F' w') (hp : ¬ F p) (hd : Dj F D) : Rg w' p th D g := by
  obtain ⟨a, c, ho, hb, h1, h2, h3, h4, h5⟩ := h
  exact ⟨a, c, ho.move (t.block p ho.lt hp), hb.st t (fun k hk hf => hd k hk (h4 k hf)), h1, h2, h3, h4, h5⟩
theorem Rg.open {w : World} {p : Nat} {th : Bool} {D : Nat → Prop} {g : RG} (h : Rg w p th D g) : ∃ a c, w.cell? ⟨p, 0, none⟩ = some (.bool th) ∧ w.cell? ⟨p, 1, none⟩ = some (.slice a g.data.length c) ∧ w.cell? ⟨p, 2, none⟩ = some (.int .i64 (g.pos : Int)) ∧ w.cell? ⟨p, 3, none⟩ = some (.int .i64 g.err) ∧
    w.frozen? ⟨p, 2, none⟩ = false ∧ w.frozen? ⟨p, 3, none⟩ = false ∧ Bs w a g.data ∧ g.pos ≤ g.data.length ∧ g.data.length ≤ 16777216 := by
  obtain ⟨a, c, ho, hb, h1, h2, h3, h4, h5, h6⟩ := h
  exact ⟨a, c, by rw [ho.cell 0]; rfl, by rw [ho.cell 1]; rfl, by rw [ho.cell 2]; rfl, by rw [ho.cell 3]; rfl, ho.free 2, ho.free 3, hb, h5, h6⟩
theorem Rg.setErr {w : World} {p : Nat} {th : Bool} {D : Nat → Prop} {g : RG} (h : Rg w p th D g) (hd : ¬ D p) (e : Int) : Rg (w.setCell ⟨p, 3, none⟩ (.int .i64 e)) p th D ⟨g.data, g.pos, e⟩ := by
  obtain ⟨a, c, ho, hb, h1, h2, h3, h4, h5⟩ := h
  exact ⟨a, c, ho.set 3 _, hb.st (St.setCell (F := fpP p) _ _ _ rfl) (fun k hk hf => hd (by have e : k = p := hk; rw [← e]; exact h4 k hf)), h1, h2, h3, h4, h5⟩
set_option maxRecDepth 100000 in
theorem gErr_calls (w : World) (p : Nat) (th : Bool) (D : Nat → Prop) (g : RG) (h : Rg w p th D g) :
    Calls Try.prog 86 #[.pointer (some ⟨p, 0, none⟩)] w fun e w' => e = .returned (.int .i64 (errR th g.rs)) ∧ w = w' := by
  obtain ⟨a, c, k0, k1, k2, k3, f2, f3, hb, h5, h6⟩ := h.open
  clear h hb f2 f3
  cases th
  · go_enter Try.func86, Try.ntmps86
    go_wp2
    go_ret
    exact ⟨rfl, rfl⟩
  · go_enter Try.func86, Try.ntmps86
    go_wp2
    go_ret
    exact ⟨rfl, rfl⟩
set_option maxRecDepth 100000 in
theorem gLeft_calls (w : World) (p : Nat) (th : Bool) (D : Nat → Prop) (g : RG) (h : Rg w p th D g) :
    Calls Try.prog 85 #[.pointer (some ⟨p, 0, none⟩)] w fun e w' => e = .returned (.int .i64 (g.rs.rest.length : Int)) ∧ ∃ n, w' = w.drewN n := by
  obtain ⟨a, c, k0, k1, k2, k3, f2, f3, hb, h5, h6⟩ := h.open
  have HE : Hid ((g.rs.rest.length : Int) = (g.data.length : Int) - (g.pos : Int)) := Lib.hid (by unfold RG.rs; simp; omega)
  clear h hb f2 f3
  go_enter Try.func85, Try.ntmps85
  go_wp2
  go_quiet (fail)
  go_wp2
  go_ret
  exact ⟨ret_int (by rw [HE.out]), _, rfl⟩
def GFailPost (w : World) (p : Nat) (th : Bool) (D : Nat → Prop) (g : RG) (n : Int) (e : Ending) (w' : World) : Prop :=
  e = .returned (.tuple #[]) ∧ Rg w' p th D (if th = true ∧ g.err = 0 then ⟨g.data, g.pos, n⟩ else g) ∧ St (fpP p) w (fpP p) w'
set_option maxRecDepth 100000 in
theorem gFail_calls (n : Int) (w : World) (p : Nat) (th : Bool) (D : Nat → Prop) (g : RG) (hdp : ¬ D p) (h : Rg w p th D g) :
    Calls Try.prog 89 #[.pointer (some ⟨p, 0, none⟩), .int .i64 n] w (GFailPost w p th D g n) := by
  obtain ⟨a, c, k0, k1, k2, k3, f2, f3, hb, h5, h6⟩ := h.open
  have HR := Lib.hid h
  have HDP := Lib.hid hdp
  clear h hb hdp
  cases th
  · go_enter Try.func89, Try.ntmps89
    go_wp2
    go_end0
    exact ⟨rfl, by rw [if_neg (by simp)]; exact HR.out, St.refl _ _⟩
  · by_cases he : g.err = 0
    · have HE := Lib.hid he
      rw [he] at k3
      clear he
      go_enter Try.func89, Try.ntmps89
      go_wp2
      go_end0
      exact ⟨rfl, by rw [if_pos ⟨rfl, HE.out⟩]; exact HR.out.setErr HDP.out n, St.setCell _ _ _ rfl⟩
    · have hb : (g.err == 0) = false := beq_eq_false_iff_ne.2 he
      have HE := Lib.hid he
      clear he
      go_enter Try.func89, Try.ntmps89
      go_wp2
      go_end0
      exact ⟨rfl, by rw [if_neg (fun h => HE.out h.2)]; exact HR.out, St.refl _ _⟩
end Go.Proofs.Ytfhoekcmkbeabaa
