
/-
  The walk over the reference's Look.
-/
import Derived.Test.YtoeafacamapofaaFgRef2
import Derived.Test.YtoeafacamapofaaCwWriter2
import Derived.BigRegion
import Derived.RegionTactic
namespace Go.Proofs.Ytoeafacamapofaa
open Go.RowKit
set_option linter.unusedVariables false
set_option linter.unusedSimpArgs false

/-- a fragment and an error -/
def FOut (w : World) (f : Fg) (er : Int) (e : Ending) (w' : World) : Prop :=
  ∃ V, e = .returned (.tuple #[.agg #[.int .u64 (f.id.toNat : Int), .int .i64 (f.index : Int), .int .i64 (f.count : Int), .int .i64 (f.total : Int), V], .int .i64 er]) ∧ OwB w' V f.part ∧ St No w (fpV V) w'
theorem FOut.bad {w w' : World} {d : List B8} {er : Int} (hE : lookE d = er) (h0 : er ≠ 0) (s : St No w No w') : FOut w (lookF d) (lookE d) (.returned (.tuple #[.agg #[.int .u64 0, .int .i64 0, .int .i64 0, .int .i64 0, .slice none 0 0], .int .i64 er])) w' := by
  have hf : lookF d = noF := by unfold lookF; rw [hE, if_neg h0]
  rw [hf, hE]
  exact ⟨_, rfl, OwB.nil _, s.drop (fun k hk => by simp [fpV, Value.ownBlock] at hk)⟩
theorem b8_ne_lit (b : B8) (n : Nat) (h : n < 256) : (((b.toNat : Nat) : Int) != (n : Int)) = !decide (b = BitVec.ofNat 8 n) := by
  by_cases e : b = BitVec.ofNat 8 n
  · subst e
    rw [BitVec.toNat_ofNat, Nat.mod_eq_of_lt h]
    simp
  · have : ¬ ((b.toNat : Nat) : Int) = (n : Int) := fun h2 => e (BitVec.eq_of_toNat_eq (by rw [BitVec.toNat_ofNat]; omega))
    rw [decide_eq_false e]
    simpa using this

theorem frinfo : (Try.prog.info? 73).map (·.size) = some 5 := by kernel_rfl
def fpR (p : Nat) : Nat → Prop := fun k => k = p
theorem st5 (w : World) {r0 : Nat} {F : Nat → Prop} (h : F r0) (v0 v1 v2 v3 v4 : Value) : St F w F (((((w.setCell ⟨r0, 0, none⟩ v0).setCell ⟨r0, 1, none⟩ v1).setCell ⟨r0, 2, none⟩ v2).setCell ⟨r0, 3, none⟩ v3).setCell ⟨r0, 4, none⟩ v4) :=
  ((((St.setCell w ⟨r0, 0, none⟩ v0 h).trans (St.setCell _ ⟨r0, 1, none⟩ v1 h)).trans (St.setCell _ ⟨r0, 2, none⟩ v2 h)).trans (St.setCell _ ⟨r0, 3, none⟩ v3 h)).trans (St.setCell _ ⟨r0, 4, none⟩ v4 h)
theorem Bs.lit0 {w : World} {y : Addr} {xs : List B8} (h : Bs w (some y) xs) (hi : 0 < xs.length) : w.cell? y = some (.int .u8 ((xs[0]).toNat : Int)) := by
  have := h.at_some 0 hi
  rw [Addr.add_zero'] at this
  exact this
theorem Bs.lit {w : World} {y : Addr} {xs : List B8} (h : Bs w (some y) xs) (i : Nat) (hi : i + 1 < xs.length) : w.cell? ⟨y.block, y.off + (i + 1), none⟩ = some (.int .u8 ((xs[i + 1]).toNat : Int)) := by
  have := h.at_some (i + 1) hi
  rw [Addr.add_succ'] at this
  exact this
end Go.Proofs.Ytoeafacamapofaa
