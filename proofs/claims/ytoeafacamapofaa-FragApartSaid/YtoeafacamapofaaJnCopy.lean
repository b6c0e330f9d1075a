
/-
  copy of bytes into the middle of a block.
-/
import Derived.Test.YtoeafacamapofaaJnPlain
namespace Go.Proofs.Ytoeafacamapofaa
open Go.RowKit
set_option linter.unusedVariables false
set_option linter.unusedSimpArgs false

theorem bv_arr (xs : List B8) : (bv xs).toArray.toList = bv xs := by simp
theorem run_copy0 (w : World) (a b : Option Addr) (c m k : Nat) (ty : TypeId) : (Builtin.copy_ #[25, 25] ty #[.slice a 0 c, .slice b m k]).run Try.prog w = .ok (goInt 0) w := by
  have hu := Try.underlying25
  have hsz : (Try.prog.info? 5).map (·.size) = some 1 := by obtain ⟨i, hi, hz, hsz, hb⟩ := info_parts u8info; rw [hi]; simp [hsz]
  exact run_copy_none (P := Try.prog) w 25 25 ty 5 a b 0 c m k hu hsz (by simp)
theorem run_copyAt (w : World) (g k c : Nat) (ys : List B8) (hob : Ob w g 5 (bv ys).toArray) (hk : k ≤ ys.length) (a : Option Addr) (cs : Nat) (xs : List B8) (hsrc : Bs w a xs) (ty : TypeId) :
    ∃ w', (Builtin.copy_ #[25, 25] ty #[.slice (some ⟨g, k, none⟩) (ys.length - k) c, .slice a xs.length cs]).run Try.prog w = .ok (goInt (min xs.length (ys.length - k) : Nat)) w' ∧
      Ob w' g 5 (bv (ys.take k ++ xs.take (min xs.length (ys.length - k)) ++ ys.drop (k + min xs.length (ys.length - k)))).toArray ∧ St (fpB g) w (fpB g) w' := by
  have hu := Try.underlying25
  have hsz : (Try.prog.info? 5).map (·.size) = some 1 := by obtain ⟨i, hi, hz, hsz, hb⟩ := info_parts u8info; rw [hi]; simp [hsz]
  by_cases h0 : min xs.length (ys.length - k) = 0
  · have hr := run_copy_none (P := Try.prog) w 25 25 ty 5 (some ⟨g, k, none⟩) a (ys.length - k) c xs.length cs hu hsz h0
    refine ⟨w, by rw [h0]; exact hr, ?_, St.refl _ _⟩
    rw [h0]
    simpa using hob
  · obtain ⟨x, rfl, _⟩ := hsrc.at 0 (by omega)
    have hl : (bv (xs.take (min xs.length (ys.length - k)))).length = min xs.length (ys.length - k) := by rw [bv_len, List.length_take]; omega
    have hr := run_copy_row (P := Try.prog) w 25 25 ty 5 g k (ys.length - k) c x xs.length cs (bv ys).toArray 5 (bv (xs.take (min xs.length (ys.length - k)))) hu hsz hob hl
      (Rd.at_some (by rw [← bv_take]; exact Rd.take hsrc _)) (by rw [hl]; simp [bv_len]; omega) (bv_one _)
    rw [hl] at hr
    refine ⟨_, hr, ?_, St.setRow w g _ rfl⟩
    have e : (bv (ys.take k ++ xs.take (min xs.length (ys.length - k)) ++ ys.drop (k + min xs.length (ys.length - k)))).toArray = ((bv ys).toArray.toList.take k ++ bv (xs.take (min xs.length (ys.length - k))) ++ (bv ys).toArray.toList.drop (k + min xs.length (ys.length - k))).toArray := by
      rw [bv_append, bv_append, bv_arr, bv_take, bv_drop]
    rw [e]
    exact hob.setRow _
end Go.Proofs.Ytoeafacamapofaa
