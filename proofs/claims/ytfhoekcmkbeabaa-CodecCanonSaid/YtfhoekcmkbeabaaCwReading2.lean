
/-
  The walks over the reference's width, unfold, NewReading.
-/
import Derived.Test.YtfhoekcmkbeabaaCwReading
import Derived.Test.YtfhoekcmkbeabaaCwReader6
import Derived.Test.YtfhoekcmkbeabaaCwRefB
namespace Go.Proofs.Ytfhoekcmkbeabaa
open Go.RowKit
set_option linter.unusedVariables false
set_option linter.unusedSimpArgs false

set_option maxRecDepth 100000 in
theorem unfold_calls (x : BitVec 64) (w : World) : Calls Try.prog 115 #[.int .u64 (x.toNat : Int)] w fun e w' => e = .returned (.int .i64 (unzig x)) ∧ w = w' := by
  have hx := x.isLt
  by_cases hev : x.toNat % 2 = 0
  · have HZ : Hid (unzig x = ((x.toNat / 2 : Nat) : Int)) := Lib.hid (by unfold unzig; rw [if_pos hev])
    have hm : (x.toNat : Int) % 2 = 0 := by omega
    rw [show ((x.toNat / 2 : Nat) : Int) = (x.toNat : Int) / 2 by omega] at HZ
    clear hev
    go_enter Try.func115, Try.ntmps115
    go_wp2
    go_ret
    exact ⟨ret_int (by rw [HZ.out]), rfl⟩
  · have HZ : Hid (unzig x = -((x.toNat / 2 : Nat) : Int) - 1) := Lib.hid (by unfold unzig; rw [if_neg hev])
    have hm : (x.toNat : Int) % 2 = 1 := by omega
    rw [show ((x.toNat / 2 : Nat) : Int) = (x.toNat : Int) / 2 by omega] at HZ
    clear hev
    go_enter Try.func115, Try.ntmps115
    go_wp2
    go_ret
    exact ⟨ret_int (by rw [HZ.out]), rfl⟩
end Go.Proofs.Ytfhoekcmkbeabaa
