
/-
  The walks over the program's shaped and Look.
-/
import Derived.Test.YtoeafacamapofaaFgLookR
import Derived.Test.YtoeafacamapofaaFgProg
import Derived.Test.YtoeafacamapofaaCwReader4
namespace Go.Proofs.Ytoeafacamapofaa
open Go.RowKit
set_option linter.unusedVariables false
set_option linter.unusedSimpArgs false

def BoolOut (w : World) (b : Bool) (e : Ending) (w' : World) : Prop := e = .returned (.bool b) ∧ St No w No w'
set_option maxRecDepth 100000 in
set_option maxHeartbeats 2000000 in
theorem shaped_calls (f : Fg) (a : Option Addr) (c : Nat) (hi : f.index ≤ 255) (hc : f.count ≤ 255) (ht : f.total ≤ 65535) (hp : f.part.length ≤ 1024) (w : World) :
    Calls Try.prog 87 #[.agg (f.cells a c)] w (BoolOut w (decide (shapedN f.total f.count f.index f.part.length))) := by
  obtain ⟨id, I, C, T, part⟩ := f
  simp only at hi hc ht hp
  unfold Fg.cells
  simp only
  generalize part.length = L at *
  have HS : Hid (shapedN T C I L ↔ 1 ≤ T ∧ T ≤ 4096 ∧ 1 ≤ C ∧ C ≤ 128 ∧ I < C ∧ (C - 1) * sizeN T C < T ∧ L = if I < C - 1 then sizeN T C else T - (C - 1) * sizeN T C) := Lib.hid Iff.rfl
  have HST := Lib.hid (St.alloc' No w (.cells #[.int .u64 (id.toNat : Int), .int .i64 (I : Int), .int .i64 (C : Int), .int .i64 (T : Int), .slice a L c] 70))
  by_cases s1 : T < 1
  · have t1 : decide ((T : Int) < 1) = true := decide_eq_true (by omega)
    have t1' : decide (T < 1) = true := decide_eq_true (by omega)
    have HN : Hid (decide (shapedN T C I L) = false) := Lib.hid (decide_eq_false (fun h => by have := HS.out.1 h; omega))
    clear s1
    go_enter Try.func87, Try.ntmps87
    go_wp2
    go_ret
    exact ⟨by rw [HN.out]; rfl, HST.out⟩
  have t1 : decide ((T : Int) < 1) = false := decide_eq_false (by omega)
  have t1' : decide (T < 1) = false := decide_eq_false (by omega)
  by_cases s2 : 4096 < T
  · have t2 : decide (4096 < (T : Int)) = true := decide_eq_true (by omega)
    have HN : Hid (decide (shapedN T C I L) = false) := Lib.hid (decide_eq_false (fun h => by have := HS.out.1 h; omega))
    clear s1 s2
    go_enter Try.func87, Try.ntmps87
    go_wp2
    go_ret
    exact ⟨by rw [HN.out]; rfl, HST.out⟩
  have t2 : decide (4096 < (T : Int)) = false := decide_eq_false (by omega)
  by_cases s3 : C < 1
  · have t3 : decide ((C : Int) < 1) = true := decide_eq_true (by omega)
    have t3' : decide (C < 1) = true := decide_eq_true (by omega)
    have HN : Hid (decide (shapedN T C I L) = false) := Lib.hid (decide_eq_false (fun h => by have := HS.out.1 h; omega))
    clear s1 s2 s3
    go_enter Try.func87, Try.ntmps87
    go_wp2
    go_ret
    exact ⟨by rw [HN.out]; rfl, HST.out⟩
  have t3 : decide ((C : Int) < 1) = false := decide_eq_false (by omega)
  have t3' : decide (C < 1) = false := decide_eq_false (by omega)
  by_cases s4 : 128 < C
  · have t4 : decide (128 < (C : Int)) = true := decide_eq_true (by omega)
    have HN : Hid (decide (shapedN T C I L) = false) := Lib.hid (decide_eq_false (fun h => by have := HS.out.1 h; omega))
    clear s1 s2 s3 s4
    go_enter Try.func87, Try.ntmps87
    go_wp2
    go_ret
    exact ⟨by rw [HN.out]; rfl, HST.out⟩
  have t4 : decide (128 < (C : Int)) = false := decide_eq_false (by omega)
  by_cases s5 : C ≤ I
  · have t5 : decide ((C : Int) ≤ (I : Int)) = true := decide_eq_true (by omega)
    have t5' : decide (C ≤ I) = true := decide_eq_true (by omega)
    have HN : Hid (decide (shapedN T C I L) = false) := Lib.hid (decide_eq_false (fun h => by have := HS.out.1 h; omega))
    clear s1 s2 s3 s4 s5
    go_enter Try.func87, Try.ntmps87
    go_wp2
    go_ret
    exact ⟨by rw [HN.out]; rfl, HST.out⟩
  have t5 : decide ((C : Int) ≤ (I : Int)) = false := decide_eq_false (by omega)
  have t5' : decide (C ≤ I) = false := decide_eq_false (by omega)
  have hS : sizeN T C ≤ 4096 := (ceil_le (by omega)).2 (by have := Nat.mul_le_mul_left 4096 (show 1 ≤ C by omega); omega)
  have HSZ := Lib.hid (fun w => sizeOf_calls T C (by omega) (by omega) (by omega) w)
  generalize sizeN T C = S at *
  have hm : (C - 1) * S ≤ 128 * 4096 := Nat.mul_le_mul (by omega) hS
  have hw1 : IntKind.i64.wrap (((C : Int) - 1) * (S : Int)) = (((C - 1) * S : Nat) : Int) := by
    have e : (((C - 1) * S : Nat) : Int) = ((C : Int) - 1) * (S : Int) := by rw [Int.natCast_mul, Int.natCast_sub (by omega)]; rfl
    rw [IntKind.wrap_i64, ← e]; omega
  generalize (C - 1) * S = M at *
  by_cases s6 : M < T
  · by_cases s7 : I < C - 1
    · have HN : Hid (shapedN T C I L ↔ L = S) := Lib.hid (by rw [HS.out, if_pos s7]; omega)
      by_cases s8 : L = S
      · have HN2 : Hid (decide (shapedN T C I L) = true) := Lib.hid (decide_eq_true (HN.out.2 s8))
        have hb : ((L : Int) == (S : Int)) = true := by rw [s8]; simp
        have hb2 : (L == S) = true := by rw [s8]; simp
        clear s8
        go_enter Try.func87, Try.ntmps87
        go_wp2_with (go_at_call 70; refine (HSZ.out _).mono ?_; rintro e w1 ⟨rfl, rfl⟩)
        go_ret
        exact ⟨by rw [HN2.out]; rfl, HST.out⟩
      · have HN2 : Hid (decide (shapedN T C I L) = false) := Lib.hid (decide_eq_false (fun h => s8 (HN.out.1 h)))
        have hb : ((L : Int) == (S : Int)) = false := beq_eq_false_iff_ne.2 (by omega)
        have hb2 : (L == S) = false := beq_eq_false_iff_ne.2 s8
        clear s8
        go_enter Try.func87, Try.ntmps87
        go_wp2_with (go_at_call 70; refine (HSZ.out _).mono ?_; rintro e w1 ⟨rfl, rfl⟩)
        go_ret
        exact ⟨by rw [HN2.out]; rfl, HST.out⟩
    · have HN : Hid (shapedN T C I L ↔ L = T - M) := Lib.hid (by rw [HS.out, if_neg s7]; omega)
      by_cases s8 : L = T - M
      · have HN2 : Hid (decide (shapedN T C I L) = true) := Lib.hid (decide_eq_true (HN.out.2 s8))
        have hb : ((L : Int) == (T : Int) - (M : Int)) = true := by rw [beq_iff_eq]; omega
        clear s8
        go_enter Try.func87, Try.ntmps87
        go_wp2_with (go_at_call 70; refine (HSZ.out _).mono ?_; rintro e w1 ⟨rfl, rfl⟩)
        go_ret
        exact ⟨by rw [HN2.out]; rfl, HST.out⟩
      · have HN2 : Hid (decide (shapedN T C I L) = false) := Lib.hid (decide_eq_false (fun h => s8 (HN.out.1 h)))
        have hb : ((L : Int) == (T : Int) - (M : Int)) = false := beq_eq_false_iff_ne.2 (by omega)
        clear s8
        go_enter Try.func87, Try.ntmps87
        go_wp2_with (go_at_call 70; refine (HSZ.out _).mono ?_; rintro e w1 ⟨rfl, rfl⟩)
        go_ret
        exact ⟨by rw [HN2.out]; rfl, HST.out⟩
  · have HN : Hid (decide (shapedN T C I L) = false) := Lib.hid (decide_eq_false (fun h => by have := HS.out.1 h; omega))
    go_enter Try.func87, Try.ntmps87
    go_wp2_with (go_at_call 70; refine (HSZ.out _).mono ?_; rintro e w1 ⟨rfl, rfl⟩)
    go_ret
    exact ⟨by rw [HN.out]; rfl, HST.out⟩
end Go.Proofs.Ytoeafacamapofaa
