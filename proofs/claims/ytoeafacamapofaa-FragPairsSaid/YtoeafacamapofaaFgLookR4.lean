
/-
  The walk over the reference's Look.
-/
import Derived.Test.YtoeafacamapofaaFgLookR1
import Derived.Test.YtoeafacamapofaaFgLookR2
import Derived.Test.YtoeafacamapofaaFgLookR3
namespace Go.Proofs.Ytoeafacamapofaa
open Go.RowKit
set_option linter.unusedVariables false
set_option linter.unusedSimpArgs false

set_option maxRecDepth 100000 in
set_option maxHeartbeats 2000000 in
theorem refLook_calls (a : Option Addr) (c : Nat) (d : List B8) (hl : d.length ≤ 140737488351300) (hlc : d.length ≤ c) (hcm : c ≤ maxLen) (w : World) (ha : Bs w a d) :
    Calls Try.prog 47 #[.slice a d.length c] w (FOut w (lookF d) (lookE d)) := by
  have hu := Try.underlying73
  have HE : Hid (lookE d = if d.length < 19 ∨ 1024 < d.length ∨ d[0]? ≠ some 214#8 ∨ d[1]? ≠ some 1#8 then 42
    else if (crcB (d.take (d.length - 4))).setWidth 64 ≠ numB ((d.drop (d.length - 4)).take 4) then 43
    else if shapedN (readF d).total (readF d).count (readF d).index (d.length - 18) then 0 else 42) := Lib.hid rfl
  unfold maxLen at hcm
  by_cases h1 : d.length < 19
  · rw [if_pos (.inl h1)] at HE
    have g1 : decide ((d.length : Int) < 19) = true := decide_eq_true (by omega)
    have g2 : decide (d.length < 19) = true := decide_eq_true (by omega)
    clear ha
    go_enter Try.func47, Try.ntmps47
    go_wp2
    exact bodyPost_ret (v := .tuple #[.agg #[.int .u64 0, .int .i64 0, .int .i64 0, .int .i64 0, .slice none 0 0], .int .i64 42]) (by simp [results, Try.results47, go_sem]) rfl (FOut.bad HE.out (by decide) (St.alloc' No w _))
  have g1 : decide ((d.length : Int) < 19) = false := decide_eq_false (by omega)
  have g2 : decide (d.length < 19) = false := decide_eq_false (by omega)
  by_cases h2 : 1024 < d.length
  · rw [if_pos (.inr (.inl h2))] at HE
    have g3 : decide (1024 < (d.length : Int)) = true := decide_eq_true (by omega)
    have g4 : decide (1024 < d.length) = true := decide_eq_true (by omega)
    clear ha
    go_enter Try.func47, Try.ntmps47
    go_wp2
    exact bodyPost_ret (v := .tuple #[.agg #[.int .u64 0, .int .i64 0, .int .i64 0, .int .i64 0, .slice none 0 0], .int .i64 42]) (by simp [results, Try.results47, go_sem]) rfl (FOut.bad HE.out (by decide) (St.alloc' No w _))
  have g3 : decide (1024 < (d.length : Int)) = false := decide_eq_false (by omega)
  have g4 : decide (1024 < d.length) = false := decide_eq_false (by omega)
  have HA1 := Lib.hid (ha.st (St.alloc' No w (.cells #[.int .u64 0, .int .i64 0, .int .i64 0, .int .i64 0, .slice none 0 0] 73)) (Dj.no _))
  obtain ⟨y, rfl, hz⟩ := HA1.out.at 0 (by omega)
  clear hz
  by_cases h3 : d[0]? = some 214#8
  · by_cases h4 : d[1]? = some 1#8
    · clear g1 g2 g3 g4 HE
      by_cases hq : (crcB (d.take (d.length - 4))).setWidth 64 = numB ((d.drop (d.length - 4)).take 4)
      · by_cases hp : 1 ≤ (readF d).total ∧ (readF d).total ≤ 4096 ∧ 1 ≤ (readF d).count ∧ (readF d).count ≤ 128 ∧ (readF d).index < (readF d).count
        · exact refLook_rest y c d h1 h2 hlc (by omega) w ha h3 h4 hq hp
        · exact refLook_noshape y c d h1 h2 hlc (by omega) w ha h3 h4 hq hp
      · exact refLook_nosum y c d h1 h2 hlc (by omega) w ha h3 h4 hq
    · rw [if_pos (.inr (.inr (.inr h4)))] at HE
      have e0 : d[0]'(by omega) = 214#8 := by rw [List.getElem?_eq_getElem (by omega)] at h3; exact Option.some.inj h3
      have hc1 := HA1.out.lit 0 (by omega)
      have hc0 := HA1.out.lit0 (by omega)
      simp only [Nat.zero_add] at hc1
      rw [e0] at hc0
      replace hc0 : (w.alloc (.cells #[.int .u64 0, .int .i64 0, .int .i64 0, .int .i64 0, .slice none 0 0] 73)).cell? y = some (.int .u8 214) := hc0
      rw [List.getElem?_eq_getElem (by omega)] at h4
      have n1 : (((d[1].toNat : Nat) : Int) != 1) = _ := b8_ne_lit d[1] 1 (by omega)
      rw [decide_eq_false (fun e => h4 (congrArg some e)), Bool.not_false] at n1
      generalize d[1]'(by omega) = b1 at *
      clear h3 h4 e0 ha
      go_enter Try.func47, Try.ntmps47
      go_wp2
      exact bodyPost_ret (v := .tuple #[.agg #[.int .u64 0, .int .i64 0, .int .i64 0, .int .i64 0, .slice none 0 0], .int .i64 42]) (by simp [results, Try.results47, go_sem]) rfl (FOut.bad HE.out (by decide) (St.alloc' No w _))
  · rw [if_pos (.inr (.inr (.inl h3)))] at HE
    have hc1 := HA1.out.lit 0 (by omega)
    have hc0 := HA1.out.lit0 (by omega)
    simp only [Nat.zero_add] at hc1
    rw [List.getElem?_eq_getElem (by omega)] at h3
    have n0 : (((d[0].toNat : Nat) : Int) != 214) = _ := b8_ne_lit d[0] 214 (by omega)
    rw [decide_eq_false (fun e => h3 (congrArg some e)), Bool.not_false] at n0
    generalize d[0]'(by omega) = b0 at *
    clear h3 ha
    go_enter Try.func47, Try.ntmps47
    go_wp2
    exact bodyPost_ret (v := .tuple #[.agg #[.int .u64 0, .int .i64 0, .int .i64 0, .int .i64 0, .slice none 0 0], .int .i64 42]) (by simp [results, Try.results47, go_sem]) rfl (FOut.bad HE.out (by decide) (St.alloc' No w _))
end Go.Proofs.Ytoeafacamapofaa
