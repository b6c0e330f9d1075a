
/-
  The walk over the statements' same.
-/
import Derived.Test.YtoeafacamapofaaBytes
namespace Go.Proofs.Ytoeafacamapofaa
open Go.RowKit
set_option linter.unusedVariables false

theorem ltake_succ_ne {xs ys : List B8} {k : Nat} (h1 : k < xs.length) (h2 : k < ys.length) (h : ¬ xs[k] = ys[k]) : ¬ xs = ys := by
  intro e
  subst e
  exact h rfl
theorem ltake_succ_eq' {xs ys : List B8} {k : Nat} (h1 : k < xs.length) (h2 : k < ys.length) (ht : xs.take k = ys.take k) (h : xs[k] = ys[k]) : xs.take (k + 1) = ys.take (k + 1) := by
  rw [List.take_succ_eq_append_getElem h1, List.take_succ_eq_append_getElem h2, ht, h]
theorem lb8_ne (a b : B8) : (((a.toNat : Nat) : Int) != ((b.toNat : Nat) : Int)) = !decide (a = b) := by
  by_cases h : a = b
  · subst h; simp
  · have : (a.toNat : Int) ≠ (b.toNat : Int) := fun e => h (BitVec.eq_of_toNat_eq (by exact_mod_cast e))
    simp [h, this]

set_option maxHeartbeats 1000000 in
theorem lsame_calls (a : Option Addr) (c : Nat) (xs : List B8) (b : Option Addr) (d : Nat) (ys : List B8) (hx : xs.length ≤ maxLen) (hy : ys.length ≤ maxLen) (w : World) (ha : Bs w a xs) (hb : Bs w b ys) :
    Calls Try.prog 26 #[.slice a xs.length c, .slice b ys.length d] w fun e w' => e = .returned (.bool (decide (xs = ys))) ∧ Dr w w' := by
  unfold maxLen at hx hy
  have HA := Lib.hid ha
  have HB := Lib.hid hb
  clear ha hb
  by_cases hl : xs.length = ys.length
  · have hl1 : ((xs.length : Int) != (ys.length : Int)) = false := by simp [hl]
    have HL := Lib.hid hl
    clear hl
    go_enter Try.func26, Try.ntmps26
    go_wp2
    clear hl1
    go_loopw [5] (fun i wr => ∃ k : Nat, k ≤ xs.length ∧ i = .int .i64 k ∧ Hid (xs.take k = ys.take k) ∧ Dr w wr) (fun i _ => xs.length - (intOf i).toNat)
    case atStart => exact ⟨0, Nat.zero_le _, rfl, Lib.hid (by simp), Dr.refl w⟩
    case round =>
      obtain ⟨k, hk, rfl, ht, ⟨m, rfl⟩⟩ := hrel
      by_cases hlt : k < xs.length
      · have hlt2 : k < ys.length := by have := HL.out; omega
        obtain ⟨x, rfl, hc⟩ := HA.out.at k hlt
        obtain ⟨y, rfl, hd⟩ := HB.out.at k hlt2
        have hne := lb8_ne xs[k] ys[k]
        by_cases he : xs[k] = ys[k]
        · have hs := ltake_succ_eq' hlt hlt2 ht.out he
          have HS := Lib.hid hs
          clear hs
          rw [decide_eq_true he] at hne
          have HE := Lib.hid he
          clear he
          go_wp2
          go_quiet (fail)
          go_wp2
          go_roundw
          case rel => exact ⟨k + 1, by omega, by go_num, HS, (by first | exact Dr.one _ | exact Dr.step _ _)⟩
          case measure => simp [intOf]; omega
        · have hs := ltake_succ_ne hlt hlt2 he
          have HS := Lib.hid hs
          clear hs
          rw [decide_eq_false he] at hne
          have HE := Lib.hid he
          clear he
          go_wp2
          go_quiet (fail)
          go_wp2
          go_ret
          exact ⟨ret_bool (by simp [HS.out]), (by first | exact Dr.one _ | exact Dr.step _ _)⟩
      · have : k = xs.length := by omega
        subst this
        have h1 := ht.out
        have h2 := HL.out
        rw [List.take_length, h2, List.take_length] at h1
        have H1 := Lib.hid h1
        clear h1 h2
        go_wp2
        go_ret
        exact ⟨ret_bool (by simp [H1.out]), Dr.one m⟩
  · have hl1 : ((xs.length : Int) != (ys.length : Int)) = true := by simp; omega
    have HN : Hid (¬ xs = ys) := Lib.hid (fun e => hl (by rw [e]))
    clear hl
    go_enter Try.func26, Try.ntmps26
    go_wp2
    go_ret
    exact ⟨ret_bool (by simp [HN.out]), Dr.refl w⟩
end Go.Proofs.Ytoeafacamapofaa
