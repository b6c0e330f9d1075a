
/-
  The statements' comparisons: num, same, lists, frames, peers, states.
-/
import Derived.Test.YtjepmckofocdnaaXoStated
namespace Go.Proofs.Ytjepmckofocdnaa
open Go.RowKit
set_option linter.unusedVariables false
set_option linter.unusedSimpArgs false

theorem take_succ_ne {xs ys : List B8} {k : Nat} (h1 : k < xs.length) (h2 : k < ys.length) (h : ¬ xs[k] = ys[k]) : ¬ xs = ys := by
  intro e
  subst e
  exact h rfl
theorem take_succ_eq' {xs ys : List B8} {k : Nat} (h1 : k < xs.length) (h2 : k < ys.length) (ht : xs.take k = ys.take k) (h : xs[k] = ys[k]) : xs.take (k + 1) = ys.take (k + 1) := by
  rw [List.take_succ_eq_append_getElem h1, List.take_succ_eq_append_getElem h2, ht, h]
theorem b8_ne (a b : B8) : (((a.toNat : Nat) : Int) != ((b.toNat : Nat) : Int)) = !decide (a = b) := by
  by_cases h : a = b
  · subst h; simp
  · have : (a.toNat : Int) ≠ (b.toNat : Int) := fun e => h (BitVec.eq_of_toNat_eq (by exact_mod_cast e))
    simp [h, this]

set_option maxHeartbeats 1000000 in
theorem same8_calls (a : Option Addr) (c : Nat) (xs : List B8) (b : Option Addr) (d : Nat) (ys : List B8) (hx : xs.length ≤ maxLen) (hy : ys.length ≤ maxLen) (w : World) (ha : Bs w a xs) (hb : Bs w b ys) :
    Calls Try.prog 25 #[.slice a xs.length c, .slice b ys.length d] w fun e w' => e = .returned (.bool (decide (xs = ys))) ∧ Dr w w' := by
  unfold maxLen at hx hy
  have HA := Lib.hid ha
  have HB := Lib.hid hb
  clear ha hb
  by_cases hl : xs.length = ys.length
  · have hl1 : ((xs.length : Int) != (ys.length : Int)) = false := by simp [hl]
    have HL := Lib.hid hl
    clear hl
    go_enter Try.func25, Try.ntmps25
    go_wp2
    clear hl1
    go_loopw [5] (fun i wr => ∃ k : Nat, k ≤ xs.length ∧ i = .int .i64 k ∧ Hid (xs.take k = ys.take k) ∧ Dr w wr) (fun i _ => xs.length - (intOf i).toNat)
    case atStart => exact ⟨0, Nat.zero_le _, rfl, Lib.hid (by simp), Dr.refl w⟩
    case round =>
      obtain ⟨k, hk, rfl, ht, ⟨m, rfl⟩⟩ := hrel
      by_cases hlt : k < xs.length
      · have hlt2 : k < ys.length := by have := HL.out; omega
        obtain ⟨x, rfl, hc⟩ := HA.out.at k hlt
        obtain ⟨y, rfl, hd⟩ := HB.out.at k hlt2
        have hne := b8_ne xs[k] ys[k]
        by_cases he : xs[k] = ys[k]
        · have hs := take_succ_eq' hlt hlt2 ht.out he
          have HS := Lib.hid hs
          clear hs
          rw [decide_eq_true he] at hne
          have HE := Lib.hid he
          clear he
          go_wp2
          go_quiet (fail)
          go_wp2
          go_roundw
          case rel => exact ⟨k + 1, by omega, by go_num, HS, (by first | exact Dr.one _ | exact Dr.step _ _)⟩
          case measure => simp [intOf]; omega
        · have hs := take_succ_ne hlt hlt2 he
          have HS := Lib.hid hs
          clear hs
          rw [decide_eq_false he] at hne
          have HE := Lib.hid he
          clear he
          go_wp2
          go_quiet (fail)
          go_wp2
          go_ret
          exact ⟨ret_bool (by simp [HS.out]), (by first | exact Dr.one _ | exact Dr.step _ _)⟩
      · have : k = xs.length := by omega
        subst this
        have h1 := ht.out
        have h2 := HL.out
        rw [List.take_length, h2, List.take_length] at h1
        have H1 := Lib.hid h1
        clear h1 h2
        go_wp2
        go_ret
        exact ⟨ret_bool (by simp [H1.out]), Dr.one m⟩
  · have hl1 : ((xs.length : Int) != (ys.length : Int)) = true := by simp; omega
    have HN : Hid (¬ xs = ys) := Lib.hid (fun e => hl (by rw [e]))
    clear hl
    go_enter Try.func25, Try.ntmps25
    go_wp2
    go_ret
    exact ⟨ret_bool (by simp [HN.out]), Dr.refl w⟩

theorem num8_calls (x : Int) (w : World) : Calls Try.prog 18 #[.int .i64 x] w fun e w' => e = .returned (.int .i64 x) ∧ w = w' := by
  go_enter Try.func18, Try.ntmps18
  go_wp2
  go_ret
  exact ⟨rfl, rfl⟩
theorem takeG_succ {α : Type} {xs ys : List α} {k : Nat} (h1 : k < xs.length) (h2 : k < ys.length) (ht : xs.take k = ys.take k) (h : xs[k] = ys[k]) : xs.take (k + 1) = ys.take (k + 1) := by
  rw [List.take_succ_eq_append_getElem h1, List.take_succ_eq_append_getElem h2, ht, h]
theorem takeG_ne {α : Type} {xs ys : List α} {k : Nat} (h1 : k < xs.length) (h2 : k < ys.length) (h : ¬ xs[k] = ys[k]) : ¬ xs = ys := by
  intro e
  subst e
  exact h rfl
set_option maxRecDepth 100000 in
set_option maxHeartbeats 1000000 in
theorem lists8_calls (a : Option Addr) (c : Nat) (xs : List (List B8)) (b : Option Addr) (d : Nat) (ys : List (List B8)) (hx : xs.length ≤ 4294967296) (hy : ys.length ≤ 4294967296) (w : World) (ha : Lists w a xs) (hb : Lists w b ys) :
    Calls Try.prog 75 #[.slice a xs.length c, .slice b ys.length d] w fun e w' => e = .returned (.bool (decide (xs = ys))) ∧ Dr w w' := by
  have HA := Lib.hid ha
  have HB := Lib.hid hb
  clear ha hb
  by_cases hl : xs.length = ys.length
  · have hl1 : ((xs.length : Int) != (ys.length : Int)) = false := by simp [hl]
    have HL := Lib.hid hl
    clear hl
    go_enter Try.func75, Try.ntmps75
    go_wp2
    clear hl1
    go_loopw [5] (fun i wr => ∃ k : Nat, k ≤ xs.length ∧ i = .int .i64 k ∧ Hid (xs.take k = ys.take k) ∧ Hid (Dr w wr)) (fun i _ => xs.length - (intOf i).toNat)
    case atStart => exact ⟨0, Nat.zero_le _, rfl, Lib.hid (by simp), Lib.hid (Dr.refl w)⟩
    case round =>
      obtain ⟨k, hk, rfl, ht, HD⟩ := hrel
      by_cases hlt : k < xs.length
      · have hlt2 : k < ys.length := by have := HL.out; omega
        obtain ⟨x, b1, c1, rfl, hc1, hb1, _, hn1⟩ := (HA.out.st (HD.out.st No)).get hlt
        obtain ⟨y, b2, c2, rfl, hc2, hb2, _, hn2⟩ := (HB.out.st (HD.out.st No)).get hlt2
        have hsm : ∀ n, Calls Try.prog 25 #[.slice b1 (xs[k]).length c1, .slice b2 (ys[k]).length c2] (wr.drewN n) fun e w'' => e = .returned (.bool (decide (xs[k] = ys[k]))) ∧ ∃ m, w'' = wr.drewN m := fun n =>
          (same8_calls b1 c1 xs[k] b2 c2 ys[k] (by unfold maxLen; omega) (by unfold maxLen; omega) _ (hb1.st (St.drewN No wr n) (Dj.no _)) (hb2.st (St.drewN No wr n) (Dj.no _))).mono (fun e w'' h => ⟨h.1, by obtain ⟨j, hj⟩ := h.2; exact ⟨n + j, by rw [hj]; unfold World.drewN; simp [Nat.add_assoc]⟩⟩)
        clear hb1 hb2
        by_cases he : xs[k] = ys[k]
        · have HS := Lib.hid (takeG_succ hlt hlt2 ht.out he)
          rw [decide_eq_true he] at hsm
          clear he
          generalize xs[k] = x0 at *
          generalize ys[k] = y0 at *
          go_wp2
          go_quiet ((go_at_call 25; exact hsm _))
          go_wp2
          go_roundw
          case rel => exact ⟨k + 1, by omega, by go_num, HS, Lib.hid (HD.out.drewN _)⟩
          case measure => simp [intOf]; omega
        · have HS := Lib.hid (takeG_ne hlt hlt2 he)
          rw [decide_eq_false he] at hsm
          clear he
          generalize xs[k] = x0 at *
          generalize ys[k] = y0 at *
          go_wp2
          go_quiet ((go_at_call 25; exact hsm _))
          go_wp2
          go_ret
          exact ⟨ret_bool (by simp [HS.out]), HD.out.drewN _⟩
      · have : k = xs.length := by omega
        subst this
        have h1 := ht.out
        have h2 := HL.out
        rw [List.take_length, h2, List.take_length] at h1
        have H1 := Lib.hid h1
        clear h1 h2
        go_wp2
        go_ret
        exact ⟨ret_bool (by simp [H1.out]), HD.out⟩
  · have hl1 : ((xs.length : Int) != (ys.length : Int)) = true := by simp; omega
    have HN : Hid (¬ xs = ys) := Lib.hid (fun e => hl (by rw [e]))
    clear hl
    go_enter Try.func75, Try.ntmps75
    go_wp2
    go_ret
    exact ⟨ret_bool (by simp [HN.out]), Dr.refl w⟩
end Go.Proofs.Ytjepmckofocdnaa
