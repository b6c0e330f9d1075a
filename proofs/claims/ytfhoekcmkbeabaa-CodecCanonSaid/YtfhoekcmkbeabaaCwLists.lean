
/-
  The walks over the small functions of the statements' package on lists of bytes: same, two.
-/
import Derived.Test.YtfhoekcmkbeabaaBytes
namespace Go.Proofs.Ytfhoekcmkbeabaa
open Go.RowKit
set_option linter.unusedVariables false

theorem take_succ_ne {xs ys : List B8} {k : Nat} (h1 : k < xs.length) (h2 : k < ys.length) (h : ¬ xs[k] = ys[k]) : ¬ xs = ys := by
  intro e
  subst e
  exact h rfl
theorem take_succ_eq' {xs ys : List B8} {k : Nat} (h1 : k < xs.length) (h2 : k < ys.length) (ht : xs.take k = ys.take k) (h : xs[k] = ys[k]) : xs.take (k + 1) = ys.take (k + 1) := by
  rw [List.take_succ_eq_append_getElem h1, List.take_succ_eq_append_getElem h2, ht, h]
theorem b8_ne (a b : B8) : (((a.toNat : Nat) : Int) != ((b.toNat : Nat) : Int)) = !decide (a = b) := by
  by_cases h : a = b
  · subst h; simp
  · have : (a.toNat : Int) ≠ (b.toNat : Int) := fun e => h (BitVec.eq_of_toNat_eq (by exact_mod_cast e))
    simp [h, this]

set_option maxHeartbeats 1000000 in
theorem same_calls (a : Option Addr) (c : Nat) (xs : List B8) (b : Option Addr) (d : Nat) (ys : List B8) (hx : xs.length ≤ maxLen) (hy : ys.length ≤ maxLen) (w : World) (ha : Bs w a xs) (hb : Bs w b ys) :
    Calls Try.prog 17 #[.slice a xs.length c, .slice b ys.length d] w fun e w' => e = .returned (.bool (decide (xs = ys))) ∧ Dr w w' := by
  unfold maxLen at hx hy
  have HA := Lib.hid ha
  have HB := Lib.hid hb
  clear ha hb
  by_cases hl : xs.length = ys.length
  · have hl1 : ((xs.length : Int) != (ys.length : Int)) = false := by simp [hl]
    have HL := Lib.hid hl
    clear hl
    go_enter Try.func17, Try.ntmps17
    go_wp2
    clear hl1
    go_loopw [5] (fun i wr => ∃ k : Nat, k ≤ xs.length ∧ i = .int .i64 k ∧ Hid (xs.take k = ys.take k) ∧ Dr w wr) (fun i _ => xs.length - (intOf i).toNat)
    case atStart => exact ⟨0, Nat.zero_le _, rfl, Lib.hid (by simp), Dr.refl w⟩
    case round =>
      obtain ⟨k, hk, rfl, ht, ⟨m, rfl⟩⟩ := hrel
      by_cases hlt : k < xs.length
      · have hlt2 : k < ys.length := by have := HL.out; omega
        obtain ⟨x, rfl, hc⟩ := HA.out.at k hlt
        obtain ⟨y, rfl, hd⟩ := HB.out.at k hlt2
        have hne := b8_ne xs[k] ys[k]
        by_cases he : xs[k] = ys[k]
        · have hs := take_succ_eq' hlt hlt2 ht.out he
          have HS := Lib.hid hs
          clear hs
          rw [decide_eq_true he] at hne
          have HE := Lib.hid he
          clear he
          go_wp2
          go_quiet (fail)
          go_wp2
          go_roundw
          case rel => exact ⟨k + 1, by omega, by go_num, HS, (by first | exact Dr.one _ | exact Dr.step _ _)⟩
          case measure => simp [intOf]; omega
        · have hs := take_succ_ne hlt hlt2 he
          have HS := Lib.hid hs
          clear hs
          rw [decide_eq_false he] at hne
          have HE := Lib.hid he
          clear he
          go_wp2
          go_quiet (fail)
          go_wp2
          go_ret
          exact ⟨ret_bool (by simp [HS.out]), (by first | exact Dr.one _ | exact Dr.step _ _)⟩
      · have : k = xs.length := by omega
        subst this
        have h1 := ht.out
        have h2 := HL.out
        rw [List.take_length, h2, List.take_length] at h1
        have H1 := Lib.hid h1
        clear h1 h2
        go_wp2
        go_ret
        exact ⟨ret_bool (by simp [H1.out]), Dr.one m⟩
  · have hl1 : ((xs.length : Int) != (ys.length : Int)) = true := by simp; omega
    have HN : Hid (¬ xs = ys) := Lib.hid (fun e => hl (by rw [e]))
    clear hl
    go_enter Try.func17, Try.ntmps17
    go_wp2
    go_ret
    exact ⟨ret_bool (by simp [HN.out]), Dr.refl w⟩

set_option maxRecDepth 100000 in
set_option maxHeartbeats 1000000 in
/-- a new list: the one, then the other -/
theorem two_calls (a : Option Addr) (c : Nat) (xs : List B8) (b : Option Addr) (d : Nat) (ys : List B8) (hac : a = none → c = 0) (hbc : b = none → d = 0) (hl : xs.length + ys.length ≤ 140737488355328) (w : World) (ha : Bs w a xs) (hb : Bs w b ys) :
    Calls Try.prog 29 #[.slice a xs.length c, .slice b ys.length d] w fun e w' => ∃ v, e = .returned v ∧ OwB w' v (xs ++ ys) ∧ St No w (fpV v) w' ∧ ∃ g cap, v = .slice (some ⟨g, 0, none⟩) (xs ++ ys).length cap := by
  have HA := Lib.hid ha
  have HB := Lib.hid hb
  clear ha hb
  go_enter Try.func29, Try.ntmps29
  go_wp2_with (first
    | (at_make; refine wpList_makeB rfl (.const (.int .i64 0)) (.tmp 10) rfl .i64 .i64 0 ((xs.length : Int) + (ys.length : Int)) 0 (xs.length + ys.length) rfl rfl rfl (by simp) (Nat.zero_le _) (by omega) ?_; intro w1 ho1 hob1 hs1)
    | (at_builtin; refine wpList_appB rfl (.tmp 12) (.tmp 13) rfl _ [] rfl ho1 a xs.length c xs rfl rfl (HA.out.st hs1 (Dj.no _)) hac (by simp; omega) ?_; intro v2 w2 ho2 hs2 hn2; have HN2 := Lib.hid hn2; clear hn2)
    | (at_builtin; refine wpList_appB rfl (.tmp 15) (.tmp 16) rfl v2 ([] ++ xs) rfl ho2 b ys.length d ys rfl rfl (HB.out.st (hs1.trans hs2) (Dj.no _)) hbc (by simp; omega) ?_; intro v3 w3 ho3 hs3 hn3; have HN3 := Lib.hid hn3; clear hn3))
  go_ret
  rw [List.nil_append] at ho3
  refine ⟨v3, rfl, ho3, hs1.trans (hs2.trans hs3), ?_⟩
  rcases ho3.2 with ⟨rfl, _⟩ | ⟨g, cap, cur, rfl, _⟩
  · exfalso
    have h3 := (HN3.out.1 rfl).1
    have h2 := (HN2.out.1 h3).1
    cases h2
  · exact ⟨g, cap, rfl⟩

end Go.Proofs.Ytfhoekcmkbeabaa
