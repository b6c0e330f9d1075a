
/-
  slices.BinarySearchFunc over frames, with come's comparison.
-/
import Derived.Test.YtjepmckofocdnaaXoAck
namespace Go.Proofs.Ytjepmckofocdnaa
open Go.RowKit
set_option linter.unusedVariables false
set_option linter.unusedSimpArgs false

def cmpI (sq t : Nat) : Int := if sq < t then -1 else if t < sq then 1 else 0
set_option maxRecDepth 100000 in
theorem come1_calls (w : World) (sq t : Nat) (b : Option Addr) (n c : Nat) : Calls Try.prog 90 #[.agg #[.int .u64 sq, .slice b n c], .int .u64 t] w fun e w' => e = .returned (.int .i64 (cmpI sq t)) ∧ St No w No w' := by
  have HS : Hid (St No w No (w.alloc (.cells #[.int .u64 sq, .slice b n c] 133))) := Lib.hid (St.alloc' No w _)
  by_cases h1 : sq < t
  · have HC : Hid (cmpI sq t = -1) := Lib.hid (by unfold cmpI; rw [if_pos h1])
    have i1 : (sq : Int) < (t : Int) := by omega
    go_enter Try.func90, Try.ntmps90
    go_wp2
    go_ret
    exact ⟨by rw [HC.out]; rfl, HS.out⟩
  · have i1 : ¬ (sq : Int) < (t : Int) := by omega
    by_cases h2 : t < sq
    · have HC : Hid (cmpI sq t = 1) := Lib.hid (by unfold cmpI; rw [if_neg h1, if_pos h2])
      have i2 : (t : Int) < (sq : Int) := by omega
      clear h1
      go_enter Try.func90, Try.ntmps90
      go_wp2
      go_ret
      exact ⟨by rw [HC.out]; rfl, HS.out⟩
    · have HC : Hid (cmpI sq t = 0) := Lib.hid (by unfold cmpI; rw [if_neg h1, if_neg h2])
      have i2 : ¬ (t : Int) < (sq : Int) := by omega
      go_enter Try.func90, Try.ntmps90
      go_wp2
      go_ret
      exact ⟨by rw [HC.out]; rfl, HS.out⟩
def SearchJ (w : World) (E : List (Nat × List B8)) (t : Nat) (e : Ending) (w' : World) : Prop :=
  ∃ i : Nat, i ≤ E.length ∧ e = .returned (.tuple #[.int .i64 i, .bool (decide ((E[i]?).map (·.1) = some t))]) ∧ (∀ (k : Nat) (f : Nat × List B8), E[k]? = some f → k < i → f.1 < t) ∧ (∀ (k : Nat) (f : Nat × List B8), E[k]? = some f → i ≤ k → t ≤ f.1) ∧ St No w No w'
set_option maxRecDepth 100000 in
set_option maxHeartbeats 2000000 in
theorem search_calls (w : World) (a : Option Addr) (c : Nat) (E : List (Nat × List B8)) (t : Nat) (h : Frs w a E) (hE : E.Pairwise fun f g => f.1 < g.1) (hl : E.length ≤ 65536) :
    Calls Try.prog 89 #[.slice a E.length c, .int .u64 t, .func (.func 90) #[] #[]] w (SearchJ w E t) := by
  have H := Lib.hid h
  have HE : Hid (∀ (i j : Nat) (f g : Nat × List B8), E[i]? = some f → E[j]? = some g → i ≤ j → f.1 ≤ g.1) := Lib.hid (fun i j f g hi hj hij => by
    rcases Nat.lt_or_eq_of_le hij with hlt | rfl
    · have h1 := (List.getElem?_eq_some_iff.1 hi)
      have h2 := (List.getElem?_eq_some_iff.1 hj)
      have := List.pairwise_iff_getElem.1 hE i j h1.1 h2.1 hlt
      rw [h1.2, h2.2] at this
      exact Nat.le_of_lt this
    · rw [hi] at hj; cases hj; exact Nat.le_refl _)
  clear h hE
  go_enter Try.func89, Try.ntmps89
  go_wp2
  go_loopw [9, 10] (fun vi vj wr => ∃ i j : Nat, i ≤ j ∧ j ≤ E.length ∧ vi = .int .i64 i ∧ vj = .int .i64 j ∧ Hid (∀ (k : Nat) (f : Nat × List B8), E[k]? = some f → k < i → f.1 < t) ∧ Hid (∀ (k : Nat) (f : Nat × List B8), E[k]? = some f → j ≤ k → t ≤ f.1) ∧ Hid (St No w No wr)) (fun vi vj _ => (intOf vj).toNat - (intOf vi).toNat)
  case atStart => exact ⟨0, E.length, Nat.zero_le _, Nat.le_refl _, rfl, rfl, Lib.hid (fun k f _ hk => by omega), Lib.hid (fun k f hf hk => by have := (List.getElem?_eq_some_iff.1 hf).1; omega), Lib.hid (St.refl _ _)⟩
  case round =>
    obtain ⟨i, j, hij, hj, rfl, rfl, HI, HJ, HS⟩ := hrel
    by_cases hlt : i < j
    · obtain ⟨m, hm⟩ : ∃ m, m = (i + j) / 2 := ⟨_, rfl⟩
      have hm1 : i ≤ m ∧ m < j := by omega
      have HM := Lib.hid hm
      have hml : m < E.length := by omega
      have w1 : IntKind.i64.wrap ((i : Int) + (j : Int)) = (i : Int) + (j : Int) := IntWalk.i64_in _ (by omega)
      have w2 : IntKind.u64.wrap ((i : Int) + (j : Int)) = (i : Int) + (j : Int) := by rw [wrap_u64]; omega
      have w3 : ((i : Int) + (j : Int)) / 2 = (m : Int) := by omega
      have w4 : IntKind.i64.wrap (m : Int) = (m : Int) := IntWalk.i64_in _ (by omega)
      have w5 : IntKind.u64.wrap (m : Int) = (m : Int) := by rw [wrap_u64]; omega
      obtain ⟨y, b, d, rfl, hcs, hcx, _, _, _⟩ := (H.out.st HS.out).get hml
      have hgm := List.getElem?_eq_getElem hml
      generalize E[m] = fr at *
      obtain ⟨sq, bs⟩ := fr
      simp only at hcs hcx
      have c0 : wr.cell? (y.add (m * 2)) = some (.int .u64 (sq : Int)) := hcs
      have c1 : wr.cell? ⟨(y.add (m * 2)).block, (y.add (m * 2)).off + 1, none⟩ = some (.slice b bs.length d) := hcx
      have HG := Lib.hid hgm
      have hml2 : (m : Int) < (E.length : Int) := by omega
      clear hcs hcx hgm hm
      go_wp2_with fail
      refine (come1_calls wr sq t b bs.length d).mono ?_
      rintro r w6 ⟨rfl, hs6⟩
      have HS6 := Lib.hid (HS.out.trans hs6)
      clear hs6
      by_cases hq : sq < t
      · have HC : Hid (cmpI sq t = -1) := Lib.hid (by unfold cmpI; rw [if_pos hq])
        have HIN : Hid (∀ (k : Nat) (f : Nat × List B8), E[k]? = some f → k < m + 1 → f.1 < t) := Lib.hid (fun k f hf hk => Nat.lt_of_le_of_lt (HE.out k m f (sq, bs) hf HG.out (by omega)) hq)
        rw [HC.out]
        clear hq
        go_wp2
        exact ⟨⟨m + 1, j, by omega, hj, by go_num, rfl, HIN, HJ, HS6⟩, by simp [intOf]; omega⟩
      · have HC : Hid (cmpI sq t = 0 ∨ cmpI sq t = 1) := Lib.hid (by unfold cmpI; rw [if_neg hq]; by_cases h2 : t < sq; exact .inr (if_pos h2); exact .inl (if_neg h2))
        have HJN : Hid (∀ (k : Nat) (f : Nat × List B8), E[k]? = some f → m ≤ k → t ≤ f.1) := Lib.hid (fun k f hf hk => Nat.le_trans (by show t ≤ sq; omega) (HE.out m k (sq, bs) f HG.out hf hk))
        clear hq
        rcases HC.out with hc | hc
        all_goals
          rw [hc]
          clear hc
          go_wp2
          exact ⟨⟨i, m, hm1.1, by omega, rfl, rfl, HI, HJN, HS6⟩, by simp [intOf]; omega⟩
    · obtain rfl : i = j := by omega
      by_cases hie : i < E.length
      · obtain ⟨y, b, d, rfl, hcs, hcx, _, _, _⟩ := (H.out.st HS.out).get hie
        have hgm := List.getElem?_eq_getElem hie
        generalize E[i] = fr at *
        obtain ⟨sq, bs⟩ := fr
        simp only at hcs hcx
        have c0 : wr.cell? (y.add (i * 2)) = some (.int .u64 (sq : Int)) := hcs
        have c1 : wr.cell? ⟨(y.add (i * 2)).block, (y.add (i * 2)).off + 1, none⟩ = some (.slice b bs.length d) := hcx
        have HG := Lib.hid hgm
        have hie2 : (i : Int) < (E.length : Int) := by omega
        clear hcs hcx hgm
        go_wp2_with fail
        refine (come1_calls wr sq t b bs.length d).mono ?_
        rintro r w6 ⟨rfl, hs6⟩
        have HS6 := Lib.hid (HS.out.trans hs6)
        clear hs6
        have hge := HJ.out i (sq, bs) HG.out (Nat.le_refl _)
        by_cases hq : sq = t
        · have hc : cmpI sq t = 0 := by unfold cmpI; rw [if_neg (by omega), if_neg (by omega)]
          have HB : Hid (decide ((E[i]?).map (·.1) = some t) = true) := Lib.hid (decide_eq_true (by rw [HG.out]; show some sq = some t; rw [hq]))
          rw [hc]
          clear hc hq hge
          go_wp2
          go_ret2
          exact ⟨i, hj, by rw [HB.out]; rfl, HI.out, HJ.out, HS6.out⟩
        · have hc : cmpI sq t = 1 := by unfold cmpI; rw [if_neg (by have : t ≤ sq := hge; omega), if_pos (by have : t ≤ sq := hge; omega)]
          have HB : Hid (decide ((E[i]?).map (·.1) = some t) = false) := Lib.hid (decide_eq_false (by rw [HG.out]; show ¬ some sq = some t; exact fun e => hq (Option.some.inj e)))
          rw [hc]
          clear hc hq hge
          go_wp2
          go_ret2
          exact ⟨i, hj, by rw [HB.out]; rfl, HI.out, HJ.out, HS6.out⟩
      · obtain rfl : i = E.length := by omega
        have HB : Hid (decide ((E[E.length]?).map (·.1) = some t) = false) := Lib.hid (decide_eq_false (by rw [List.getElem?_eq_none (Nat.le_refl _)]; exact fun e => by cases e))
        go_wp2
        go_ret2
        exact ⟨E.length, hj, by rw [HB.out]; rfl, HI.out, HJ.out, HS.out⟩
end Go.Proofs.Ytjepmckofocdnaa
