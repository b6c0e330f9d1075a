
/-
  fits; the closure of lay.
-/
import Derived.Test.YtjepmckofocdnaaXoLay
namespace Go.Proofs.Ytjepmckofocdnaa
open Go.RowKit
set_option linter.unusedVariables false
set_option linter.unusedSimpArgs false

def fitsB (s h q n : Int) : Bool := decide (1 ≤ h ∧ h ≤ 16 ∧ s < h ∧ 1 ≤ q ∧ q ≤ 16 ∧ 1 ≤ n ∧ n ≤ q)
set_option maxRecDepth 100000 in
set_option maxHeartbeats 1000000 in
theorem fits_calls (s h q n : Int) (hs : 0 ≤ s ∧ s ≤ 255) (w : World) : Calls Try.prog 53 #[.int .u8 s, .int .i64 h, .int .i64 q, .int .i64 n] w fun e w' => e = .returned (.bool (fitsB s h q n)) ∧ w = w' := by
  have wc : IntKind.i64.wrap s = s := IntWalk.i64_in _ (by omega)
  by_cases c1 : 1 ≤ h
  case neg =>
    have HB : Hid (fitsB s h q n = false) := Lib.hid (decide_eq_false (fun e => c1 e.1))
    go_enter Try.func53, Try.ntmps53
    go_wp2
    go_ret
    exact ⟨by rw [HB.out]; rfl, rfl⟩
  by_cases c2 : h ≤ 16
  case neg =>
    have HB : Hid (fitsB s h q n = false) := Lib.hid (decide_eq_false (fun e => c2 e.2.1))
    go_enter Try.func53, Try.ntmps53
    go_wp2
    go_ret
    exact ⟨by rw [HB.out]; rfl, rfl⟩
  by_cases c3 : s < h
  case neg =>
    have HB : Hid (fitsB s h q n = false) := Lib.hid (decide_eq_false (fun e => c3 e.2.2.1))
    go_enter Try.func53, Try.ntmps53
    go_wp2
    go_ret
    exact ⟨by rw [HB.out]; rfl, rfl⟩
  by_cases c4 : 1 ≤ q
  case neg =>
    have HB : Hid (fitsB s h q n = false) := Lib.hid (decide_eq_false (fun e => c4 e.2.2.2.1))
    go_enter Try.func53, Try.ntmps53
    go_wp2
    go_ret
    exact ⟨by rw [HB.out]; rfl, rfl⟩
  by_cases c5 : q ≤ 16
  case neg =>
    have HB : Hid (fitsB s h q n = false) := Lib.hid (decide_eq_false (fun e => c5 e.2.2.2.2.1))
    go_enter Try.func53, Try.ntmps53
    go_wp2
    go_ret
    exact ⟨by rw [HB.out]; rfl, rfl⟩
  by_cases c6 : 1 ≤ n
  case neg =>
    have HB : Hid (fitsB s h q n = false) := Lib.hid (decide_eq_false (fun e => c6 e.2.2.2.2.2.1))
    go_enter Try.func53, Try.ntmps53
    go_wp2
    go_ret
    exact ⟨by rw [HB.out]; rfl, rfl⟩
  by_cases c7 : n ≤ q
  case neg =>
    have HB : Hid (fitsB s h q n = false) := Lib.hid (decide_eq_false (fun e => c7 e.2.2.2.2.2.2))
    go_enter Try.func53, Try.ntmps53
    go_wp2
    go_ret
    exact ⟨by rw [HB.out]; rfl, rfl⟩
  have HB : Hid (fitsB s h q n = true) := Lib.hid (decide_eq_true ⟨c1, c2, c3, c4, c5, c6, c7⟩)
  go_enter Try.func53, Try.ntmps53
  go_wp2
  go_ret
  exact ⟨by rw [HB.out]; rfl, rfl⟩
set_option maxRecDepth 100000 in
theorem lay1_calls (a : Option Addr) (n c : Nat) (w : World) : Calls Try.prog 88 #[.slice a n c] w fun e w' => e = .returned (.bool (!sizedB n)) ∧ w = w' := by
  have hs := fun W => sized_calls a n c W
  generalize sizedB n = b at *
  go_enter Try.func88, Try.ntmps88
  go_wp2_with fail
  refine (hs _).mono ?_
  rintro e w1 ⟨rfl, rfl⟩
  cases b <;> go_wp2 <;> go_ret <;> exact ⟨rfl, rfl⟩
/-- is a payload of no good size there? -/
def badB (qs : List PB) : Bool := qs.any fun b => !sizedB b.b.length
set_option maxRecDepth 100000 in
set_option maxHeartbeats 1000000 in
theorem index_calls (w : World) (a : Option Addr) (c : Nat) (qs : List PB) (h : LsQ w (.slice a qs.length c) qs) (hq : qs.length ≤ 65536) :
    Calls Try.prog 106 #[.slice a qs.length c, .func (.func 88) #[] #[]] w fun e w' => (∃ i : Int, e = .returned (.int .i64 i) ∧ decide (0 ≤ i) = badB qs) ∧ St No w No w' := by
  have H := Lib.hid h
  clear h
  go_enter Try.func106, Try.ntmps106
  go_wp2
  go_loopw [8] (fun i wr => ∃ k : Nat, k ≤ qs.length ∧ i = .int .i64 k ∧ Hid (badB (qs.take k) = false) ∧ Hid (St No w No wr)) (fun i _ => qs.length - (intOf i).toNat)
  case atStart => exact ⟨0, by omega, rfl, Lib.hid rfl, Lib.hid (St.refl _ _)⟩
  case round =>
    obtain ⟨k, hk, rfl, HB, HS⟩ := hrel
    by_cases hlt : k < qs.length
    · have hqk := List.getElem?_eq_getElem hlt
      have hrd := (H.out.st HS.out (Dj.no _)).own.rd k (qs[k]).v (by rw [qmap, List.getElem?_map, hqk]; rfl)
      have hel := H.out.el (qs[k]) (List.getElem_mem hlt)
      have HT : Hid (badB (qs.take (k + 1)) = !sizedB (qs[k]).b.length) := Lib.hid (by
        have h1 := HB.out
        unfold badB at h1 ⊢
        rw [List.take_succ_eq_append_getElem hlt, List.any_append, h1]
        simp)
      have HM : Hid (qs[k] ∈ qs) := Lib.hid (List.getElem_mem hlt)
      generalize qs[k] = b at *
      obtain ⟨ba, bc, hbv, _, _, _, _⟩ := hel.form
      rw [hbv] at hrd
      obtain ⟨y, rfl, hcy⟩ := hrd
      clear hel hbv hqk
      go_wp2_with fail
      refine (lay1_calls ba b.b.length bc _).mono ?_
      rintro e w1 ⟨rfl, rfl⟩
      cases hs : sizedB b.b.length with
      | true =>
        rw [hs] at HT
        clear hs
        go_wp2
        exact ⟨⟨k + 1, by omega, by go_num, Lib.hid HT.out, HS⟩, by simp [intOf]; omega⟩
      | false =>
        rw [hs] at HT
        have HX : Hid (badB qs = true) := Lib.hid (by
          unfold badB
          rw [List.any_eq_true]
          exact ⟨b, HM.out, by rw [hs]; rfl⟩)
        clear hs
        go_wp2
        go_ret
        exact ⟨⟨k, rfl, by rw [HX.out]; exact decide_eq_true (by omega)⟩, HS.out⟩
    · obtain rfl : k = qs.length := by omega
      go_wp2
      go_ret
      exact ⟨⟨-1, rfl, by
        have h1 := HB.out
        rw [List.take_length] at h1
        rw [h1]; rfl⟩, HS.out⟩
theorem contains_calls (w : World) (a : Option Addr) (c : Nat) (qs : List PB) (h : LsQ w (.slice a qs.length c) qs) (hq : qs.length ≤ 65536) :
    Calls Try.prog 87 #[.slice a qs.length c, .func (.func 88) #[] #[]] w fun e w' => e = .returned (.bool (badB qs)) ∧ St No w No w' := by
  have HI := Lib.hid (index_calls w a c qs h hq)
  clear h
  go_enter Try.func87, Try.ntmps87
  go_wp2_with fail
  refine HI.out.mono ?_
  rintro e w1 ⟨⟨i, rfl, hi⟩, hs⟩
  go_wp2
  go_ret
  exact ⟨by rw [← hi]; rfl, hs⟩
end Go.Proofs.Ytjepmckofocdnaa
