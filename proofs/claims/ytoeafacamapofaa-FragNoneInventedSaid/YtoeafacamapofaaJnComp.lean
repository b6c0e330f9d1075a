
/-
  The statements' complete.
-/
import Derived.Test.YtoeafacamapofaaRowPairs
import Derived.Test.YtoeafacamapofaaStRows2
namespace Go.Proofs.Ytoeafacamapofaa
open Go.RowKit
set_option linter.unusedVariables false
set_option linter.unusedSimpArgs false

def hasP (n i : Int) (ps : List Pr) : Bool := ps.any fun p => p.1 == n && p.2 == i
theorem hasP_take (n i : Int) (ps : List Pr) (k : Nat) (h : k < ps.length) : hasP n i (ps.take (k + 1)) = (hasP n i (ps.take k) || (ps[k].1 == n && ps[k].2 == i)) := by
  unfold hasP
  rw [List.take_succ_eq_append_getElem h, List.any_append]
  congr 1
  simp only [List.any_cons, List.any_nil, Bool.or_false]
theorem hasP_mem {n i : Int} {ps : List Pr} (h : ((n, i) : Pr) ∈ ps) : hasP n i ps = true := by
  unfold hasP
  rw [List.any_eq_true]
  exact ⟨_, h, by simp⟩
set_option maxRecDepth 100000 in
set_option maxHeartbeats 1000000 in
theorem complete_calls (V : Value) (ps : List Pr) (hl : ps.length ≤ 8796093022208) (n : Int) (cnt : Nat) (hc : cnt ≤ 90) (hall : ∀ i, i < cnt → ((n, (i : Int)) : Pr) ∈ ps) (w : World) (ho : Own w 101 2 V ps.length (ps.flatMap Pr.cells)) :
    Calls Try.prog 57 #[V, .int .i64 n, .int .i64 cnt] w fun e w' => e = .returned (.bool true) ∧ w = w' := by
  obtain ⟨a, c, rfl, _, _, _, _⟩ := ho.form
  have HO := Lib.hid ho
  have HALL := Lib.hid hall
  clear ho hall
  go_enter Try.func57, Try.ntmps57
  go_wp2_with fail
  go_loopw [7] (fun t wr => ∃ i : Nat, i ≤ cnt ∧ t = .int .i64 i ∧ w = wr) (fun t _ => cnt - (intOf t).toNat)
  case atStart => exact ⟨0, by omega, rfl, rfl⟩
  case round =>
    obtain ⟨i, hi, rfl, rfl⟩ := hrel
    by_cases hlt : i < cnt
    · have hii : (i : Int) < (cnt : Int) := by omega
      go_wp2_with fail
      go_loopw [8, 9] (fun x t wr => ∃ k : Nat, k ≤ ps.length ∧ t = .int .i64 k ∧ x = .bool (hasP n i (ps.take k)) ∧ w = wr) (fun _ t _ => ps.length - (intOf t).toNat)
      case atStart => exact ⟨0, by omega, rfl, rfl, rfl⟩
      case round =>
        obtain ⟨k, hk, rfl, rfl, rfl⟩ := hrel
        by_cases hlt2 : k < ps.length
        · have hki : (k : Int) < (ps.length : Int) := by omega
          obtain ⟨y, rfl⟩ := rowL_some Pr.cells_len (by decide) HO.out k hlt2
          have htm := hasP_take n i ps k hlt2
          have hel := fun j v => rowL_elem Pr.cells_len HO.out k ps[k] (List.getElem?_eq_getElem hlt2) j v
          generalize ps[k] = p at *
          obtain ⟨p1, p2⟩ := p
          have c0 : w.cell? (y.add (k * 2)) = some (.int .i64 p1) := hel 0 _ (by decide) rfl
          have c1 : w.cell? ⟨(y.add (k * 2)).block, (y.add (k * 2)).off + 1, none⟩ = some (.int .i64 p2) := hel 1 _ (by decide) rfl
          have HTM := Lib.hid htm
          clear hel htm
          by_cases h1 : p1 = n
          · subst h1
            by_cases h2 : p2 = (i : Int)
            · subst h2
              go_wp2
              exact ⟨⟨k + 1, by omega, by simp, by rw [HTM.out]; simp, trivial⟩, by simp [intOf]; omega⟩
            · have h2b : (p2 == (i : Int)) = false := by simpa using h2
              go_wp2
              exact ⟨⟨k + 1, by omega, by simp, by rw [HTM.out]; simp [h2], trivial⟩, by simp [intOf]; omega⟩
          · have h1b : (p1 == n) = false := by simpa using h1
            go_wp2
            exact ⟨⟨k + 1, by omega, by simp, by rw [HTM.out]; simp [h1], trivial⟩, by simp [intOf]; omega⟩
        · obtain rfl : k = ps.length := by omega
          have hin : hasP n i (ps.take ps.length) = true := by rw [List.take_length]; exact hasP_mem (HALL.out i hlt)
          rw [hin]
          go_wp2
          exact ⟨⟨i + 1, by omega, by simp, trivial⟩, by simp [intOf]; omega⟩
    · obtain rfl : i = cnt := by omega
      go_wp2
      go_ret
      exact ⟨rfl, rfl⟩
end Go.Proofs.Ytoeafacamapofaa
