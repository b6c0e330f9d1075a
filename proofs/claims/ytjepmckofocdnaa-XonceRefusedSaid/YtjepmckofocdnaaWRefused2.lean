
/-
  XonceRefused: the walk, whatever the setup.
-/
import Derived.Test.YtjepmckofocdnaaWRefused
namespace Go.Proofs.Ytjepmckofocdnaa
open Go.RowKit
set_option linter.unusedVariables false
set_option linter.unusedSimpArgs false

set_option maxRecDepth 100000 in
set_option maxHeartbeats 4000000 in
theorem xonceRefused_walk (u : SetR) (rs : List StpR) (a : Option Addr) (c : Nat) (hl : rs.length ≤ 140737488351232) (w : World) (ha : StpsIn w a rs) :
    Calls Try.prog 14 #[.agg u.cells.toArray, .slice a rs.length c] w fun e w' => e = .returned (.bool true) ∧ Below w.heap.size w w' := by
  obtain ⟨self, hosts, room, win, loaded, pa, pc, ps⟩ := u
  show Calls Try.prog 14 #[.agg #[.int .i64 self, .int .i64 hosts, .int .i64 room, .int .i64 win, .bool loaded, .slice pa ps.length pc], .slice a rs.length c] w fun e w' => e = .returned (.bool true) ∧ Below w.heap.size w w'
  have HF := Lib.hid (fits8_calls hosts room win)
  have HSX := Lib.hid (St.alloc' No w (.cells #[.int .i64 self, .int .i64 hosts, .int .i64 room, .int .i64 win, .bool loaded, .slice pa ps.length pc] 26)).below
  cases loaded with
  | true =>
    go_enter Try.func14, Try.ntmps14
    go_wp2
    go_ret
    exact ⟨rfl, HSX.out⟩
  | false =>
    cases hf : fits8B hosts room win with
    | false =>
      rw [hf] at HF
      clear hf
      go_enter Try.func14, Try.ntmps14
      go_wp2_with (first
        | (go_at_call 34; refine (HF.out _).mono ?_; rintro r w1 ⟨rfl, rfl⟩))
      go_ret
      exact ⟨rfl, HSX.out⟩
    | true =>
      have hd : 1 ≤ hosts ∧ hosts ≤ 16 ∧ 1 ≤ room ∧ room ≤ 16 ∧ 1 ≤ win ∧ win ≤ room := of_decide_eq_true (show decide _ = true from hf)
      rw [hf] at HF
      clear hf
      by_cases s0 : 0 ≤ self
      case neg =>
        have s0i : self < 0 := by omega
        clear hd s0
        go_enter Try.func14, Try.ntmps14
        go_wp2_with (first
          | (go_at_call 34; refine (HF.out _).mono ?_; rintro r w1 ⟨rfl, rfl⟩))
        go_ret
        exact ⟨rfl, HSX.out⟩
      by_cases s1 : self < hosts
      case neg =>
        have s0i : decide (self < 0) = false := decide_eq_false (by omega)
        have s1i : hosts ≤ self := by omega
        clear hd s0 s1
        go_enter Try.func14, Try.ntmps14
        go_wp2_with (first
          | (go_at_call 34; refine (HF.out _).mono ?_; rintro r w1 ⟨rfl, rfl⟩))
        go_ret
        exact ⟨rfl, HSX.out⟩
      obtain ⟨sn, rfl⟩ : ∃ n : Nat, self = (n : Int) := ⟨self.toNat, by omega⟩
      obtain ⟨hn, rfl⟩ : ∃ n : Nat, hosts = (n : Int) := ⟨hosts.toNat, by omega⟩
      obtain ⟨rn, rfl⟩ : ∃ n : Nat, room = (n : Int) := ⟨room.toNat, by omega⟩
      obtain ⟨wn, rfl⟩ : ∃ n : Nat, win = (n : Int) := ⟨win.toNat, by omega⟩
      exact refused_walk ⟨sn, hn, rn, wn⟩ (.slice pa ps.length pc) rs a c ⟨by show sn < hn; omega, by show hn ≤ 16; omega, by show 1 ≤ wn; omega, by show wn ≤ rn; omega, by show rn ≤ 16; omega⟩ hl w ha
end Go.Proofs.Ytjepmckofocdnaa
