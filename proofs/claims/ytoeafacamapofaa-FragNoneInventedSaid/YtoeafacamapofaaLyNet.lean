
/-
  The walks over the network: New, blocked, there, Len.
-/
import Derived.Test.YtoeafacamapofaaLyBase
namespace Go.Proofs.Ytoeafacamapofaa
open Go.RowKit
set_option linter.unusedVariables false
set_option linter.unusedSimpArgs false

theorem Dgs.st {w w' : World} {V : Value} {D : Nat → Prop} {rs : List DR} {F F' : Nat → Prop} (h : Dgs w V D rs) (s : St F w F' w') (h1 : Dj F (fpV V)) (h2 : Dj F D) : Dgs w' V D rs :=
  ⟨h.1.st s h1, h.2.1.st s, h.2.2.1, fun r hr => by
    obtain ⟨a, b, c⟩ := h.2.2.2 r hr
    exact ⟨a.st s (fun k hk hf => h2 k hk (b k hf)), b, c⟩⟩
theorem Dgs.nil (w : World) : Dgs w (.slice none 0 0) No [] := ⟨Own.nil _ _ _, fun _ h => h.elim, fun _ _ h => h, fun _ h => by simp at h⟩
theorem Nt.in {w : World} {F : Nat → Prop} {p : Nat} {rs : List DR} (h : Nt w F p rs) : In F w := by
  obtain ⟨b, V, D, k0, k1, k2, k3, k4, k5, k6, ho, hm, hd, h1, h2, h3, h4, h5, h6, hF⟩ := h
  intro k hk
  rcases (hF k).1 hk with rfl | rfl | hk | hk
  · exact ho.lt
  · exact (Array.getElem?_eq_some_iff.1 hm).1
  · exact hd.1.in k hk
  · exact hd.2.1 k hk
theorem Nt.st {w w' : World} {F G G' : Nat → Prop} {p : Nat} {rs : List DR} (h : Nt w F p rs) (s : St G w G' w') (hd : Dj G F) : Nt w' F p rs := by
  have hin := h.in
  obtain ⟨b, V, D, k0, k1, k2, k3, k4, k5, k6, ho, hm, hl, h1, h2, h3, h4, h5, h6, hF⟩ := h
  have hp : ¬ G p := fun hg => hd p hg ((hF p).2 (.inl rfl))
  have hb : ¬ G b := fun hg => hd b hg ((hF b).2 (.inr (.inl rfl)))
  exact ⟨b, V, D, k0, k1, k2, k3, k4, k5, k6, ho.move (s.block p ho.lt hp), (s.block b (hin b ((hF b).2 (.inr (.inl rfl)))) hb).trans hm, hl.st s (fun k hk hf => hd k hk ((hF k).2 (.inr (.inr (.inl hf))))) (fun k hk hf => hd k hk ((hF k).2 (.inr (.inr (.inr hf))))), h1, h2, h3, h4, h5, h6, hF⟩
set_option maxRecDepth 100000 in
set_option maxHeartbeats 1000000 in
theorem newNet_calls (w : World) : Calls Try.prog 61 #[.int .i64 4096] w fun e w' => ∃ p F, e = .returned (.tuple #[.pointer (some ⟨p, 0, none⟩), .int .i64 0]) ∧ Nt w' F p [] ∧ St No w F w' := by
  have hmm := @run_makeMap Try.prog
  go_enter Try.func61, Try.ntmps61
  go_wp2
  go_ret2
  refine ⟨w.heap.size + 1, fun k => k = w.heap.size + 1 ∨ k = w.heap.size, rfl, ⟨w.heap.size, .slice none 0 0, No, 0, 0, 0, 0, 0, 0, 0, ?_, ?_, Dgs.nil _, ?_, fun h => h, by omega, ?_, fun h => h, by simp, ?_⟩, ?_⟩
  · exact lnew2 w _ _
  · exact lmid2 w _ _
  · simp [fpV, Value.ownBlock]
  · simp [fpV, Value.ownBlock]
  · intro k; simp [fpV, Value.ownBlock, No]
  · exact ((St.alloc' No w _).trans (St.alloc' No _ _)).toNew.drop (fun k hk => .inr (by rcases hk with rfl | rfl; exact Nat.le_succ _; exact Nat.le_refl _))
set_option maxRecDepth 100000 in
theorem lnum_calls (k : Int) (w : World) : Calls Try.prog 20 #[.int .i64 k] w fun e w' => e = .returned (.int .i64 k) ∧ w = w' := by
  go_enter Try.func20, Try.ntmps20
  go_wp2
  go_ret
  exact ⟨rfl, rfl⟩
set_option maxRecDepth 100000 in
set_option maxHeartbeats 1000000 in
theorem opened_calls (w : World) : Calls Try.prog 18 #[.int .i64 4096] w fun e w' => ∃ p F, e = .returned (.pointer (some ⟨p, 0, none⟩)) ∧ Nt w' F p [] ∧ St No w F w' := by
  go_enter Try.func18, Try.ntmps18
  go_wp2_with (first
    | (go_at_call 61; refine (newNet_calls _).mono ?_; rintro e w1 ⟨p, F, rfl, hn, hs⟩; have HN := Lib.hid hn; have HS := Lib.hid hs; clear hn hs)
    | (go_at_call 20; refine (lnum_calls _ _).mono ?_; rintro e w2 ⟨rfl, rfl⟩))
  go_ret
  exact ⟨p, F, rfl, HN.out, HS.out⟩
/-- what of the network the walks ask -/
theorem Nt.open {w : World} {F : Nat → Prop} {p : Nat} {rs : List DR} (h : Nt w F p rs) : ∃ a c, w.cell? ⟨p, 0, none⟩ = some (.int .i64 4096) ∧ w.cell? ⟨p, 1, none⟩ = some (.slice a rs.length c) ∧ rs.length ≤ 4096 := by
  obtain ⟨b, V, D, k0, k1, k2, k3, k4, k5, k6, ho, hm, hl, h1, h2, h3, h4, h5, h6, hF⟩ := h
  obtain ⟨a, c, rfl, _⟩ := hl.1.form
  exact ⟨a, c, by rw [ho.cell 0]; rfl, by rw [ho.cell 1]; rfl, h6⟩
set_option maxRecDepth 100000 in
theorem lyLen_calls (w : World) (F : Nat → Prop) (p : Nat) (rs : List DR) (h : Nt w F p rs) : Calls Try.prog 21 #[.pointer (some ⟨p, 0, none⟩)] w fun e w' => e = .returned (.int .i64 (rs.length : Int)) ∧ w = w' := by
  obtain ⟨a, c, k0, k1, _⟩ := h.open
  clear h
  go_enter Try.func21, Try.ntmps21
  go_wp2
  go_ret
  exact ⟨rfl, rfl⟩
set_option maxRecDepth 100000 in
theorem there_calls (i : Int) (w : World) (F : Nat → Prop) (p : Nat) (rs : List DR) (h : Nt w F p rs) : Calls Try.prog 63 #[.pointer (some ⟨p, 0, none⟩), .int .i64 i] w fun e w' => e = .returned (.int .i64 (if 0 ≤ i ∧ i < (rs.length : Int) then 0 else 54)) ∧ w = w' := by
  obtain ⟨a, c, k0, k1, _⟩ := h.open
  clear h
  by_cases h0 : i < 0
  · have HE : Hid ((if 0 ≤ i ∧ i < (rs.length : Int) then (0 : Int) else 54) = 54) := Lib.hid (if_neg (by omega))
    rw [HE.out]
    go_enter Try.func63, Try.ntmps63
    go_wp2
    go_ret
    exact ⟨rfl, rfl⟩
  · by_cases h1 : i < (rs.length : Int)
    · have HE : Hid ((if 0 ≤ i ∧ i < (rs.length : Int) then (0 : Int) else 54) = 0) := Lib.hid (if_pos (by omega))
      rw [HE.out]
      go_enter Try.func63, Try.ntmps63
      go_wp2
      go_ret
      exact ⟨rfl, rfl⟩
    · have HE : Hid ((if 0 ≤ i ∧ i < (rs.length : Int) then (0 : Int) else 54) = 54) := Lib.hid (if_neg (by omega))
      rw [HE.out]
      go_enter Try.func63, Try.ntmps63
      go_wp2
      go_ret
      exact ⟨rfl, rfl⟩
set_option maxRecDepth 100000 in
set_option maxHeartbeats 1000000 in
theorem blocked_calls (x y : Int) (w : World) (F : Nat → Prop) (p : Nat) (rs : List DR) (h : Nt w F p rs) : Calls Try.prog 99 #[.pointer (some ⟨p, 0, none⟩), .int .u8 x, .int .u8 y] w fun e w' => e = .returned (.bool false) ∧ St No w No w' := by
  obtain ⟨b, V, D, k0, k1, k2, k3, k4, k5, k6, ho, hm, hl, h1, h2, h3, h4, h5, h6, hF⟩ := h
  have c2 : w.cell? ⟨p, 2, none⟩ = some (.map (some b)) := by rw [ho.cell 2]; rfl
  have hlk := lookup_none w b x y hm
  clear ho hm hl h1 h2 h3 h4 h5 h6 hF
  go_enter Try.func99, Try.ntmps99
  go_wp2
  go_ret
  exact ⟨rfl, St.alloc' No w _⟩
end Go.Proofs.Ytoeafacamapofaa
