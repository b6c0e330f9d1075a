
/-
  What holds of a peer always: kept by push and heard.
-/
import Derived.Test.YtjepmckofocdnaaXoHeard
import Derived.Lib.BitFns
namespace Go.Proofs.Ytjepmckofocdnaa
open Go.RowKit
set_option linter.unusedVariables false
set_option linter.unusedSimpArgs false

theorem bitLen_zero : Lib.bitLen 0 = 0 := by decide
theorem bitLen_le_iff : ∀ (k x : Nat), x < 2 ^ 64 → (Lib.bitLen x ≤ k ↔ x < 2 ^ k)
  | 0, x, hx => by
    by_cases h : x = 0
    · subst h; simp [bitLen_zero]
    · rw [Lib.bitLen_half x h hx]
      simp
      omega
  | k + 1, x, hx => by
    by_cases h : x = 0
    · subst h
      have := Nat.two_pow_pos (k + 1)
      rw [bitLen_zero]
      omega
    · rw [Lib.bitLen_half x h hx]
      have ih := bitLen_le_iff k (x / 2) (by omega)
      rw [Nat.pow_succ]
      omega
theorem beyond_iff {sent seq : Nat} {mask : BitVec 64} : beyondB sent seq mask = false ↔ mask = 0 ∨ Lib.bitLen mask.toNat + 1 ≤ sent - seq := by
  unfold beyondB
  rw [decide_eq_false_iff_not]
  constructor
  · intro h
    by_cases h0 : mask = 0
    · exact .inl h0
    · exact .inr (by
        have : ¬ sent - seq < Lib.bitLen mask.toNat + 1 := fun e => h ⟨h0, e⟩
        omega)
  · rintro (h | h) ⟨h0, h1⟩
    · exact h0 h
    · omega
theorem beyond_or {sent seq : Nat} {a b : BitVec 64} (ha : beyondB sent seq a = false) (hb : beyondB sent seq b = false) : beyondB sent seq (a ||| b) = false := by
  rw [beyond_iff] at ha hb ⊢
  rcases ha with rfl | ha
  · rw [show (0 : BitVec 64) ||| b = b from BitVec.zero_or]; exact hb
  rcases hb with rfl | hb
  · rw [show a ||| (0 : BitVec 64) = a from BitVec.or_zero]; exact .inr ha
  refine .inr ?_
  obtain ⟨k, hk⟩ : ∃ k, sent - seq = k + 1 := ⟨sent - seq - 1, by omega⟩
  rw [hk] at ha hb ⊢
  have h1 := (bitLen_le_iff k a.toNat a.isLt).1 (by omega)
  have h2 := (bitLen_le_iff k b.toNat b.isLt).1 (by omega)
  have h3 := (bitLen_le_iff k (a ||| b).toNat (a ||| b).isLt).2 (by rw [BitVec.toNat_or]; exact Nat.or_lt_two_pow h1 h2)
  omega
theorem beyond_more {sent seq : Nat} {a : BitVec 64} (h : beyondB sent seq a = false) (hs : seq ≤ sent) : beyondB (sent + 1) seq a = false := by
  rw [beyond_iff] at h ⊢
  exact h.elim .inl (fun h => .inr (by omega))
theorem pushX_ok {c : PC} {x : XP} {bs : List B8} (h : x.Ok c) (hb : sizedB bs.length = true) : (pushX c x bs).Ok c := by
  unfold pushX
  by_cases hE : pushE c x = 0
  · rw [if_pos hE]
    have hE2 := hE
    unfold pushE at hE2
    split at hE2
    · exact absurd hE2 (by decide)
    · split at hE2
      · exact absurd hE2 (by decide)
      · have h1 := h.qs
        have h2 := h.se
        have h6 : x.acked ≤ x.sent := by omega
        exact ⟨by show x.sent + 1 = x.acked + (x.queue ++ [bs]).length; rw [List.length_append, List.length_singleton]; omega, by show x.sent + 1 ≤ _; omega, by show (x.queue ++ [bs]).length ≤ _; rw [List.length_append, List.length_singleton]; omega, h.rm, h.wn, h.w1, fun b hb2 => by
          rcases List.mem_append.1 hb2 with e | e
          · exact h.qb b e
          · rw [List.mem_singleton.1 e]; exact hb, beyond_more h.mb h6, h.dl, h.eo, h.er⟩
  · rw [if_neg hE]; exact h
theorem heardX_ok {c : PC} {x : XP} {seq : Nat} {mask : BitVec 64} (h : x.Ok c) : (heardX x seq mask).Ok c := by
  unfold heardX
  by_cases hE : heardE x seq mask = 0
  · rw [if_pos hE]
    have hE2 : x.sent ≥ seq ∧ beyondB x.sent seq mask = false := by
      unfold heardE at hE
      by_cases h0 : x.sent < seq ∨ beyondB x.sent seq mask = true
      · rw [if_pos h0] at hE; exact absurd hE (by decide)
      · exact ⟨by have : ¬ x.sent < seq := fun e => h0 (.inl e); omega, by
          cases hb : beyondB x.sent seq mask
          · rfl
          · exact absurd (.inr hb) h0⟩
    have h1 := h.qs
    by_cases h3 : seq < x.acked
    · rw [if_pos h3]; exact h
    · rw [if_neg h3]
      by_cases h4 : seq = x.acked
      · rw [if_pos h4]
        subst h4
        exact ⟨h.qs, h.se, h.ql, h.rm, h.wn, h.w1, h.qb, beyond_or h.mb hE2.2, h.dl, h.eo, h.er⟩
      · rw [if_neg h4]
        have h5 := h.ql
        exact ⟨by simp; omega, h.se, by simp; omega, h.rm, h.wn, h.w1, fun b hb => h.qb b (List.mem_of_mem_drop hb), hE2.2, h.dl, h.eo, h.er⟩
  · rw [if_neg hE]; exact h
/-- a peer that is new -/
def xp0 : XP := ⟨0, 0, 0, 0, [], []⟩
theorem xp0_ok {c : PC} (h1 : c.room ≤ 16) (h2 : c.win ≤ c.room) (h3 : 1 ≤ c.win) : xp0.Ok c :=
  ⟨rfl, by decide, Nat.zero_le _, h1, h2, h3, fun b hb => by simp [xp0] at hb, by decide, by decide, by simp [xp0], fun f hf => by simp [xp0] at hf⟩
end Go.Proofs.Ytjepmckofocdnaa
