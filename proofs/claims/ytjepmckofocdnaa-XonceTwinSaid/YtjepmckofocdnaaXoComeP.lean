
/-
  come: the plain laws: the frames stay in order; a peer keeps what holds of it.
-/
import Derived.Test.YtjepmckofocdnaaXoCome0
namespace Go.Proofs.Ytjepmckofocdnaa
open Go.RowKit
set_option linter.unusedVariables false
set_option linter.unusedSimpArgs false

theorem tw_lt {l : List (Nat × List B8)} {seq : Nat} : ∀ f ∈ l.takeWhile (fun f => decide (f.1 < seq)), f.1 < seq := by
  induction l with
  | nil => simp
  | cons g l ih =>
    intro f hf
    rw [List.takeWhile_cons] at hf
    split at hf
    · rcases List.mem_cons.1 hf with rfl | hf
      · exact of_decide_eq_true (by assumption)
      · exact ih f hf
    · simp at hf
theorem dw_ge {l : List (Nat × List B8)} {seq : Nat} (hp : l.Pairwise fun f g => f.1 < g.1) : ∀ f ∈ l.dropWhile (fun f => decide (f.1 < seq)), seq ≤ f.1 := by
  induction l with
  | nil => simp
  | cons g l ih =>
    intro f hf
    have hp2 := List.pairwise_cons.1 hp
    rw [List.dropWhile_cons] at hf
    split at hf
    · exact ih hp2.2 f hf
    · rename_i hg
      have hg2 : ¬ g.1 < seq := fun e => hg (decide_eq_true e)
      rcases List.mem_cons.1 hf with rfl | hf
      · omega
      · have := hp2.1 f hf; omega
theorem insE_mem {l : List (Nat × List B8)} {seq : Nat} {bs : List B8} {f : Nat × List B8} (hf : f ∈ insE l seq bs) : f ∈ l ∨ f = (seq, bs) := by
  unfold insE at hf
  have e := List.takeWhile_append_dropWhile (p := fun f : Nat × List B8 => decide (f.1 < seq)) (l := l)
  rcases List.mem_append.1 hf with hf | hf
  · exact .inl (by rw [← e]; exact List.mem_append_left _ hf)
  · rcases List.mem_cons.1 hf with rfl | hf
    · exact .inr rfl
    · exact .inl (by rw [← e]; exact List.mem_append_right _ hf)
theorem insE_sorted {l : List (Nat × List B8)} {seq : Nat} {bs : List B8} (hp : l.Pairwise fun f g => f.1 < g.1) (hn : hasB l seq = false) : (insE l seq bs).Pairwise fun f g => f.1 < g.1 := by
  have e := List.takeWhile_append_dropWhile (p := fun f : Nat × List B8 => decide (f.1 < seq)) (l := l)
  have hp2 := hp
  rw [← e] at hp2
  have hq := List.pairwise_append.1 hp2
  have hne : ∀ f ∈ l, f.1 ≠ seq := fun f hf he => by
    have : hasB l seq = true := List.any_eq_true.2 ⟨f, hf, decide_eq_true he⟩
    rw [hn] at this
    cases this
  have hd : ∀ f ∈ l.dropWhile (fun f => decide (f.1 < seq)), seq < f.1 := fun f hf => by
    have h1 := dw_ge hp f hf
    have h2 := hne f (by rw [← e]; exact List.mem_append_right _ hf)
    omega
  unfold insE
  refine List.pairwise_append.2 ⟨hq.1, List.pairwise_cons.2 ⟨fun f hf => hd f hf, hq.2.1⟩, ?_⟩
  intro f hf g hg
  rcases List.mem_cons.1 hg with rfl | hg
  · exact tw_lt f hf
  · exact hq.2.2 f hf g hg
/-- what the draining leaves -/
theorem drain_ok : ∀ (l : List (Nat × List B8)) (dl hi : Nat), l.Pairwise (fun f g => f.1 < g.1) → (∀ f ∈ l, dl < f.1 ∧ f.1 ≤ hi) → dl ≤ hi →
    dl ≤ (drain dl l).2.1 ∧ (drain dl l).2.1 ≤ hi ∧ (drain dl l).2.2.Pairwise (fun f g => f.1 < g.1) ∧ (∀ f ∈ (drain dl l).2.2, (drain dl l).2.1 + 2 ≤ f.1 ∧ f ∈ l) ∧ (drain dl l).2.1 = dl + (drain dl l).1.length
  | [], dl, hi, _, _, hh => ⟨Nat.le_refl _, hh, List.Pairwise.nil, fun f hf => by simp [drain] at hf, rfl⟩
  | f :: fs, dl, hi, hp, hb, hh => by
    have hp2 := List.pairwise_cons.1 hp
    have hf := hb f (List.mem_cons_self ..)
    by_cases he : f.1 = dl + 1
    · have ih := drain_ok fs (dl + 1) hi hp2.2 (fun g hg => ⟨by have := hp2.1 g hg; omega, (hb g (List.mem_cons_of_mem _ hg)).2⟩) (by omega)
      unfold drain
      rw [if_pos he]
      exact ⟨by have := ih.1; show dl ≤ (drain (dl + 1) fs).2.1; omega, ih.2.1, ih.2.2.1, fun g hg => ⟨(ih.2.2.2.1 g hg).1, List.mem_cons_of_mem _ (ih.2.2.2.1 g hg).2⟩, by show (drain (dl + 1) fs).2.1 = dl + (f :: (drain (dl + 1) fs).1).length; rw [ih.2.2.2.2, List.length_cons]; omega⟩
    · unfold drain
      rw [if_neg he]
      refine ⟨Nat.le_refl _, hh, hp, fun g hg => ⟨?_, hg⟩, rfl⟩
      rcases List.mem_cons.1 hg with rfl | hg2
      · show dl + 2 ≤ g.1; omega
      · have := hp2.1 g hg2; show dl + 2 ≤ g.1; omega
theorem comeX_ok {c : PC} {x : XP} {seq : Nat} {bs : List B8} (h : x.Ok c) (hs : seq ≤ 18446744073709551615) : (comeX c x seq bs).Ok c := by
  unfold comeX
  by_cases hE : comeE c x seq bs = 0
  · rw [if_pos hE]
    cases ho : oldB x seq with
    | true => exact h
    | false =>
      have hz : sizedB bs.length = true := by
        cases hz : sizedB bs.length with
        | true => rfl
        | false => unfold comeE at hE; rw [hz, if_neg (by decide)] at hE; exact absurd hE (by decide)
      have hr : ¬ (x.delivered < seq ∧ c.win < seq - x.delivered) := fun e => by
        unfold comeE at hE
        rw [if_pos hz, if_pos e] at hE
        exact absurd hE (by decide)
      unfold oldB at ho
      rw [Bool.or_eq_false_iff] at ho
      have hlt : x.delivered < seq := by have := of_decide_eq_false ho.1; omega
      have hb : ∀ f ∈ insE x.early seq bs, x.delivered < f.1 ∧ f.1 ≤ x.delivered + c.win ∧ f.1 ≤ 18446744073709551615 ∧ sizedB f.2.length = true := fun f hf => by
        rcases insE_mem hf with hf | rfl
        · have := h.er f hf
          exact ⟨by omega, this.2.1, this.2.2.1, this.2.2.2⟩
        · exact ⟨hlt, by show seq ≤ _; omega, hs, hz⟩
      have hd := drain_ok (insE x.early seq bs) x.delivered (min (x.delivered + c.win) 18446744073709551615) (insE_sorted h.eo ho.2) (fun f hf => ⟨(hb f hf).1, by have := hb f hf; omega⟩) (by have := h.dl; omega)
      refine ⟨h.qs, h.se, h.ql, h.rm, h.wn, h.w1, h.qb, h.mb, ?_, hd.2.2.1, fun f hf => ?_⟩
      · have := hd.2.1
        show (drain x.delivered (insE x.early seq bs)).2.1 ≤ _
        omega
      · have h1 := hd.2.2.2.1 f hf
        have h2 := hb f h1.2
        exact ⟨h1.1, by have := hd.1; show f.1 ≤ (drain x.delivered (insE x.early seq bs)).2.1 + c.win; omega, h2.2.2.1, h2.2.2.2⟩
  · rw [if_neg hE]; exact h
end Go.Proofs.Ytjepmckofocdnaa
