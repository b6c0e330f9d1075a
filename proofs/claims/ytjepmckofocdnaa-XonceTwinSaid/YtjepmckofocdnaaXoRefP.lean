
/-
  A refused call changes nothing; a Take that changed says so: the plain laws.
-/
import Derived.Test.YtjepmckofocdnaaXoArgs
namespace Go.Proofs.Ytjepmckofocdnaa
open Go.RowKit
set_option linter.unusedVariables false
set_option linter.unusedSimpArgs false

theorem stL_get {k : EC} {X : Nat → XP} {h : Nat} (hh : h < k.hosts) : (stL k k.hosts X)[h]? = some (if h < k.hosts ∧ h ≠ k.self then X h else xp0) := by
  unfold stL
  rw [List.getElem?_map, List.getElem?_range hh]; rfl
theorem stL_len {k : EC} {X : Nat → XP} : (stL k k.hosts X).length = k.hosts := by unfold stL; simp
theorem stL_row {k : EC} {X : Nat → XP} {S : List SP} {h : Nat} {s : SP} (hS : S.map SP.pl = stL k k.hosts X) (hs : S[h]? = some s) : h < k.hosts ∧ s.pl = if h < k.hosts ∧ h ≠ k.self then X h else xp0 := by
  have hl : h < k.hosts := by
    have h1 := (List.getElem?_eq_some_iff.1 hs).1
    have h2 := congrArg List.length hS
    rw [List.length_map, stL_len] at h2
    omega
  refine ⟨hl, ?_⟩
  have h3 := congrArg (fun l => l[h]?) hS
  simp only [List.getElem?_map, hs, stL_get hl] at h3
  exact Option.some.inj h3
theorem stL_eq_iff {k : EC} {X Y : Nat → XP} : stL k k.hosts X = stL k k.hosts Y ↔ ∀ h, h < k.hosts → h ≠ k.self → X h = Y h := by
  constructor
  · intro e h h1 h2
    have h3 := congrArg (fun l => l[h]?) e
    simp only [stL_get h1] at h3
    have h4 := Option.some.inj h3
    rwa [if_pos ⟨h1, h2⟩, if_pos ⟨h1, h2⟩] at h4
  · intro e
    refine List.ext_getElem? (fun h => ?_)
    by_cases hh : h < k.hosts
    · rw [stL_get hh, stL_get hh]
      by_cases hs : h = k.self
      · rw [if_neg (fun x => x.2 hs), if_neg (fun x => x.2 hs)]
      · rw [if_pos ⟨hh, hs⟩, if_pos ⟨hh, hs⟩, e h hh hs]
    · rw [List.getElem?_eq_none (by rw [stL_len]; omega), List.getElem?_eq_none (by rw [stL_len]; omega)]
theorem stL_upd {k : EC} {X : Nat → XP} {a : Nat} {x : XP} (hp : isP k a = true) : stL k k.hosts X = stL k k.hosts (upd X a x) ↔ X a = x := by
  have hpi := isP_iff.1 hp
  rw [stL_eq_iff]
  constructor
  · intro h
    have := h a hpi.1 hpi.2
    rwa [upd_same] at this
  · intro e h _ _
    by_cases ha : h = a
    · subst ha; rw [upd_same]; exact e
    · rw [upd_ne ha]
/-- Send -/
theorem sendE_cases (k : EC) (X : Nat → XP) (a : Nat) (bs : List B8) :
    (isP k a = false ∧ sendE k X a bs = 80) ∨ (isP k a = true ∧ (sendE k X a bs = 81 ∨ (sendE k X a bs = 82 ∧ k.room ≤ (X a).queue.length) ∨ sendE k X a bs = 83 ∨ sendE k X a bs = 0)) := by
  unfold sendE pushE
  cases hp : isP k a with
  | false => exact .inl ⟨rfl, rfl⟩
  | true =>
    refine .inr ⟨rfl, ?_⟩
    cases hz : sizedB bs.length with
    | false => exact .inl rfl
    | true =>
      simp only [if_true, if_pos]
      by_cases h1 : (k.pc a).room ≤ (X a).queue.length
      · rw [if_pos h1]; exact .inr (.inl ⟨rfl, h1⟩)
      · rw [if_neg h1]
        by_cases h2 : (X a).sent = 18446744073709551615
        · rw [if_pos h2]; exact .inr (.inr (.inl rfl))
        · rw [if_neg h2]; exact .inr (.inr (.inr rfl))
theorem sendE_zero {k : EC} {X : Nat → XP} {a : Nat} {bs : List B8} (h : sendE k X a bs = 0) : isP k a = true ∧ sizedB bs.length = true ∧ pushE (k.pc a) (X a) = 0 := by
  unfold sendE at h
  cases hp : isP k a with
  | false => rw [hp] at h; exact absurd (show (80 : Int) = 0 from h) (by decide)
  | true =>
    rw [hp] at h
    cases hz : sizedB bs.length with
    | false => rw [hz] at h; exact absurd (show (81 : Int) = 0 from h) (by decide)
    | true => rw [hz] at h; exact ⟨rfl, rfl, h⟩
theorem send_refused {k : EC} {X : Nat → XP} {a : Nat} {bs : List B8} (h : sendE k X a bs ≠ 0) : sendM k X a bs = [] ∧ stL k k.hosts (sendX k X a bs) = stL k k.hosts X := by
  unfold sendM sendX sendB
  cases hp : isP k a with
  | false => exact ⟨rfl, rfl⟩
  | true =>
    cases hz : sizedB bs.length with
    | false => exact ⟨rfl, rfl⟩
    | true =>
      have he : ¬ pushE (k.pc a) (X a) = 0 := fun e => h (by unfold sendE; rw [hp, hz]; exact e)
      refine ⟨?_, ?_⟩
      · show pushM (k.pc a) (X a) bs = []
        unfold pushM
        rw [if_neg (fun x => he x.1)]
      · show stL k k.hosts (upd X a (pushX (k.pc a) (X a) bs)) = _
        unfold pushX
        rw [if_neg he]
        exact ((stL_upd hp).2 rfl).symm
theorem send_sent {k : EC} {X : Nat → XP} {a : Nat} {bs : List B8} {S T : List SP} (hx : EX k X) (hS : S.map SP.pl = stL k k.hosts X) (hT : T.map SP.pl = stL k k.hosts (sendX k X a bs)) (hc : ∀ t ∈ T, t.v.qn ≤ t.v.qc)
    (h : Nat) (s t : SP) (hs : S[h]? = some s) (ht : T[h]? = some t) : if h = a ∧ decide (sendE k X a bs = 0) = true then sentB s t bs else s.pl = t.pl := by
  have h1 := stL_row hS hs
  have h2 := stL_row hT ht
  by_cases he : sendE k X a bs = 0
  · have hz := sendE_zero he
    have hpi := isP_iff.1 hz.1
    have hX : sendX k X a bs = upd X a { X a with sent := (X a).sent + 1, queue := (X a).queue ++ [bs] } := by
      unfold sendX sendB pushX
      rw [hz.1, hz.2.1]
      show upd X a (if _ then _ else _) = _
      rw [if_pos hz.2.2]
    by_cases ha : h = a
    · subst ha
      rw [if_pos ⟨rfl, decide_eq_true he⟩]
      have e1 := h1.2
      have e2 := h2.2
      rw [if_pos hpi] at e1
      rw [if_pos hpi, hX, upd_same, ← e1] at e2
      have hp := hz.2.2
      have hle : s.v.sent + 1 ≤ 18446744073709551615 := by
        have h3 := (hx h hpi.1 hpi.2).se
        have h4 : ¬ (X h).sent = 18446744073709551615 := fun e => by
          unfold pushE at hp
          rw [if_pos e] at hp
          split at hp <;> exact absurd hp (by decide)
        have h5 : s.v.sent = (X h).sent := by rw [← e1]; rfl
        omega
      exact ⟨congrArg XP.queue e2, congrArg XP.sent e2, congrArg XP.acked e2, congrArg XP.mask e2, congrArg XP.delivered e2, congrArg XP.early e2, hle, hc t (List.mem_of_getElem? ht)⟩
    · rw [if_neg (fun x => ha x.1), h1.2, h2.2, hX, upd_ne ha]
  · rw [if_neg (fun x => he (of_decide_eq_true x.2))]
    have e := (send_refused he).2
    rw [e] at hT
    rw [h1.2, (stL_row hT ht).2]
/-- Take -/
theorem drain_len : ∀ (l : List (Nat × List B8)) (dl : Nat), (drain dl l).1.length + (drain dl l).2.2.length = l.length
  | [], dl => rfl
  | f :: fs, dl => by
    have ih := drain_len fs (dl + 1)
    unfold drain
    by_cases h : f.1 = dl + 1
    · rw [if_pos h]
      show ((f :: (drain (dl + 1) fs).1).length + (drain (dl + 1) fs).2.2.length = _)
      rw [List.length_cons, List.length_cons]
      omega
    · rw [if_neg h]; simp
theorem drain_dl : ∀ (l : List (Nat × List B8)) (dl : Nat), (drain dl l).2.1 = dl + (drain dl l).1.length
  | [], dl => rfl
  | f :: fs, dl => by
    have ih := drain_dl fs (dl + 1)
    unfold drain
    by_cases h : f.1 = dl + 1
    · rw [if_pos h]
      show (drain (dl + 1) fs).2.1 = dl + (f :: (drain (dl + 1) fs).1).length
      rw [List.length_cons]
      omega
    · rw [if_neg h]; rfl
theorem insE_len {l : List (Nat × List B8)} {seq : Nat} {bs : List B8} : (insE l seq bs).length = l.length + 1 := by
  unfold insE
  have e := congrArg List.length (List.takeWhile_append_dropWhile (p := fun f : Nat × List B8 => decide (f.1 < seq)) (l := l))
  rw [List.length_append] at e
  rw [List.length_append, List.length_cons]
  omega
theorem come_ch (c : PC) (x : XP) (seq : Nat) (bs : List B8) : (comeT c x seq bs).ch = !decide (x = comeX c x seq bs) := by
  unfold comeT comeX
  by_cases hE : comeE c x seq bs = 0
  · rw [if_pos hE, if_pos hE]
    cases ho : oldB x seq with
    | true => simp
    | false =>
      have hne : ¬ x = { x with delivered := (drain x.delivered (insE x.early seq bs)).2.1, early := (drain x.delivered (insE x.early seq bs)).2.2 } := fun e => by
        have e1 : x.delivered = (drain x.delivered (insE x.early seq bs)).2.1 := congrArg XP.delivered e
        have e2 : x.early = (drain x.delivered (insE x.early seq bs)).2.2 := congrArg XP.early e
        have h1 := drain_dl (insE x.early seq bs) x.delivered
        have h2 := drain_len (insE x.early seq bs) x.delivered
        rw [insE_len, ← e2] at h2
        omega
      simp only [Bool.false_eq_true, if_false]
      rw [decide_eq_false hne]; rfl
  · rw [if_neg hE, if_neg hE]
    simp [XT.none]
theorem heard_ch (c : PC) (x : XP) (seq : Nat) (mask : BitVec 64) : (heardT c x seq mask).ch = !decide (x = heardX x seq mask) := by
  unfold heardT heardX
  by_cases hE : heardE x seq mask = 0
  · rw [if_pos hE, if_pos hE]
    by_cases h1 : seq < x.acked
    · rw [if_pos h1, if_pos h1]; simp [XT.none]
    · rw [if_neg h1, if_neg h1]
      by_cases h2 : seq = x.acked
      · rw [if_pos h2, if_pos h2]
        show decide (x.mask ||| mask ≠ x.mask) = _
        by_cases h3 : x.mask ||| mask = x.mask
        · have e : x = { x with mask := x.mask ||| mask } := by rw [h3]
          rw [decide_eq_true e, decide_eq_false (fun y => y h3)]; rfl
        · have e : ¬ x = { x with mask := x.mask ||| mask } := fun e => h3 (congrArg XP.mask e).symm
          rw [decide_eq_false e, decide_eq_true h3]; rfl
      · rw [if_neg h2, if_neg h2]
        have e : ¬ x = { x with acked := seq, mask := mask, queue := x.queue.drop (seq - x.acked) } := fun e => h2 (congrArg XP.acked e).symm
        rw [decide_eq_false e]; rfl
  · rw [if_neg hE, if_neg hE]
    simp [XT.none]
theorem take_ch (k : EC) (X : Nat → XP) (a : Nat) (m : MV) (bs : List B8) : (tkT k X a m bs).ch = !decide (stL k k.hosts X = stL k k.hosts (tkX k X a m bs)) := by
  have key : ∀ (b : Bool) (x' : XP) (t : XT), takeB k a m = b → t.ch = (!decide (X a = x')) → (if takeB k a m then t else XT.none).ch = !decide (stL k k.hosts X = stL k k.hosts (if takeB k a m then upd X a x' else X)) := fun b x' t hb ht => by
    rw [hb]
    cases b with
    | false => simp [XT.none]
    | true =>
      have hp : isP k a = true := by
        unfold takeB at hb
        rw [Bool.and_eq_true] at hb
        exact hb.1
      show t.ch = !decide (stL k k.hosts X = stL k k.hosts (upd X a x'))
      rw [ht, decide_eq_decide.2 (stL_upd hp)]
  unfold tkT tkX
  by_cases hk : m.kind = 11
  · rw [if_pos hk, if_pos hk]
    exact key _ _ _ rfl (heard_ch _ _ _ _)
  · rw [if_neg hk, if_neg hk]
    exact key _ _ _ rfl (come_ch _ _ _ _)
theorem heardE_cases (x : XP) (seq : Nat) (mask : BitVec 64) : heardE x seq mask = 85 ∨ heardE x seq mask = 0 := by
  unfold heardE; split
  · exact .inl rfl
  · exact .inr rfl
theorem comeE_cases (c : PC) (x : XP) (seq : Nat) (bs : List B8) : comeE c x seq bs = 81 ∨ comeE c x seq bs = 84 ∨ comeE c x seq bs = 0 := by
  unfold comeE; split
  · split
    · exact .inr (.inl rfl)
    · exact .inr (.inr rfl)
  · exact .inl rfl
theorem take_cases (k : EC) (X : Nat → XP) (a : Nat) (m : MV) (bs : List B8) :
    (isP k a = false ∧ tkE k X a m bs = 80 ∧ tkT k X a m bs = XT.none) ∨ (isP k a = true ∧ (tkE k X a m bs = 0 ∨ ((tkE k X a m bs = 81 ∨ tkE k X a m bs = 84 ∨ tkE k X a m bs = 85 ∨ tkE k X a m bs = 86) ∧ tkT k X a m bs = XT.none))) := by
  unfold tkE tkT takeE takeT takeDE takeDT takeB
  cases hp : isP k a with
  | false =>
    refine .inl ⟨rfl, ?_, ?_⟩
    · by_cases hk : m.kind = 11
      · rw [if_pos hk]; rfl
      · rw [if_neg hk]; rfl
    · by_cases hk : m.kind = 11
      · rw [if_pos hk]; rfl
      · rw [if_neg hk]; rfl
  | true =>
    refine .inr ⟨rfl, ?_⟩
    cases hb : plainB m with
    | false =>
      refine .inr ⟨.inr (.inr (.inr ?_)), ?_⟩
      · by_cases hk : m.kind = 11
        · rw [if_pos hk]; rfl
        · rw [if_neg hk]; rfl
      · by_cases hk : m.kind = 11
        · rw [if_pos hk]; rfl
        · rw [if_neg hk]; rfl
    | true =>
      by_cases hk : m.kind = 11
      · rw [if_pos hk, if_pos hk]
        show heardE (X a) m.seq m.mask = 0 ∨ (heardE (X a) m.seq m.mask = 81 ∨ heardE (X a) m.seq m.mask = 84 ∨ heardE (X a) m.seq m.mask = 85 ∨ heardE (X a) m.seq m.mask = 86) ∧ heardT (k.pc a) (X a) m.seq m.mask = XT.none
        rcases heardE_cases (X a) m.seq m.mask with h | h
        · refine .inr ⟨.inr (.inr (.inl h)), ?_⟩
          unfold heardT
          rw [if_neg (by rw [h]; decide)]
        · exact .inl h
      · rw [if_neg hk, if_neg hk]
        show comeE (k.pc a) (X a) m.seq bs = 0 ∨ (comeE (k.pc a) (X a) m.seq bs = 81 ∨ comeE (k.pc a) (X a) m.seq bs = 84 ∨ comeE (k.pc a) (X a) m.seq bs = 85 ∨ comeE (k.pc a) (X a) m.seq bs = 86) ∧ comeT (k.pc a) (X a) m.seq bs = XT.none
        have hn : ∀ {e : Int}, comeE (k.pc a) (X a) m.seq bs = e → e ≠ 0 → comeT (k.pc a) (X a) m.seq bs = XT.none := fun h h0 => by
          unfold comeT
          rw [if_neg (by rw [h]; exact h0)]
        rcases comeE_cases (k.pc a) (X a) m.seq bs with h | h | h
        · exact .inr ⟨.inl h, hn h (by decide)⟩
        · exact .inr ⟨.inr (.inl h), hn h (by decide)⟩
        · exact .inl h
end Go.Proofs.Ytjepmckofocdnaa
