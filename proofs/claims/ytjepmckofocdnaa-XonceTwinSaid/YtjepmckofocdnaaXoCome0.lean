
/-
  slices.Insert whole; what come does, plain.
-/
import Derived.Test.YtjepmckofocdnaaXoIns3
namespace Go.Proofs.Ytjepmckofocdnaa
open Go.RowKit
set_option linter.unusedVariables false
set_option linter.unusedSimpArgs false

theorem insert_calls (w : World) (V : Value) (es : List FB) (x : FB) (vb i : Nat) (h : LsF w V es) (hl : es.length ≤ 65536) (hi : i ≤ es.length) (hb : Ob w vb 133 x.cells.toArray) (hvb : ¬ fpV V vb) (hx : OwB w x.v x.b) (hd : Dj (fpV x.v) (fpL FB.v V es)) :
    Calls Try.prog 92 #[V, .int .i64 i, .slice (some ⟨vb, 0, none⟩) 1 1] w (InsJ w V es x i) := by
  by_cases hie : i = es.length
  · subst hie
    exact insert_end w V es x vb h hl hb hx hd
  · rcases h.own.2 with ⟨e, hz⟩ | ⟨g, cap, cur, e, _, _, hnc, _⟩
    · omega
    · subst e
      by_cases hc : es.length + 1 ≤ cap
      · exact insert_shift w g cap es x vb i h hl (by omega) hc hb (fun e => hvb (fpV_at.2 e)) hx hd
      · exact insert_grow w g cap es x vb i h hl (by omega) (by omega) hb hx hd
/-- a frame among those that came early -/
def insE (l : List (Nat × List B8)) (seq : Nat) (bs : List B8) : List (Nat × List B8) := l.takeWhile (fun f => decide (f.1 < seq)) ++ (seq, bs) :: l.dropWhile (fun f => decide (f.1 < seq))
theorem tw_at : ∀ (l : List (Nat × List B8)) (seq i : Nat), i ≤ l.length → (∀ (k : Nat) (f : Nat × List B8), l[k]? = some f → k < i → f.1 < seq) → (∀ (k : Nat) (f : Nat × List B8), l[k]? = some f → i ≤ k → seq ≤ f.1) →
    l.takeWhile (fun f => decide (f.1 < seq)) = l.take i ∧ l.dropWhile (fun f => decide (f.1 < seq)) = l.drop i
  | [], seq, i, h, _, _ => by simp
  | f :: l, seq, 0, h, _, h2 => by
    have := h2 0 f rfl (Nat.le_refl _)
    have e : decide (f.1 < seq) = false := decide_eq_false (by omega)
    rw [List.takeWhile_cons, List.dropWhile_cons, e]
    simp
  | f :: l, seq, i + 1, h, h1, h2 => by
    have hf := h1 0 f rfl (by omega)
    have ih := tw_at l seq i (by simpa using h) (fun k g hg hk => h1 (k + 1) g hg (by omega)) (fun k g hg hk => h2 (k + 1) g hg (by omega))
    have e : decide (f.1 < seq) = true := decide_eq_true hf
    rw [List.takeWhile_cons, List.dropWhile_cons, e]
    simp only [if_pos, List.take_succ_cons, List.drop_succ_cons]
    exact ⟨by rw [ih.1], ih.2⟩
theorem insE_at {l : List (Nat × List B8)} {seq i : Nat} {bs : List B8} (hi : i ≤ l.length) (h1 : ∀ (k : Nat) (f : Nat × List B8), l[k]? = some f → k < i → f.1 < seq) (h2 : ∀ (k : Nat) (f : Nat × List B8), l[k]? = some f → i ≤ k → seq ≤ f.1) : insE l seq bs = l.take i ++ (seq, bs) :: l.drop i := by
  have h := tw_at l seq i hi h1 h2
  unfold insE
  rw [h.1, h.2]
/-- is the number there already? -/
def hasB (l : List (Nat × List B8)) (seq : Nat) : Bool := l.any fun f => decide (f.1 = seq)
theorem hasB_at {l : List (Nat × List B8)} {seq i : Nat} (hp : l.Pairwise fun f g => f.1 < g.1) (h1 : ∀ (k : Nat) (f : Nat × List B8), l[k]? = some f → k < i → f.1 < seq) (h2 : ∀ (k : Nat) (f : Nat × List B8), l[k]? = some f → i ≤ k → seq ≤ f.1) : hasB l seq = decide ((l[i]?).map (·.1) = some seq) := by
  unfold hasB
  rw [Bool.eq_iff_iff, List.any_eq_true, decide_eq_true_iff]
  constructor
  · rintro ⟨f, hf, he⟩
    have he := of_decide_eq_true he
    obtain ⟨k, hk⟩ := List.getElem?_of_mem hf
    rcases Nat.lt_trichotomy k i with hlt | rfl | hgt
    · have := h1 k f hk hlt; omega
    · rw [hk]; show some f.1 = some seq; rw [he]
    · have hil : i < l.length := Nat.lt_trans hgt (List.getElem?_eq_some_iff.1 hk).1
      have h3 := h2 i l[i] (List.getElem?_eq_getElem hil) (Nat.le_refl _)
      have hk2 := List.getElem?_eq_some_iff.1 hk
      have h4 := List.pairwise_iff_getElem.1 hp i k hil hk2.1 hgt
      rw [hk2.2] at h4
      omega
  · intro h
    cases hg : l[i]? with
    | none => rw [hg] at h; cases h
    | some f =>
      rw [hg] at h
      exact ⟨f, List.mem_of_getElem? hg, decide_eq_true (Option.some.inj h)⟩
/-- what comes up: those that follow one another -/
def drain : Nat → List (Nat × List B8) → List (Nat × List B8) × Nat × List (Nat × List B8)
  | dl, [] => ([], dl, [])
  | dl, f :: fs => if f.1 = dl + 1 then let r := drain (dl + 1) fs; (f :: r.1, r.2) else ([], dl, f :: fs)
def comeE (c : PC) (x : XP) (seq : Nat) (bs : List B8) : Int := if sizedB bs.length = true then (if x.delivered < seq ∧ c.win < seq - x.delivered then 84 else 0) else 81
/-- nothing new -/
def oldB (x : XP) (seq : Nat) : Bool := decide (seq ≤ x.delivered) || hasB x.early seq
def comeX (c : PC) (x : XP) (seq : Nat) (bs : List B8) : XP :=
  if comeE c x seq bs = 0 then (if oldB x seq then x else { x with delivered := (drain x.delivered (insE x.early seq bs)).2.1, early := (drain x.delivered (insE x.early seq bs)).2.2 }) else x
def ackX (c : PC) (x : XP) : XM := ⟨c.adr, 11, x.delivered, ackM x.delivered x.early, []⟩
def comeT (c : PC) (x : XP) (seq : Nat) (bs : List B8) : XT :=
  if comeE c x seq bs = 0 then (if oldB x seq then ⟨[], [ackX c x], false⟩ else ⟨(drain x.delivered (insE x.early seq bs)).1.map (fun f => ⟨c.adr, f.1, f.2⟩), [ackX c (comeX c x seq bs)], true⟩) else XT.none
end Go.Proofs.Ytjepmckofocdnaa
