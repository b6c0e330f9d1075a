
/-
  Lists of bodies in memory; the frames of bytes.
-/
import Derived.Test.YtfhoekcmkbeabaaCwWhole
namespace Go.Proofs.Ytfhoekcmkbeabaa
open Go.RowKit
set_option linter.unusedVariables false
set_option linter.unusedSimpArgs false

theorem slinfo : (Try.prog.info? 22).map (fun i => (i.zero, i.size, i.bytes)) = some (some (.slice none 0 0), 1, 24) := by kernel_rfl
/-- a list of bodies of the program's own; the bodies' bytes lie in D -/
def Bods (w : World) (V : Value) (D : Nat → Prop) (bods : List (List B8)) : Prop :=
  ∃ vs : List Value, Own w 22 1 V bods.length vs ∧ vs.length = bods.length ∧ (∀ (i : Nat) (body : List B8), bods[i]? = some body → ∃ (b : Option Addr) (c : Nat), vs[i]? = some (Value.slice b body.length c) ∧ Bs w b body ∧ (∀ k, fpA b k → D k) ∧ (b = none → body = [])) ∧ Dj (fpV V) D
theorem Bods.nil (w : World) (D : Nat → Prop) : Bods w (.slice none 0 0) D [] := ⟨[], Own.nil _ _ _, rfl, fun i b h => by simp at h, fun k hk => by simp [fpV, Value.ownBlock] at hk⟩
theorem Bods.in {w : World} {V : Value} {D : Nat → Prop} {bods : List (List B8)} (h : Bods w V D bods) : In (fpV V) w := by obtain ⟨vs, h1, _⟩ := h; exact h1.in
theorem Bods.st {w w' : World} {V : Value} {D : Nat → Prop} {bods : List (List B8)} {F F' : Nat → Prop} (h : Bods w V D bods) (t : St F w F' w') (h1 : Dj F (fpV V)) (h2 : Dj F D) : Bods w' V D bods := by
  obtain ⟨vs, ho, hl, hb, hd⟩ := h
  exact ⟨vs, ho.st t h1, hl, fun i body hi => by
    obtain ⟨b, c, e1, e2, e3, e4⟩ := hb i body hi
    exact ⟨b, c, e1, e2.st t (fun k hk hf => h2 k hk (e3 k hf)), e3, e4⟩, hd⟩
theorem Bods.wide {w : World} {V : Value} {D D' : Nat → Prop} {bods : List (List B8)} (h : Bods w V D bods) (hD : ∀ k, D k → D' k) (hd : Dj (fpV V) D') : Bods w V D' bods := by
  obtain ⟨vs, ho, hl, hb, _⟩ := h
  exact ⟨vs, ho, hl, fun i body hi => by
    obtain ⟨b, c, e1, e2, e3, e4⟩ := hb i body hi
    exact ⟨b, c, e1, e2, fun k hk => hD k (e3 k hk), e4⟩, hd⟩
theorem Bods.form {w : World} {V : Value} {D : Nat → Prop} {bods : List (List B8)} (h : Bods w V D bods) : ∃ a c, V = .slice a bods.length c := by
  obtain ⟨vs, ho, _⟩ := h
  obtain ⟨a, c, e, _⟩ := ho.form
  exact ⟨a, c, e⟩
theorem Bods.at {w : World} {a : Option Addr} {c : Nat} {D : Nat → Prop} {bods : List (List B8)} (h : Bods w (.slice a bods.length c) D bods) {i : Nat} {body : List B8} (hi : bods[i]? = some body) :
    ∃ x b d, a = some x ∧ w.cell? (x.add i) = some (.slice b body.length d) ∧ Bs w b body := by
  obtain ⟨vs, ho, hl, hb, _⟩ := h
  obtain ⟨b, d, e1, e2, _⟩ := hb i body hi
  obtain ⟨x, hx, hc⟩ := ho.rd i _ e1
  exact ⟨x, b, d, hx, hc, e2⟩

/-- append of one body -/
theorem wpList_appS {w : World} {ops : Array Oper} {rest : List Oper} {o : Oper} {ac : Act} {Q : Exit → Act → World → Prop} (hgd : o.guard = none) (s x : Operand)
    (ho : o.op = .call { callee := .builtin .append, args := #[s, x], argTypes := #[62, 62] })
    (V : Value) (D : Nat → Prop) (bods : List (List B8)) (hs : ac.eval s = V) (hown : Bods w V D bods) (hInD : In D w) (g : Nat) (b : Option Addr) (c : Nat) (body : List B8) (hx : ac.eval x = .slice (some ⟨g, 0, none⟩) 1 1)
    (hg : Ob w g 22 #[.slice b body.length c]) (hb : Bs w b body) (hbD : ∀ k, fpA b k → D k) (hbn : b = none → body = [])
    (hlen : bods.length ≤ 4294967296)
    (h : ∀ V' w', Bods w' V' D (bods ++ [body]) → St (fpV V) w (fpV V') w' → wpList Try.prog ops Q rest (ac.put o.dst V') w') : wpList Try.prog ops Q (o :: rest) ac w := by
  obtain ⟨i, hi, hz, hsz, hby⟩ := info_parts slinfo
  obtain ⟨vs, ho1, hl, hbs, hd⟩ := hown
  refine wpList_app hgd s x _ ho _ i (.slice none 0 0) 1 24 Try.underlying62 hi hz hsz hby rfl (by decide) V bods.length vs hs ho1 (some ⟨g, 0, none⟩) 1 1 [.slice b body.length c] hx ?_ (fun h => by cases h) (by unfold maxLen; omega) (by omega) ?_
  · exact ⟨rfl, hg.rd, fun u hu => by simp at hu; subst hu; rfl⟩
  · intro V' w' h1 h2 h3
    have hdj : Dj (fpV V') D := fun k hk hdk => (h2.new k hk).elim (fun hv => hd k hv hdk) (fun hl => absurd (hInD k hdk) (Nat.not_lt.2 hl))
    refine h V' w' ⟨vs ++ [.slice b body.length c], ?_, by simp [hl], ?_, hdj⟩ h2
    · rw [List.length_append]; exact h1
    · intro i bd hbi
      by_cases hlt : i < bods.length
      · rw [List.getElem?_append_left hlt] at hbi
        obtain ⟨b1, c1, e1, e2, e3, e4⟩ := hbs i bd hbi
        exact ⟨b1, c1, by rw [List.getElem?_append_left (by omega)]; exact e1, e2.st h2 (fun k hk hf => hd k hk (e3 k hf)), e3, e4⟩
      · have hie : i = bods.length := by
          have := (List.getElem?_eq_some_iff.1 hbi).1
          simp at this
          omega
        subst hie
        rw [List.getElem?_append_right (Nat.le_refl _), Nat.sub_self] at hbi
        simp only [List.getElem?_cons_zero, Option.some.injEq] at hbi
        subst hbi
        exact ⟨b, c, by rw [List.getElem?_append_right (by omega), hl, Nat.sub_self]; rfl, hb.st h2 (fun k hk hf => hd k hk (hbD k hf)), hbD, hbn⟩

/-- the frames at the front of bytes: the bodies, the bytes they take, why it ended -/
def framesB : Nat → List B8 → List (List B8) × Nat × Int
  | 0, _ => ([], 0, 0)
  | n + 1, bs => if bs = [] then ([], 0, 0) else if wholeE bs = 0 then
      (wholeO bs :: (framesB n (bs.drop (8 + (wholeO bs).length))).1, 8 + (wholeO bs).length + (framesB n (bs.drop (8 + (wholeO bs).length))).2.1, (framesB n (bs.drop (8 + (wholeO bs).length))).2.2)
    else ([], 0, wholeE bs)
theorem wholeE_len {bs : List B8} (h : wholeE bs = 0) : 8 + (wholeO bs).length ≤ bs.length := by
  have h2 := h
  unfold wholeE at h2
  unfold wholeO
  rw [if_pos h]
  split at h2
  · cases h2
  · split at h2
    · cases h2
    · split at h2
      · cases h2
      · rw [List.length_take, List.length_drop]; omega
end Go.Proofs.Ytfhoekcmkbeabaa
