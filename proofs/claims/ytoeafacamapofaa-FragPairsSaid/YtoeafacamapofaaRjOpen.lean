
/-
  The reference's Joiner in memory: a slot behind the others; a slot in another's place.
  The reference's Take: what is refused, a packet of one fragment, a packet's first fragment.
  The reference's Take: a packet's first fragment.
-/
import Derived.Test.YtoeafacamapofaaRjTick
import Derived.Test.YtoeafacamapofaaFgLookR4
import Derived.Deep.RegionHeld3
namespace Go.Proofs.Ytoeafacamapofaa
open Go.RowKit
set_option linter.unusedVariables false
set_option linter.unusedSimpArgs false

theorem St.then0 {F0 G H : Nat → Prop} {w0 w w' : World} (h : St F0 w0 G w) (k : St No w H w') (hH : ∀ j, H j → w.heap.size ≤ j) : St F0 w0 (fun j => G j ∨ H j) w' :=
  h.trans (k.wide (fun _ h => h.elim) (fun j hj => by
    rcases hj with hj | hj
    · exact .inl hj
    · exact .inr hj))
/-- a new slot behind the others -/
theorem Rj.snoc {w0 w w5 w7 : World} {F0 : Nat → Prop} {pr : Nat} {V V' VL : Value} {D : Nat → Prop} {sl ag : Nat} {ss : List SR} (h : Rj w pr V D sl ag ss) (h0 : St F0 w0 (fpRj pr V D ss) w)
    (x : Nm) (r : FR) (hr : Bs w r.a r.f.part) (hrn : r.a = none → r.c = 0) (hrl : r.f.part.length ≤ 1024) (hrD : ∀ k, fpA r.a k → w0.heap.size ≤ k ∧ k < w.heap.size ∧ ¬ fpRj pr V D ss k)
    (s5 : St No w (fpV VL) w5) (hL : Own w5 73 5 VL 1 r.cells) (hVL : ∀ k, fpV VL k → w.heap.size ≤ k)
    (s7 : St (fpV V) w5 (fpV V') w7) (ho : Own w7 182 4 V' (ss.length + 1) (ss.flatMap SR.cells ++ SR.cells ⟨x, 0, VL, [r]⟩)) :
    Rj (w7.setCell ⟨pr, 2, none⟩ V') pr V' (fun k => D k ∨ fpA r.a k) sl ag (ss ++ [⟨x, 0, VL, [r]⟩]) ∧ St F0 w0 (fpRj pr V' (fun k => D k ∨ fpA r.a k) (ss ++ [⟨x, 0, VL, [r]⟩])) (w7.setCell ⟨pr, 2, none⟩ V') := by
  have hin := h.in
  have hpl := h.ob.lt
  have hst := St.setCell (F := fpB pr) w7 ⟨pr, 2, none⟩ V' rfl
  have hfB : ∀ k, fpB pr k → k = pr := fun k hk => hk
  have hVin := h.own.in
  have hV' : ∀ k, fpV V' k → fpV V k ∨ w5.heap.size ≤ k := fun k hk => s7.new k hk
  have hV5 : ∀ k, fpV V' k → k < w.heap.size → fpV V k := fun k hk hl => (hV' k hk).elim id (fun h => absurd (Nat.lt_of_lt_of_le hl s5.size) (Nat.not_lt.2 h))
  have hVLin := hL.in
  have hs07 : St (fpV V) w (fun k => fpV V' k ∨ fpV VL k) w7 := by
    refine ⟨s7.os.trans s5.os, s7.tape.trans s5.tape, s7.output.trans s5.output, Nat.le_trans s5.size s7.size, fun k hk hn => ?_, fun k hk => ?_⟩
    · rw [s7.block k (Nat.lt_of_lt_of_le hk s5.size) hn]
      exact s5.block k hk (fun e => e)
    · rcases hk with hk | hk
      · exact (hV' k hk).imp id (fun h => Nat.le_trans s5.size h)
      · exact .inr (hVL k hk)
  refine ⟨⟨?_, ?_, ?_, ?_, ?_, ?_, ?_, ?_, ?_, ?_, ?_, ?_⟩, ?_⟩
  · exact (h.ob.move (hs07.block pr hpl h.vp)).set 2 V'
  · rw [List.length_append, List.flatMap_append]
    simp only [List.length_cons, List.length_nil, List.flatMap_cons, List.flatMap_nil, List.append_nil]
    exact ho.st hst (fun k hk hv => by
      rw [hfB k hk] at hv
      exact h.vp (hV5 pr hv hpl))
  · intro t ht
    rcases List.mem_append.1 ht with ht | ht
    · exact ((h.lst t ht).st hs07 (fun k a b => h.lV t ht k b a)).st hst (fun k hk hv => h.lp t ht (by rw [← hfB k hk]; exact hv))
    · rw [List.mem_singleton.1 ht]
      simp only [List.length_cons, List.length_nil, List.flatMap_cons, List.flatMap_nil, List.append_nil]
      refine (hL.st s7 (fun k a b => ?_)).st hst (fun k hk hv => ?_)
      · have := hVin k a
        have := hVL k b
        omega
      · rw [hfB k hk] at hv
        have := hVL pr hv
        omega
  · intro t ht g hg
    rcases List.mem_append.1 ht with ht | ht
    · obtain ⟨p1, p2, p3, p4⟩ := h.prt t ht g hg
      refine ⟨(p1.st hs07 (fun k a b => h.vD k a (p2 k b))).st hst (fun k hk ha => h.pD (by rw [← hfB k hk]; exact p2 k ha)), fun k hk => .inl (p2 k hk), p3, p4⟩
    · rw [List.mem_singleton.1 ht] at hg
      rw [List.mem_singleton.1 hg]
      refine ⟨(hr.st hs07 (fun k a b => (hrD k b).2.2 (.inr (.inl a)))).st hst (fun k hk ha => (hrD k ha).2.2 (.inl (hfB k hk))), fun k hk => .inr hk, hrn, hrl⟩
  · intro k hk
    have hz : w.heap.size ≤ (w7.setCell ⟨pr, 2, none⟩ V').heap.size := Nat.le_trans hs07.size hst.size
    rcases hk with hk | hk
    · exact Nat.lt_of_lt_of_le (h.inD k hk) hz
    · exact Nat.lt_of_lt_of_le (hrD k hk).2.1 hz
  · intro hv
    exact h.vp (hV5 pr hv hpl)
  · intro k hv hk
    rcases hk with hk | hk
    · exact h.vD k (hV5 k hv (h.inD k hk)) hk
    · exact (hrD k hk).2.2 (.inr (.inl (hV5 k hv (hrD k hk).2.1)))
  · intro hk
    rcases hk with hk | hk
    · exact h.pD hk
    · exact (hrD pr hk).2.2 (.inl rfl)
  · intro t ht k hk hv
    rcases List.mem_append.1 ht with ht | ht
    · exact h.lV t ht k hk (hV5 k hv ((h.lst t ht).in k hk))
    · rw [List.mem_singleton.1 ht] at hk
      have h1 := hVL k hk
      have h2 := hVLin k hk
      rcases hV' k hv with h3 | h3
      · have := hVin k h3
        omega
      · omega
  · intro t ht hk
    rcases List.mem_append.1 ht with ht | ht
    · exact h.lp t ht hk
    · rw [List.mem_singleton.1 ht] at hk
      have := hVL pr hk
      omega
  · intro t ht k hk hd
    rcases List.mem_append.1 ht with ht | ht
    · rcases hd with hd | hd
      · exact h.lD t ht k hk hd
      · exact (hrD k hd).2.2 (.inr (.inr (.inr ⟨t, ht, hk⟩)))
    · rw [List.mem_singleton.1 ht] at hk
      have := hVL k hk
      rcases hd with hd | hd
      · have := h.inD k hd
        omega
      · have := (hrD k hd).2.1
        omega
  · apply pw_apart
    rw [List.map_append, List.pairwise_append]
    refine ⟨apart_pw h.apart, by simp, fun a ha b hb k hk1 hk2 => ?_⟩
    obtain ⟨t, ht, rfl⟩ := List.mem_map.1 ha
    simp [SR.vl] at hb
    rw [hb] at hk2
    have := (h.lst t ht).in k hk1
    have := hVL k hk2
    omega
  · have hs1 : St F0 w0 (fpRj pr V' (fun k => D k ∨ fpA r.a k) (ss ++ [⟨x, 0, VL, [r]⟩])) w7 := by
      refine ⟨hs07.os.trans h0.os, hs07.tape.trans h0.tape, hs07.output.trans h0.output, Nat.le_trans h0.size hs07.size, fun k hk hn => ?_, fun k hk => ?_⟩
      · rw [hs07.block k (Nat.lt_of_lt_of_le hk h0.size) (fun hv => (h0.new k (.inr (.inl hv))).elim hn (fun h => by omega)), h0.block k hk hn]
      · have hz := h0.size
        have hz5 := s5.size
        rcases hk with hk | hk | hk | ⟨t, ht, hk⟩
        · exact h0.new k (.inl hk)
        · rcases hV' k hk with h3 | h3
          · exact h0.new k (.inr (.inl h3))
          · exact .inr (by omega)
        · rcases hk with hk | hk
          · exact h0.new k (.inr (.inr (.inl hk)))
          · exact .inr (hrD k hk).1
        · rcases List.mem_append.1 ht with ht | ht
          · exact h0.new k (.inr (.inr (.inr ⟨t, ht, hk⟩)))
          · rw [List.mem_singleton.1 ht] at hk
            have := hVL k hk
            exact .inr (by omega)
    have hpr : ∀ k, k = pr → fpRj pr V' (fun k => D k ∨ fpA r.a k) (ss ++ [⟨x, 0, VL, [r]⟩]) k := fun k hk => .inl hk
    refine ⟨hst.os.trans hs1.os, hst.tape.trans hs1.tape, hst.output.trans hs1.output, Nat.le_trans hs1.size hst.size, fun k hk hn => ?_, fun k hk => hs1.new k hk⟩
    rw [hst.block k (Nat.lt_of_lt_of_le hk hs1.size) (fun e => ?_)]
    · exact hs1.block k hk hn
    · have e' := hfB k e
      rcases h0.new k (.inl e') with h3 | h3
      · exact hn h3
      · omega
/-- a slot of the list in memory, another one in its place -/
theorem flat_set4 (L : List SR) (i : Nat) (s : SR) (hi : i < L.length) : (((((L.flatMap SR.cells).set (i * 4) (.int .i64 s.key.1)).set (i * 4 + 1) (.int .u64 s.key.2)).set (i * 4 + 2) (.int .i64 s.age)).set (i * 4 + 3) s.V) = (L.set i s).flatMap SR.cells := by
  induction L generalizing i with
  | nil => simp at hi
  | cons t L ih =>
    obtain ⟨⟨k1, k2⟩, age, V, l⟩ := t
    cases i with
    | zero =>
      obtain ⟨⟨j1, j2⟩, age2, V2, l2⟩ := s
      simp [SR.cells]
    | succ i =>
      have := ih i (by simpa using hi)
      have e0 : (i + 1) * 4 = i * 4 + 4 := by omega
      rw [List.set_cons_succ, List.flatMap_cons, List.flatMap_cons, e0, ← this]
      simp [SR.cells]
theorem pair_set {α : Type} {R : α → α → Prop} (hsym : ∀ a b, R a b → R b a) {l : List α} {i : Nat} {x : α} (h : l.Pairwise R) (hx : ∀ (j : Nat) (y : α), j ≠ i → l[j]? = some y → R x y) : (l.set i x).Pairwise R := by
  rw [List.pairwise_iff_getElem] at h ⊢
  intro a b ha hb hab
  rw [List.length_set] at ha hb
  rw [List.getElem_set, List.getElem_set]
  by_cases e1 : i = a
  · rw [if_pos e1, if_neg (by omega)]
    exact hx b _ (by omega) (List.getElem?_eq_getElem hb)
  · rw [if_neg e1]
    by_cases e2 : i = b
    · rw [if_pos e2]
      exact hsym _ _ (hx a _ (by omega) (List.getElem?_eq_getElem ha))
    · rw [if_neg e2]
      exact h a b ha hb hab
/-- a fragment more in slot i: its list has grown, the slot is stored -/
theorem Rj.put {w0 w w7 : World} {F0 : Nat → Prop} {pr g c : Nat} {V2 : Value} {D : Nat → Prop} {sl ag : Nat} {ss : List SR} (h : Rj w pr (.slice (some ⟨g, 0, none⟩) ss.length c) D sl ag ss) (h0 : St F0 w0 (fpRj pr (.slice (some ⟨g, 0, none⟩) ss.length c) D ss) w)
    (i : Nat) (s : SR) (hi : ss[i]? = some s) (r : FR) (hr : Bs w r.a r.f.part) (hrn : r.a = none → r.c = 0) (hrl : r.f.part.length ≤ 1024) (hrD : ∀ k, fpA r.a k → w0.heap.size ≤ k ∧ k < w.heap.size ∧ ¬ fpRj pr (.slice (some ⟨g, 0, none⟩) ss.length c) D ss k)
    (s7 : St (fpV s.V) w (fpV V2) w7) (ho : Own w7 73 5 V2 (s.l.length + 1) (s.l.flatMap FR.cells ++ r.cells)) :
    Rj ((((w7.setCell ⟨g, i * 4, none⟩ (.int .i64 s.key.1)).setCell ⟨g, i * 4 + 1, none⟩ (.int .u64 s.key.2)).setCell ⟨g, i * 4 + 2, none⟩ (.int .i64 s.age)).setCell ⟨g, i * 4 + 3, none⟩ V2) pr (.slice (some ⟨g, 0, none⟩) ss.length c) (fun k => D k ∨ fpA r.a k) sl ag (ss.set i ⟨s.key, s.age, V2, s.l ++ [r]⟩) ∧
    St F0 w0 (fpRj pr (.slice (some ⟨g, 0, none⟩) ss.length c) (fun k => D k ∨ fpA r.a k) (ss.set i ⟨s.key, s.age, V2, s.l ++ [r]⟩)) ((((w7.setCell ⟨g, i * 4, none⟩ (.int .i64 s.key.1)).setCell ⟨g, i * 4 + 1, none⟩ (.int .u64 s.key.2)).setCell ⟨g, i * 4 + 2, none⟩ (.int .i64 s.age)).setCell ⟨g, i * 4 + 3, none⟩ V2) ∧
    St (fpV s.V) w (fpV V2) w7 ∧ ¬ fpV V2 g := by
  have hil := (List.getElem?_eq_some_iff.1 hi).1
  have hsm := List.mem_of_getElem? hi
  have hin := h.in
  have hpl := h.ob.lt
  have hgV : fpV (.slice (some ⟨g, 0, none⟩) ss.length c) g := rfl
  have hVg : ∀ k, fpV (.slice (some ⟨g, 0, none⟩) ss.length c) k → k = g := fun k hk => by
    have : some g = some k := hk
    exact (Option.some.inj this).symm
  have hgl : g < w.heap.size := h.own.in g hgV
  have hgp : g ≠ pr := fun e => h.vp (e ▸ hgV)
  have hst : St (fpB g) w7 (fpB g) ((((w7.setCell ⟨g, i * 4, none⟩ (.int .i64 s.key.1)).setCell ⟨g, i * 4 + 1, none⟩ (.int .u64 s.key.2)).setCell ⟨g, i * 4 + 2, none⟩ (.int .i64 s.age)).setCell ⟨g, i * 4 + 3, none⟩ V2) :=
    have hg : fpB g g := rfl
    (((St.setCell (F := fpB g) w7 ⟨g, i * 4, none⟩ _ hg).trans (St.setCell (F := fpB g) _ ⟨g, i * 4 + 1, none⟩ _ hg)).trans (St.setCell (F := fpB g) _ ⟨g, i * 4 + 2, none⟩ _ hg)).trans (St.setCell (F := fpB g) _ ⟨g, i * 4 + 3, none⟩ _ hg)
  have hfB : ∀ k, fpB g k → k = g := fun k hk => hk
  have hV2 : ∀ k, fpV V2 k → fpV s.V k ∨ w.heap.size ≤ k := fun k hk => s7.new k hk
  have hV2w : ∀ k, fpV V2 k → k < w.heap.size → fpV s.V k := fun k hk hl => (hV2 k hk).elim id (fun h => absurd hl (Nat.not_lt.2 h))
  have hV2g : ¬ fpV V2 g := fun hk => h.lV s hsm g (hV2w g hk hgl) hgV
  have hmem : ∀ t ∈ ss.set i ⟨s.key, s.age, V2, s.l ++ [r]⟩, (t = ⟨s.key, s.age, V2, s.l ++ [r]⟩) ∨ ∃ j, j ≠ i ∧ ss[j]? = some t := fun t ht => by
    obtain ⟨j, hj⟩ := List.getElem?_of_mem ht
    by_cases e : i = j
    · subst e
      rw [List.getElem?_set_self hil] at hj
      exact .inl (Option.some.inj hj).symm
    · rw [List.getElem?_set_ne e] at hj
      exact .inr ⟨j, fun e2 => e e2.symm, hj⟩
  have hap : ∀ (j : Nat) (t : SR), j ≠ i → ss[j]? = some t → Dj (fpV s.V) (fpV t.V) := fun j t hj ht => h.apart i j s t (fun e => hj e.symm) hi ht
  have hw7 : w.heap.size ≤ w7.heap.size := s7.size
  refine ⟨⟨?_, ?_, ?_, ?_, ?_, h.vp, ?_, ?_, ?_, ?_, ?_, ?_⟩, ?_, s7, hV2g⟩
  · exact (h.ob.move (s7.block pr hpl (h.lp s hsm))).move (hst.block pr (Nat.lt_of_lt_of_le hpl s7.size) (fun e => hgp (hfB pr e).symm))
  · have h1 := h.own.st s7 (fun k a b => h.lV s hsm k a b)
    have h2 := (((h1.set (i * 4) (.int .i64 s.key.1)).set (i * 4 + 1) (.int .u64 s.key.2)).set (i * 4 + 2) (.int .i64 s.age)).set (i * 4 + 3) V2
    rw [← flat_set4 ss i ⟨s.key, s.age, V2, s.l ++ [r]⟩ hil, List.length_set]
    exact h2
  · intro t ht
    rcases hmem t ht with rfl | ⟨j, hj, hjt⟩
    · show Own _ _ 5 V2 (s.l ++ [r]).length ((s.l ++ [r]).flatMap FR.cells)
      rw [List.length_append, List.flatMap_append]
      simp only [List.length_cons, List.length_nil, List.flatMap_cons, List.flatMap_nil, List.append_nil]
      exact ho.st hst (fun k hk hv => hV2g (by rw [← hfB k hk]; exact hv))
    · have htm := List.mem_of_getElem? hjt
      exact ((h.lst t htm).st s7 (hap j t hj hjt)).st hst (fun k hk hv => h.lV t htm g (by rw [← hfB k hk]; exact hv) hgV)
  · intro t ht q hq
    have hold : ∀ u ∈ ss, ∀ q ∈ u.l, Bs ((((w7.setCell ⟨g, i * 4, none⟩ (.int .i64 s.key.1)).setCell ⟨g, i * 4 + 1, none⟩ (.int .u64 s.key.2)).setCell ⟨g, i * 4 + 2, none⟩ (.int .i64 s.age)).setCell ⟨g, i * 4 + 3, none⟩ V2) q.a q.f.part ∧ (∀ k, fpA q.a k → D k ∨ fpA r.a k) ∧ (q.a = none → q.c = 0) ∧ q.f.part.length ≤ 1024 := fun u hu q hq => by
      obtain ⟨p1, p2, p3, p4⟩ := h.prt u hu q hq
      refine ⟨(p1.st s7 (fun k a b => h.lD s hsm k a (p2 k b))).st hst (fun k hk ha => ?_), fun k hk => .inl (p2 k hk), p3, p4⟩
      rw [hfB k hk] at ha
      exact h.vD g hgV (p2 g ha)
    rcases hmem t ht with rfl | ⟨j, hj, hjt⟩
    · rcases List.mem_append.1 hq with hq | hq
      · exact hold s hsm q hq
      · rw [List.mem_singleton.1 hq]
        refine ⟨(hr.st s7 (fun k a b => (hrD k b).2.2 (.inr (.inr (.inr ⟨s, hsm, a⟩))))).st hst (fun k hk ha => ?_), fun k hk => .inr hk, hrn, hrl⟩
        rw [hfB k hk] at ha
        exact (hrD g ha).2.2 (.inr (.inl hgV))
    · exact hold t (List.mem_of_getElem? hjt) q hq
  · intro k hk
    have hz := Nat.le_trans s7.size hst.size
    rcases hk with hk | hk
    · exact Nat.lt_of_lt_of_le (h.inD k hk) hz
    · exact Nat.lt_of_lt_of_le (hrD k hk).2.1 hz
  · intro k hv hk
    rcases hk with hk | hk
    · exact h.vD k hv hk
    · exact (hrD k hk).2.2 (.inr (.inl hv))
  · intro hk
    rcases hk with hk | hk
    · exact h.pD hk
    · exact (hrD pr hk).2.2 (.inl rfl)
  · intro t ht k hk hv
    rcases hmem t ht with rfl | ⟨j, hj, hjt⟩
    · rw [hVg k hv] at hk
      exact hV2g hk
    · exact h.lV t (List.mem_of_getElem? hjt) k hk hv
  · intro t ht hk
    rcases hmem t ht with rfl | ⟨j, hj, hjt⟩
    · exact h.lp s hsm (hV2w pr hk hpl)
    · exact h.lp t (List.mem_of_getElem? hjt) hk
  · intro t ht k hk hd
    rcases hmem t ht with rfl | ⟨j, hj, hjt⟩
    · rcases hd with hd | hd
      · exact h.lD s hsm k (hV2w k hk (h.inD k hd)) hd
      · exact (hrD k hd).2.2 (.inr (.inr (.inr ⟨s, hsm, hV2w k hk (hrD k hd).2.1⟩)))
    · rcases hd with hd | hd
      · exact h.lD t (List.mem_of_getElem? hjt) k hk hd
      · exact (hrD k hd).2.2 (.inr (.inr (.inr ⟨t, List.mem_of_getElem? hjt, hk⟩)))
  · apply pw_apart
    rw [List.map_set]
    refine pair_set (fun a b h => Dj.symm h) (apart_pw h.apart) (fun j y hj hy k hk1 hk2 => ?_)
    rw [List.getElem?_map] at hy
    obtain ⟨t, ht, rfl⟩ := Option.map_eq_some_iff.1 hy
    have htm := List.mem_of_getElem? ht
    exact hap j t hj ht k (hV2w k hk1 ((h.lst t htm).in k hk2)) hk2
  · have hs1 : St F0 w0 (fpRj pr (.slice (some ⟨g, 0, none⟩) ss.length c) (fun k => D k ∨ fpA r.a k) (ss.set i ⟨s.key, s.age, V2, s.l ++ [r]⟩)) w7 := by
      refine ⟨s7.os.trans h0.os, s7.tape.trans h0.tape, s7.output.trans h0.output, Nat.le_trans h0.size s7.size, fun k hk hn => ?_, fun k hk => ?_⟩
      · rw [s7.block k (Nat.lt_of_lt_of_le hk h0.size) (fun hv => (h0.new k (.inr (.inr (.inr ⟨s, hsm, hv⟩)))).elim hn (fun h => by omega)), h0.block k hk hn]
      · have hz := h0.size
        rcases hk with hk | hk | hk | ⟨t, ht, hk⟩
        · exact h0.new k (.inl hk)
        · exact h0.new k (.inr (.inl hk))
        · rcases hk with hk | hk
          · exact h0.new k (.inr (.inr (.inl hk)))
          · exact .inr (hrD k hk).1
        · rcases hmem t ht with rfl | ⟨j, hj, hjt⟩
          · rcases hV2 k hk with h3 | h3
            · exact h0.new k (.inr (.inr (.inr ⟨s, hsm, h3⟩)))
            · exact .inr (by omega)
          · exact h0.new k (.inr (.inr (.inr ⟨t, List.mem_of_getElem? hjt, hk⟩)))
    refine ⟨hst.os.trans hs1.os, hst.tape.trans hs1.tape, hst.output.trans hs1.output, Nat.le_trans hs1.size hst.size, fun k hk hn => ?_, fun k hk => hs1.new k hk⟩
    rw [hst.block k (Nat.lt_of_lt_of_le hk hs1.size) (fun e => ?_)]
    · exact hs1.block k hk hn
    · have e' := hfB k e
      rcases h0.new k (.inr (.inl (by rw [e']; exact hgV))) with h3 | h3
      · exact hn h3
      · omega
end Go.Proofs.Ytoeafacamapofaa
namespace Go.Proofs.Ytoeafacamapofaa
open Go.RowKit
set_option linter.unusedVariables false
set_option linter.unusedSimpArgs false

def RTakeJ (w : World) (F : Nat → Prop) (pr sl ag : Nat) (t : RTP) (e : Ending) (w' : World) : Prop :=
  ∃ V F', e = .returned (.tuple #[V, .bool t.whole, .int .i64 t.er]) ∧ OwB w' V t.out ∧ RJ w' F' pr sl ag t.rs ∧ St F w (fun k => F' k ∨ fpV V k) w' ∧ Dj (fpV V) F'
theorem RTakeJ.same {w w' : World} {F : Nat → Prop} {pr sl ag : Nat} {rs : List RSl} (h : RJ w F pr sl ag rs) (s : St No w No w') (er : Int) : RTakeJ w F pr sl ag ⟨[], false, er, rs⟩ (.returned (.tuple #[.slice none 0 0, .bool false, .int .i64 er])) w' := by
  refine ⟨.slice none 0 0, F, rfl, OwB.nil _, h.st s (Dj.no _), ?_, fun k hk => ?_⟩
  · exact s.wide (fun _ h => h.elim) (fun k hk => by
      rcases hk with hk | hk
      · exact .inl hk
      · simp [fpV, Value.ownBlock] at hk)
  · simp [fpV, Value.ownBlock] at hk
set_option maxRecDepth 100000 in
set_option maxHeartbeats 1000000 in
theorem rtake_early (w : World) (F : Nat → Prop) (pr sl ag : Nat) (rs : List RSl) (frm : Int) (h : RJ w F pr sl ag rs) (a : Option Addr) (c : Nat) (d : List B8) (hd : d.length ≤ 140737488351300) (hlc : d.length ≤ c) (hcm : c ≤ maxLen) (ha : Bs w a d)
    (hearly : frm = 255 ∨ lookE d ≠ 0 ∨ (lookF d).count = 1) :
    Calls Try.prog 91 #[.pointer (some ⟨pr, 0, none⟩), .int .i64 frm, .slice a d.length c] w (RTakeJ w F pr sl ag (rTake sl rs frm d)) := by
  by_cases h255 : frm = 255
  · subst h255
    have e : rTake sl rs 255 d = ⟨[], false, 45, rs⟩ := by unfold rTake; rw [if_pos rfl]
    rw [e]
    clear e hearly
    go_enter Try.func91, Try.ntmps91
    go_wp2_with fail
    go_ret3
    exact RTakeJ.same h (St.refl _ _) 45
  have h255b : (frm == 255) = false := by simpa using h255
  by_cases hE : lookE d = 0
  · have hC : (lookF d).count = 1 := by
      rcases hearly with h | h | h
      · exact absurd h h255
      · exact absurd hE h
      · exact h
    have e : rTake sl rs frm d = ⟨(lookF d).part, true, 0, rs⟩ := by unfold rTake; rw [if_neg h255, if_neg (by simp [hE]), if_pos hC]
    rw [e]
    have hlk := refLook_calls a c d (by omega) hlc hcm w ha
    rw [hE] at hlk
    generalize lookF d = f at *
    obtain ⟨fid, fix, fct, ftt, fpt⟩ := f
    simp only at hC
    subst hC
    have H := Lib.hid h
    clear e hearly h ha
    go_enter Try.func91, Try.ntmps91
    go_wp2_with fail
    refine hlk.mono ?_
    rintro e w1 ⟨V, rfl, ho, hs⟩
    obtain ⟨va, vc, rfl, _, _, _, _⟩ := ho.form
    have HO := Lib.hid ho
    have HS := Lib.hid hs
    clear ho hs hlk
    go_wp2_with fail
    go_ret3
    refine ⟨_, F, rfl, HO.out.st (St.alloc' No w1 _) (Dj.no _), (H.out.st HS.out (Dj.no _)).st (St.alloc' No w1 _) (Dj.no _), ?_, ?_⟩
    · have h1 := HS.out.trans (St.alloc' (fpV (.slice va fpt.length vc)) w1 (.cells #[.int .u64 (fid.toNat : Int), .int .i64 fix, .int .i64 1, .int .i64 ftt, .slice va fpt.length vc] 73))
      exact h1.wide (fun _ h => h.elim) (fun k hk => hk)
    · intro k hk hf
      have := H.out.in k hf
      have := (HS.out.new k hk).elim (fun h => h.elim) (fun h => h)
      omega
  · have e : rTake sl rs frm d = ⟨[], false, lookE d, rs⟩ := by unfold rTake; rw [if_neg h255, if_pos hE]
    rw [e]
    have hlk := refLook_calls a c d (by omega) hlc hcm w ha
    have hEb : (lookE d != 0) = true := by simpa using hE
    have hfp : (lookF d).part = [] := by unfold lookF; rw [if_neg hE]; rfl
    generalize lookF d = f at *
    generalize lookE d = er at *
    obtain ⟨fid, fix, fct, ftt, fpt⟩ := f
    have H := Lib.hid h
    clear e hearly h ha
    go_enter Try.func91, Try.ntmps91
    go_wp2_with fail
    refine hlk.mono ?_
    rintro e w1 ⟨V, rfl, ho, hs⟩
    obtain ⟨va, vc, rfl, _, _, _, _⟩ := ho.form
    have HO := Lib.hid ho
    have HS := Lib.hid hs
    clear ho hs hlk
    go_wp2_with fail
    go_ret3
    refine RTakeJ.same H.out ?_ er
    exact (St.drop HS.out (fun k hk => hk.elim)).trans (St.alloc' No w1 _)
end Go.Proofs.Ytoeafacamapofaa
namespace Go.Proofs.Ytoeafacamapofaa
open Go.RowKit
set_option linter.unusedVariables false
set_option linter.unusedSimpArgs false

theorem srTwo (w : World) (o : Obj) (a b c : Value) (V : Value) (ha : a.oneCell' = true) (hb : b.oneCell' = true) (hc : c.oneCell' = true) (hV : V.oneCell' = true) : Src ((w.alloc o).alloc (.cells #[a, b, c, V] 182)) (some ⟨w.heap.size + 1, 0, none⟩) 1 4 [a, b, c, V] := by
  have h := srOne (w.alloc o) a b c V ha hb hc hV
  rwa [show (w.alloc o).heap.size = w.heap.size + 1 by simp] at h
theorem flOne (w : World) (r : FR) : Own (w.alloc (.cells r.cells.toArray 73)) 73 5 (.slice (some ⟨w.heap.size, 0, none⟩) 1 1) 1 r.cells := by
  refine ⟨rfl, .inr ⟨w.heap.size, 1, _, by simp, Nat.zero_le _, Ob.alloc w _ _, by simp, by unfold maxLen; omega, ?_, ?_⟩⟩
  · simp [FR.cells]
  · simp [FR.cells]
theorem map_erase {α β : Type} (f : α → β) : ∀ (l : List α) (i : Nat), (l.map f).eraseIdx i = (l.eraseIdx i).map f
  | [], i => by simp
  | a :: l, 0 => by simp
  | a :: l, i + 1 => by simp [map_erase f l i]
theorem St.newF {F G : Nat → Prop} {w w' : World} (h : St No w G w') (hF : ∀ k, F k → w.heap.size ≤ k) : St No w F w' := ⟨h.os, h.tape, h.output, h.size, h.block, fun k hk => .inr (hF k hk)⟩
def OpenJ (w0 : World) (F : Nat → Prop) (pr sl ag : Nat) (rs : List RSl) (e : Ending) (w' : World) : Prop :=
  e = .returned (.tuple #[.slice none 0 0, .bool false, .int .i64 0]) ∧ ∃ F', RJ w' F' pr sl ag rs ∧ St F w0 F' w'
set_option maxRecDepth 100000 in
set_option maxHeartbeats 2000000 in
theorem rtake_open (w : World) (F : Nat → Prop) (pr sl ag : Nat) (rs : List RSl) (hlen : rs.length ≤ 65536) (frm : Int) (h : RJ w F pr sl ag rs) (a : Option Addr) (c : Nat) (d : List B8) (hd : d.length ≤ 140737488351300) (hlc : d.length ≤ c) (hcm : c ≤ maxLen) (ha : Bs w a d)
    (h255 : frm ≠ 255) (hE : lookE d = 0) (hC : (lookF d).count ≠ 1) (hat : atT (frm, ((lookF d).id.toNat : Int)) rs rs.length < 0) (hsl : 1 ≤ sl) :
    Calls Try.prog 91 #[.pointer (some ⟨pr, 0, none⟩), .int .i64 frm, .slice a d.length c] w (OpenJ w F pr sl ag (rOpen sl rs (frm, ((lookF d).id.toNat : Int)) (lookF d))) := by
  have h255b : (frm == 255) = false := by simpa using h255
  have hlk := refLook_calls a c d (by omega) hlc hcm w ha
  rw [hE] at hlk
  obtain ⟨_, _, hpl1⟩ := look_ok hE
  have HR : Hid (rOpen sl rs (frm, ((lookF d).id.toNat : Int)) (lookF d) = rOpen sl rs (frm, ((lookF d).id.toNat : Int)) (lookF d)) := Lib.hid rfl
  generalize hq : rOpen sl rs (frm, ((lookF d).id.toNat : Int)) (lookF d) = q at HR ⊢
  have hCb : (((lookF d).count : Int) == 1) = false := beq_eq_false_iff_ne.2 (by omega)
  have HQ := Lib.hid hq
  generalize lookF d = f at *
  obtain ⟨fid, fix, fct, ftt, fpt⟩ := f
  simp only at hC hat hpl1 hCb
  obtain ⟨V, D, L, hj, hpl, hF⟩ := h
  have hll : L.length ≤ 65536 := by rw [← hpl] at hlen; simpa using hlen
  have hlr : rs.length = L.length := by rw [← hpl, List.length_map]
  have hin := hj.in
  obtain ⟨va0, vc0, rfl, _, _, _, _⟩ := hj.own.form
  obtain ⟨ti, hti, hz, hsz, hby⟩ := info_parts rjZero
  have HTI := Lib.hid hti
  have HZ := Lib.hid hz
  have HSZ := Lib.hid hsz
  have HBY := Lib.hid hby
  have HJ := Lib.hid hj
  have HPL := Lib.hid hpl
  have HF := Lib.hid hF
  have HIN := Lib.hid hin
  have HHC : Hid (¬ (fct = 1)) := Lib.hid hC
  have hprl := hj.ob.lt
  clear hq HR ha hlc hcm hC hj hpl hF hti hz hsz hby hin hd
  go_enter Try.func91, Try.ntmps91
  go_wp2_with fail
  refine hlk.mono ?_
  rintro e w1 ⟨VP, rfl, ho, hs⟩
  clear hlk
  obtain ⟨pa, pc, rfl, hpc, _, hfpp, hpn⟩ := ho.form
  have HB0 : Hid (Ob (w1.alloc (.cells #[.int .u64 (fid.toNat : Int), .int .i64 fix, .int .i64 fct, .int .i64 ftt, .slice pa fpt.length pc] 73)) w1.heap.size 73 #[.int .u64 (fid.toNat : Int), .int .i64 fix, .int .i64 fct, .int .i64 ftt, .slice pa fpt.length pc]) := Lib.hid (Ob.alloc w1 _ _)
  have HS2 : Hid (St No w (Nw w) (w1.alloc (.cells #[.int .u64 (fid.toNat : Int), .int .i64 fix, .int .i64 fct, .int .i64 ftt, .slice pa fpt.length pc] 73))) := Lib.hid (hs.toNew.then (St.alloc' No w1 _))
  have hbs : Bs (w1.alloc (.cells #[.int .u64 (fid.toNat : Int), .int .i64 fix, .int .i64 fct, .int .i64 ftt, .slice pa fpt.length pc] 73)) pa fpt := (OwB.bs ho).st (St.alloc' No w1 _) (Dj.no _)
  have HBS := Lib.hid hbs
  have hpD : ∀ k, fpA pa k → w.heap.size ≤ k ∧ k < w1.heap.size := fun k hk => by
    have hv := (hfpp k).2 hk
    exact ⟨(hs.new k hv).elim (fun h => h.elim) (fun h => h), ho.in k hv⟩
  have HPD := Lib.hid hpD
  have HPN : Hid (pa = none → pc = 0) := Lib.hid (fun e => (hpn e).2)
  have hw1 : w.heap.size ≤ w1.heap.size := hs.size
  clear ho hs hbs hpD hpn hfpp hpc
  go_wp2_with fail
  generalize hg2 : (w1.alloc (.cells #[.int .u64 (fid.toNat : Int), .int .i64 fix, .int .i64 fct, .int .i64 ftt, .slice pa fpt.length pc] 73)) = w2 at *
  have hw2 : w2.heap.size = w1.heap.size + 1 := by rw [← hg2]; simp
  have HW2 := Lib.hid hw2
  clear hg2 hw2
  have hj2 := HJ.out.st HS2.out (Dj.no _)
  refine (rfind_calls w2 pr _ D sl ag L hll hj2 frm (fid.toNat : Int)).mono ?_
  rintro e w3 ⟨rfl, rfl⟩
  have HPL2 := HPL.out
  have hatL : atT (frm, (fid.toNat : Int)) (L.map SR.pl) L.length < 0 := by rw [HPL.out, ← hlr]; exact hat
  have hha := hadT_le frm (L.map SR.pl) L.length
  have hfb := firstT_lt frm (L.map SR.pl) L.length
  have HRO : Hid (q = (if sl ≤ hadT frm (L.map SR.pl) L.length then (L.map SR.pl).eraseIdx (firstT frm (L.map SR.pl) L.length).toNat else L.map SR.pl) ++ [⟨(frm, (fid.toNat : Int)), 0, [⟨fid, fix, fct, ftt, fpt⟩]⟩]) := Lib.hid (by rw [← HQ.out]; unfold rOpen; rw [HPL.out, hlr])
  have HFN : Hid (1 ≤ hadT frm (L.map SR.pl) L.length → 0 ≤ firstT frm (L.map SR.pl) L.length) := Lib.hid (fun h1 => by
    rcases firstT_at frm (L.map SR.pl) L.length (by simp) with ⟨h2, h3⟩ | ⟨i, _, _, h2, _⟩
    · have := hadT_take frm (L.map SR.pl) L.length (by simp)
      rw [show (L.map SR.pl).take L.length = L.map SR.pl from List.take_of_length_le (by simp)] at this
      rw [this] at h1
      obtain ⟨u, hu⟩ := List.exists_mem_of_length_pos (Nat.lt_of_lt_of_le Nat.zero_lt_one h1)
      obtain ⟨hu1, hu2⟩ := List.mem_filter.1 hu
      obtain ⟨j, hj⟩ := List.getElem?_of_mem hu1
      obtain ⟨hjl, rfl⟩ := List.getElem?_eq_some_iff.1 hj
      exact absurd (by simpa using hu2) (h3 j hjl (by simpa using hjl))
    · omega)
  generalize atT (frm, (fid.toNat : Int)) (L.map SR.pl) L.length = A at *
  generalize hadT frm (L.map SR.pl) L.length = B at *
  generalize firstT frm (L.map SR.pl) L.length = G at *
  clear HPL2 hat
  have d0 : w2.cell? ⟨pr, 0, none⟩ = some (.int .i64 (sl : Int)) := by rw [hj2.ob.cell 0]; rfl
  have d2 : w2.cell? ⟨pr, 2, none⟩ = some (.slice va0 L.length vc0) := by rw [hj2.ob.cell 2]; rfl
  have hfr2 := fun w4 (h : St No w2 (Nw w2) w4) => (hj2.ob.move (h.block pr hj2.ob.lt (fun e => e))).free 2
  have HFR := Lib.hid hfr2
  have HJ2 := Lib.hid hj2
  clear hj2 hfr2
  by_cases hge : sl ≤ B
  · have hgi : (sl : Int) ≤ (B : Int) := by omega
    have hG0 : 0 ≤ G := HFN.out (by omega)
    obtain ⟨gi, rfl⟩ : ∃ gi : Nat, G = (gi : Int) := ⟨G.toNat, by omega⟩
    go_wp2_with fail
    refine (without_calls _ L hll gi (fun s hs => by
      obtain ⟨sa, sc, e, _⟩ := (HJ2.out.lst s hs).form
      exact ⟨sa, _, sc, e⟩) w2 HJ2.out.own).mono ?_
    rintro e w4 ⟨V3, rfl, ho3, hs3⟩
    have HRL := Lib.hid (HJ2.out.relist (ss' := L.eraseIdx gi) ((List.eraseIdx_sublist _ _).map _) hs3 ho3)
    have hfz := HFR.out w4 hs3.toNew
    have hc4 : w4.cell? ⟨pr, 2, none⟩ = some (.slice va0 L.length vc0) := (World.cell?_of_block (hs3.block pr HJ2.out.ob.lt (fun e => e))).trans d2
    have hw4 : w2.heap.size ≤ w4.heap.size := hs3.size
    have HB4 : Hid (Ob (w4.setCell ⟨pr, 2, none⟩ V3) w1.heap.size 73 #[.int .u64 (fid.toNat : Int), .int .i64 fix, .int .i64 fct, .int .i64 ftt, .slice pa fpt.length pc]) := Lib.hid ((HB0.out.move (hs3.block _ HB0.out.lt (fun e => e))).move ((St.setCell (F := fpB pr) w4 ⟨pr, 2, none⟩ V3 rfl).block _ (Nat.lt_of_lt_of_le HB0.out.lt hs3.size) (fun e => by have e' : w1.heap.size = pr := e; omega)))
    have HBS4 : Hid (Bs (w4.setCell ⟨pr, 2, none⟩ V3) pa fpt) := Lib.hid ((HBS.out.st hs3 (Dj.no _)).st (St.setCell (F := fpB pr) w4 ⟨pr, 2, none⟩ V3 rfl) (fun k hk hv => by have e' : k = pr := hk; have := HPD.out k hv; omega))
    have HPD4 : Hid (∀ k, fpA pa k → ¬ fpRj pr V3 D (L.eraseIdx gi) k) := Lib.hid (fun k hk hf => by
      have h1 := HPD.out k hk
      rcases HRL.out.2.new k hf with h2 | h2
      · have := HIN.out k h2
        omega
      · have := HW2.out
        omega)
    obtain ⟨na, nc, rfl, _, _, _, _⟩ := ho3.form
    have HLE : Hid ((L.eraseIdx gi).length ≤ 65536) := Lib.hid (Nat.le_trans (List.length_eraseIdx_le L gi) hll)
    have HNB : Hid (¬ fpV (.slice na (L.eraseIdx gi).length nc) w1.heap.size) := Lib.hid (fun hv => by
      rcases hs3.new _ hv with h1 | h1
      · exact h1
      · have := HB0.out.lt
        omega)
    clear ho3 hs3
    go_wp2_with fail
    have HQ2 : Hid ((L.eraseIdx gi).map SR.pl ++ [⟨(frm, (fid.toNat : Int)), 0, [⟨fid, fix, fct, ftt, fpt⟩]⟩] = q) := Lib.hid (by rw [HRO.out, if_pos hge, map_erase]; rfl)
    have HJD := Lib.hid HRL.out.1
    have HSD : Hid (St F w (fpRj pr (.slice na (L.eraseIdx gi).length nc) D (L.eraseIdx gi)) (w4.setCell ⟨pr, 2, none⟩ (.slice na (L.eraseIdx gi).length nc))) := Lib.hid ((HS2.out.wide (G' := fpRj pr (.slice va0 L.length vc0) D L) (fun _ h => h.elim) (fun k hk => .inl ((HF.out k).2 hk))).trans HRL.out.2)
    have HPDD : Hid (∀ k, fpA pa k → w.heap.size ≤ k ∧ k < (w4.setCell ⟨pr, 2, none⟩ (.slice na (L.eraseIdx gi).length nc)).heap.size ∧ ¬ fpRj pr (.slice na (L.eraseIdx gi).length nc) D (L.eraseIdx gi) k) := Lib.hid (fun k hk => ⟨(HPD.out k hk).1, by have h1 := (HPD.out k hk).2; have h2 := HW2.out; have h3 := HRL.out.2.size; omega, HPD4.out k hk⟩)
    clear HRL hfz hc4 HPD4 HRO HFR HJ2 HB0 HBS d0 d2
    have hl2 := HLE.out
    clear HLE
    generalize L.eraseIdx gi = ss2 at *
    generalize w4.setCell ⟨pr, 2, none⟩ (.slice na ss2.length nc) = wd at *
    have HOD := HB4
    have HBD := HBS4
    clear HB4 HBS4
    have e2 : wd.cell? ⟨pr, 2, none⟩ = some (.slice na ss2.length nc) := by rw [HJD.out.ob.cell 2]; rfl
    have b0 : wd.cell? ⟨w1.heap.size, 0, none⟩ = some (.int .u64 (fid.toNat : Int)) := by rw [HOD.out.cell 0]; rfl
    have b1 : wd.cell? ⟨w1.heap.size, 1, none⟩ = some (.int .i64 fix) := by rw [HOD.out.cell 1]; rfl
    have b2 : wd.cell? ⟨w1.heap.size, 2, none⟩ = some (.int .i64 fct) := by rw [HOD.out.cell 2]; rfl
    have b3 : wd.cell? ⟨w1.heap.size, 3, none⟩ = some (.int .i64 ftt) := by rw [HOD.out.cell 3]; rfl
    have b4 : wd.cell? ⟨w1.heap.size, 4, none⟩ = some (.slice pa fpt.length pc) := by rw [HOD.out.cell 4]; rfl
    have f2 := HJD.out.ob.free 2
    have lp := HJD.out.ob.lt
    have lb := HOD.out.lt
    have HOW : Hid (∀ o1 o2, Own ((wd.alloc o1).alloc o2) 182 4 (.slice na ss2.length nc) ss2.length (ss2.flatMap SR.cells)) := Lib.hid (fun o1 o2 => (HJD.out.own.st (St.alloc' No wd o1) (Dj.no _)).st (St.alloc' No _ o2) (Dj.no _))
    go_region_law (refine step_app rfl (.tmp 64) (.tmp 71) 165 rfl 182 ti _ 4 48 Try.underlying165 HTI.out HZ.out HSZ.out HBY.out rfl (by decide) (.slice na ss2.length nc) ss2.length (ss2.flatMap SR.cells) rfl ((HOW.out (.cells #[.int .u64 (fid.toNat : Int), .int .i64 fix, .int .i64 fct, .int .i64 ftt, .slice pa fpt.length pc] 73) (.cells #[.int .i64 frm, .int .u64 (fid.toNat : Int), .int .i64 0, .slice (some ⟨wd.heap.size, 0, none⟩) 1 1] 182)).move (fun _ _ => rfl)) (some ⟨wd.heap.size + 1, 0, none⟩) 1 1 (SR.cells ⟨(frm, (fid.toNat : Int)), 0, .slice (some ⟨wd.heap.size, 0, none⟩) 1 1, []⟩) rfl ((srTwo wd (.cells #[.int .u64 (fid.toNat : Int), .int .i64 fix, .int .i64 fct, .int .i64 ftt, .slice pa fpt.length pc] 73) _ _ _ _ rfl rfl rfl rfl).move (fun _ _ => rfl)) (fun h => by cases h) (by unfold maxLen; omega) (by omega) ?_
                   intro v' w7 ho7 hs7 hn7
                   have ob7 := ((HJD.out.ob.move (Below.heap_alloc wd (.cells #[.int .u64 (fid.toNat : Int), .int .i64 fix, .int .i64 fct, .int .i64 ftt, .slice pa fpt.length pc] 73) _ lp)).move (Below.heap_alloc _ (.cells #[.int .i64 frm, .int .u64 (fid.toNat : Int), .int .i64 0, .slice (some ⟨wd.heap.size, 0, none⟩) 1 1] 182) _ (by simp; omega))).move (hs7.block pr (by simp [World.drew]; omega) HJD.out.vp)
                   have obB := ((HOD.out.move (Below.heap_alloc wd (.cells #[.int .u64 (fid.toNat : Int), .int .i64 fix, .int .i64 fct, .int .i64 ftt, .slice pa fpt.length pc] 73) _ lb)).move (Below.heap_alloc _ (.cells #[.int .i64 frm, .int .u64 (fid.toNat : Int), .int .i64 0, .slice (some ⟨wd.heap.size, 0, none⟩) 1 1] 182) _ (by simp; omega))).move (hs7.block _ (by simp [World.drew]; omega) HNB.out)
                   have g2 : w7.cell? ⟨pr, 2, none⟩ = some (.slice na ss2.length nc) := by rw [ob7.cell 2]; rfl
                   have h0 : w7.cell? ⟨w1.heap.size, 0, none⟩ = some (.int .u64 (fid.toNat : Int)) := by rw [obB.cell 0]; rfl
                   have h1 : w7.cell? ⟨w1.heap.size, 1, none⟩ = some (.int .i64 fix) := by rw [obB.cell 1]; rfl
                   have h2 : w7.cell? ⟨w1.heap.size, 2, none⟩ = some (.int .i64 fct) := by rw [obB.cell 2]; rfl
                   have h3 : w7.cell? ⟨w1.heap.size, 3, none⟩ = some (.int .i64 ftt) := by rw [obB.cell 3]; rfl
                   have h4 : w7.cell? ⟨w1.heap.size, 4, none⟩ = some (.slice pa fpt.length pc) := by rw [obB.cell 4]; rfl
                   have p2 := ob7.free 2
                   have HO7 := Lib.hid ho7
                   have HS7 := Lib.hid hs7
                   obtain ⟨va', vc', rfl, _, _, _, _⟩ := ho7.form
                   clear ho7 hs7 hn7 ob7 obB)
    all_goals go_wp2
    all_goals go_ret3
    all_goals
      have h7 := HS7.out
      have hA : St No wd (fpV (.slice (some ⟨wd.heap.size, 0, none⟩) 1 1)) ((wd.alloc (.cells #[.int .u64 (fid.toNat : Int), .int .i64 fix, .int .i64 fct, .int .i64 ftt, .slice pa fpt.length pc] 73)).alloc (.cells #[.int .i64 frm, .int .u64 (fid.toNat : Int), .int .i64 0, .slice (some ⟨wd.heap.size, 0, none⟩) 1 1] 182)) :=
        ((St.alloc' No wd _).trans (St.alloc' No _ _)).newF (fun k hk => by
          have e : some wd.heap.size = some k := hk
          rw [← Option.some.inj e]; exact Nat.le_refl _)
      have hfin := Rj.snoc (w := wd) (F0 := F) (w0 := w) (pr := pr) (V := .slice na ss2.length nc) (V' := .slice va' (ss2.length + 1) vc') (VL := .slice (some ⟨wd.heap.size, 0, none⟩) 1 1) HJD.out HSD.out (frm, (fid.toNat : Int)) ⟨⟨fid, fix, fct, ftt, fpt⟩, pa, pc⟩ HBD.out HPN.out (by simp only; omega) HPDD.out hA ((flOne wd ⟨⟨fid, fix, fct, ftt, fpt⟩, pa, pc⟩).st (St.alloc' No _ _) (Dj.no _)) (fun k hk => by
          have e : some wd.heap.size = some k := hk
          rw [← Option.some.inj e]; exact Nat.le_refl _) ⟨h7.os, h7.tape, h7.output, h7.size, h7.block, h7.new⟩ HO7.out
      refine ⟨rfl, _, ⟨_, _, _, hfin.1, ?_, fun k => Iff.rfl⟩, hfin.2⟩
      rw [← HQ2.out, List.map_append]
      rfl
  · have hgi : ¬ (sl : Int) ≤ (B : Int) := by omega
    go_wp2_with fail
    have HQ2 : Hid (L.map SR.pl ++ [⟨(frm, (fid.toNat : Int)), 0, [⟨fid, fix, fct, ftt, fpt⟩]⟩] = q) := Lib.hid (by rw [HRO.out, if_neg hge])
    have HJD := HJ2
    have HSD : Hid (St F w (fpRj pr (.slice va0 L.length vc0) D L) w2) := Lib.hid (HS2.out.wide (G' := fpRj pr (.slice va0 L.length vc0) D L) (fun _ h => h.elim) (fun k hk => .inl ((HF.out k).2 hk)))
    have HPDD : Hid (∀ k, fpA pa k → w.heap.size ≤ k ∧ k < w2.heap.size ∧ ¬ fpRj pr (.slice va0 L.length vc0) D L k) := Lib.hid (fun k hk => ⟨(HPD.out k hk).1, by have h1 := (HPD.out k hk).2; have h2 := HW2.out; omega, fun hf => by have h1 := HPD.out k hk; have := HIN.out k hf; omega⟩)
    have HNB : Hid (¬ fpV (.slice va0 L.length vc0) w1.heap.size) := Lib.hid (fun hv => by
      have := HIN.out _ (.inr (.inl hv))
      omega)
    have hl2 := hll
    have HOD := HB0
    have HBD := HBS
    clear HRO HFR HJ2 HB0 HBS d0 d2
    obtain ⟨ss2, rfl⟩ : ∃ x, x = L := ⟨_, rfl⟩
    obtain ⟨na, rfl⟩ : ∃ x, x = va0 := ⟨_, rfl⟩
    obtain ⟨nc, rfl⟩ : ∃ x, x = vc0 := ⟨_, rfl⟩
    obtain ⟨wd, rfl⟩ : ∃ x, x = w2 := ⟨_, rfl⟩
    have e2 : wd.cell? ⟨pr, 2, none⟩ = some (.slice na ss2.length nc) := by rw [HJD.out.ob.cell 2]; rfl
    have b0 : wd.cell? ⟨w1.heap.size, 0, none⟩ = some (.int .u64 (fid.toNat : Int)) := by rw [HOD.out.cell 0]; rfl
    have b1 : wd.cell? ⟨w1.heap.size, 1, none⟩ = some (.int .i64 fix) := by rw [HOD.out.cell 1]; rfl
    have b2 : wd.cell? ⟨w1.heap.size, 2, none⟩ = some (.int .i64 fct) := by rw [HOD.out.cell 2]; rfl
    have b3 : wd.cell? ⟨w1.heap.size, 3, none⟩ = some (.int .i64 ftt) := by rw [HOD.out.cell 3]; rfl
    have b4 : wd.cell? ⟨w1.heap.size, 4, none⟩ = some (.slice pa fpt.length pc) := by rw [HOD.out.cell 4]; rfl
    have f2 := HJD.out.ob.free 2
    have lp := HJD.out.ob.lt
    have lb := HOD.out.lt
    have HOW : Hid (∀ o1 o2, Own ((wd.alloc o1).alloc o2) 182 4 (.slice na ss2.length nc) ss2.length (ss2.flatMap SR.cells)) := Lib.hid (fun o1 o2 => (HJD.out.own.st (St.alloc' No wd o1) (Dj.no _)).st (St.alloc' No _ o2) (Dj.no _))
    go_region_law (refine step_app rfl (.tmp 64) (.tmp 71) 165 rfl 182 ti _ 4 48 Try.underlying165 HTI.out HZ.out HSZ.out HBY.out rfl (by decide) (.slice na ss2.length nc) ss2.length (ss2.flatMap SR.cells) rfl ((HOW.out (.cells #[.int .u64 (fid.toNat : Int), .int .i64 fix, .int .i64 fct, .int .i64 ftt, .slice pa fpt.length pc] 73) (.cells #[.int .i64 frm, .int .u64 (fid.toNat : Int), .int .i64 0, .slice (some ⟨wd.heap.size, 0, none⟩) 1 1] 182)).move (fun _ _ => rfl)) (some ⟨wd.heap.size + 1, 0, none⟩) 1 1 (SR.cells ⟨(frm, (fid.toNat : Int)), 0, .slice (some ⟨wd.heap.size, 0, none⟩) 1 1, []⟩) rfl ((srTwo wd (.cells #[.int .u64 (fid.toNat : Int), .int .i64 fix, .int .i64 fct, .int .i64 ftt, .slice pa fpt.length pc] 73) _ _ _ _ rfl rfl rfl rfl).move (fun _ _ => rfl)) (fun h => by cases h) (by unfold maxLen; omega) (by omega) ?_
                   intro v' w7 ho7 hs7 hn7
                   have ob7 := ((HJD.out.ob.move (Below.heap_alloc wd (.cells #[.int .u64 (fid.toNat : Int), .int .i64 fix, .int .i64 fct, .int .i64 ftt, .slice pa fpt.length pc] 73) _ lp)).move (Below.heap_alloc _ (.cells #[.int .i64 frm, .int .u64 (fid.toNat : Int), .int .i64 0, .slice (some ⟨wd.heap.size, 0, none⟩) 1 1] 182) _ (by simp; omega))).move (hs7.block pr (by simp [World.drew]; omega) HJD.out.vp)
                   have obB := ((HOD.out.move (Below.heap_alloc wd (.cells #[.int .u64 (fid.toNat : Int), .int .i64 fix, .int .i64 fct, .int .i64 ftt, .slice pa fpt.length pc] 73) _ lb)).move (Below.heap_alloc _ (.cells #[.int .i64 frm, .int .u64 (fid.toNat : Int), .int .i64 0, .slice (some ⟨wd.heap.size, 0, none⟩) 1 1] 182) _ (by simp; omega))).move (hs7.block _ (by simp [World.drew]; omega) HNB.out)
                   have g2 : w7.cell? ⟨pr, 2, none⟩ = some (.slice na ss2.length nc) := by rw [ob7.cell 2]; rfl
                   have h0 : w7.cell? ⟨w1.heap.size, 0, none⟩ = some (.int .u64 (fid.toNat : Int)) := by rw [obB.cell 0]; rfl
                   have h1 : w7.cell? ⟨w1.heap.size, 1, none⟩ = some (.int .i64 fix) := by rw [obB.cell 1]; rfl
                   have h2 : w7.cell? ⟨w1.heap.size, 2, none⟩ = some (.int .i64 fct) := by rw [obB.cell 2]; rfl
                   have h3 : w7.cell? ⟨w1.heap.size, 3, none⟩ = some (.int .i64 ftt) := by rw [obB.cell 3]; rfl
                   have h4 : w7.cell? ⟨w1.heap.size, 4, none⟩ = some (.slice pa fpt.length pc) := by rw [obB.cell 4]; rfl
                   have p2 := ob7.free 2
                   have HO7 := Lib.hid ho7
                   have HS7 := Lib.hid hs7
                   obtain ⟨va', vc', rfl, _, _, _, _⟩ := ho7.form
                   clear ho7 hs7 hn7 ob7 obB)
    all_goals go_wp2
    all_goals go_ret3
    all_goals
      have h7 := HS7.out
      have hA : St No wd (fpV (.slice (some ⟨wd.heap.size, 0, none⟩) 1 1)) ((wd.alloc (.cells #[.int .u64 (fid.toNat : Int), .int .i64 fix, .int .i64 fct, .int .i64 ftt, .slice pa fpt.length pc] 73)).alloc (.cells #[.int .i64 frm, .int .u64 (fid.toNat : Int), .int .i64 0, .slice (some ⟨wd.heap.size, 0, none⟩) 1 1] 182)) :=
        ((St.alloc' No wd _).trans (St.alloc' No _ _)).newF (fun k hk => by
          have e : some wd.heap.size = some k := hk
          rw [← Option.some.inj e]; exact Nat.le_refl _)
      have hfin := Rj.snoc (w := wd) (F0 := F) (w0 := w) (pr := pr) (V := .slice na ss2.length nc) (V' := .slice va' (ss2.length + 1) vc') (VL := .slice (some ⟨wd.heap.size, 0, none⟩) 1 1) HJD.out HSD.out (frm, (fid.toNat : Int)) ⟨⟨fid, fix, fct, ftt, fpt⟩, pa, pc⟩ HBD.out HPN.out (by simp only; omega) HPDD.out hA ((flOne wd ⟨⟨fid, fix, fct, ftt, fpt⟩, pa, pc⟩).st (St.alloc' No _ _) (Dj.no _)) (fun k hk => by
          have e : some wd.heap.size = some k := hk
          rw [← Option.some.inj e]; exact Nat.le_refl _) ⟨h7.os, h7.tape, h7.output, h7.size, h7.block, h7.new⟩ HO7.out
      refine ⟨rfl, _, ⟨_, _, _, hfin.1, ?_, fun k => Iff.rfl⟩, hfin.2⟩
      rw [← HQ2.out, List.map_append]
      rfl
end Go.Proofs.Ytoeafacamapofaa
