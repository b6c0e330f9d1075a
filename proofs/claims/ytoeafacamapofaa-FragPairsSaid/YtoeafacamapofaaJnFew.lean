
/-
  The plain law of Take: what other sources send changes nothing of a source's slots; no source has more slots than may be.
-/
import Derived.Test.YtoeafacamapofaaJnTick
import Derived.Test.YtoeafacamapofaaJnOne
namespace Go.Proofs.Ytoeafacamapofaa
open Go.RowKit
set_option linter.unusedVariables false
set_option linter.unusedSimpArgs false

/-- a source's slots -/
def srcL (a : Int) (ss : List PS) : List PS := ss.filter (fun s => decide (s.key.1 = a))
theorem srcP_srcL (a : Int) (ss : List PS) : srcP a ss = (srcL a ss).length := rfl
theorem srcL_idem (a : Int) (ss : List PS) : srcL a (srcL a ss) = srcL a ss := by simp [srcL, List.filter_filter]
theorem srcL_app (a : Int) (xs ys : List PS) : srcL a (xs ++ ys) = srcL a xs ++ srcL a ys := by simp [srcL]
theorem srcL_keep (a : Int) (q : Nm → Bool) (ss : List PS) : srcL a (keepP q ss) = keepP q (srcL a ss) := by
  unfold srcL keepP
  rw [List.filter_filter, List.filter_filter]
  congr 1
  funext s
  exact Bool.and_comm _ _
theorem srcP_self (a : Int) (ss : List PS) : srcP a (srcL a ss) = srcP a ss := by rw [srcP_srcL, srcL_idem]; rfl
theorem firstP_self (a : Int) (ss : List PS) : firstP a (srcL a ss) = firstP a ss := by
  unfold firstP srcL
  rw [List.find?_filter]
  simp
theorem getP_src {k : Nm} {a : Int} (h : k.1 = a) (ss : List PS) : getP k (srcL a ss) = getP k ss := by
  unfold getP srcL
  rw [List.find?_filter]
  congr 1
  funext s
  by_cases e : s.key = k
  · simp [e, h]
  · simp [e]
theorem getP_key {k : Nm} {ss : List PS} {s : PS} (h : getP k ss = some s) : s.key = k ∧ s ∈ ss := by
  unfold getP at h
  exact ⟨by simpa using List.find?_some h, List.mem_of_find?_eq_some h⟩
theorem firstP_in {a : Int} {ss : List PS} (h : 1 ≤ srcP a ss) : (firstP a ss).1 = a ∧ ∃ s ∈ ss, s.key = firstP a ss := by
  unfold firstP
  cases e : ss.find? (fun s => decide (s.key.1 = a)) with
  | none =>
    rw [List.find?_eq_none] at e
    have : srcP a ss = 0 := by
      unfold srcP
      rw [List.length_eq_zero_iff, List.filter_eq_nil_iff]
      exact e
    omega
  | some s =>
    exact ⟨by simpa using List.find?_some e, s, List.mem_of_find?_eq_some e, rfl⟩
theorem begin_own {sl : Nat} {x : Nm} {a : Int} (h : x.1 = a) (ss : List PS) : beginP sl x (srcL a ss) = srcL a (beginP sl x ss) := by
  subst h
  unfold beginP
  rw [srcP_self, firstP_self]
  split
  · rw [srcL_keep]
  · rfl
theorem keep_other {a : Int} {q : Nm → Bool} (hq : ∀ y : Nm, y.1 = a → q y = false) (ss : List PS) : srcL a (keepP q ss) = srcL a ss := by
  rw [srcL_keep]
  unfold keepP
  rw [List.filter_eq_self]
  intro s hs
  have : s.key.1 = a := by simpa using (List.mem_filter.1 hs).2
  simp [hq _ this]
theorem begin_other {sl : Nat} (hsl : 1 ≤ sl) {x : Nm} {a : Int} (h : x.1 ≠ a) (ss : List PS) : srcL a (beginP sl x ss) = srcL a ss := by
  unfold beginP
  split
  · rename_i h1
    refine keep_other (fun y hy => ?_) ss
    have h2 := (firstP_in (Nat.le_trans hsl h1)).1
    refine decide_eq_false (fun e => h ?_)
    rw [← h2, ← e, hy]
  · rfl
theorem put_src {a : Int} {k : Nm} {t : PS} (ht : t.key = k) (ss : List PS) : srcL a (putP k t ss) = putP k t (srcL a ss) := by
  unfold srcL putP
  rw [List.filter_map]
  congr 1
  apply List.filter_congr
  intro s _
  simp only [Function.comp]
  have h : (if s.key = k then t else s).key = s.key := by
    split
    · rename_i e
      rw [ht, e]
    · rfl
  exact decide_eq_decide.2 (by rw [h])
theorem put_other {a : Int} {k : Nm} {t : PS} (h : k.1 ≠ a) (ss : List PS) : putP k t (srcL a ss) = srcL a ss := by
  unfold putP
  have h0 : ∀ s ∈ srcL a ss, (if s.key = k then t else s) = s := by
    intro s hs
    have : s.key.1 = a := by simpa [srcL] using (List.mem_filter.1 hs).2
    rw [if_neg (fun e => h (by rw [← e, this]))]
  exact (List.map_congr_left h0).trans (List.map_id' _)
theorem fill_own {k : Nm} {a : Int} (h : k.1 = a) (ss : List PS) (f : Fg) : fillP (srcL a ss) k f = { fillP ss k f with ss := srcL a (fillP ss k f).ss } := by
  unfold fillP
  rw [getP_src h]
  cases e : getP k ss with
  | none => rfl
  | some s =>
    have hk := (getP_key e).1
    simp only
    split
    · rfl
    · split
      · rfl
      · split
        · rw [put_src (by show (s.fill f.index f.part).key = k; exact hk)]
        · rw [srcL_keep]
theorem fill_other {k : Nm} {a : Int} (h : k.1 ≠ a) (ss : List PS) (f : Fg) : srcL a (fillP ss k f).ss = srcL a ss := by
  unfold fillP
  cases e : getP k ss with
  | none => rfl
  | some s =>
    have hk := (getP_key e).1
    simp only
    split
    · rfl
    · split
      · rfl
      · split
        · show srcL a (putP k _ ss) = _
          rw [put_src (by show (s.fill f.index f.part).key = k; exact hk), put_other h]
        · exact keep_other (q := fun y => decide (y = k)) (fun y hy => decide_eq_false (fun e => h (by rw [← e, hy]))) ss
theorem open_own {sl : Nat} {k : Nm} {a : Int} (h : k.1 = a) (ss : List PS) (f : Fg) : openP sl (srcL a ss) k f = srcL a (openP sl ss k f) := by
  unfold openP
  rw [getP_src h]
  cases getP k ss with
  | some s => rfl
  | none =>
    simp only
    rw [srcL_app, begin_own h]
    congr 1
    simp [srcL, newP, h]
theorem open_other {sl : Nat} (hsl : 1 ≤ sl) {k : Nm} {a : Int} (h : k.1 ≠ a) (ss : List PS) (f : Fg) : srcL a (openP sl ss k f) = srcL a ss := by
  unfold openP
  cases getP k ss with
  | some s => rfl
  | none =>
    simp only
    rw [srcL_app, begin_other hsl h]
    simp [srcL, newP, h]
theorem take_own (sl : Nat) (ss : List PS) (a : Int) (d : List B8) : takeP sl (srcL a ss) a d = { takeP sl ss a d with ss := srcL a (takeP sl ss a d).ss } := by
  unfold takeP
  split
  · rfl
  · split
    · rfl
    · split
      · rfl
      · have h1 := open_own (sl := sl) (k := (a, ((lookF d).id.toNat : Int))) (a := a) rfl ss (lookF d)
        have h2 := fill_own (k := (a, ((lookF d).id.toNat : Int))) (a := a) rfl (openP sl ss (a, ((lookF d).id.toNat : Int)) (lookF d)) (lookF d)
        rw [h1, h2]
theorem take_other {sl : Nat} (hsl : 1 ≤ sl) (ss : List PS) {frm a : Int} (h : frm ≠ a) (d : List B8) : srcL a (takeP sl ss frm d).ss = srcL a ss := by
  unfold takeP
  split
  · rfl
  · split
    · rfl
    · split
      · rfl
      · rw [fill_other h, open_other hsl h]
/-- what the Joiner keeps is as it may be -/
structure Sane (sl ag : Nat) (ss : List PS) : Prop where
  few : ∀ b, srcP b ss ≤ sl
  age : ∀ s ∈ ss, s.age < ag
  frm : ∀ s ∈ ss, 0 ≤ s.key.1 ∧ s.key.1 < 255
theorem Sane.nil (sl ag : Nat) : Sane sl ag [] := ⟨fun _ => Nat.zero_le _, fun _ h => by simp at h, fun _ h => by simp at h⟩
theorem keep_mem {q : Nm → Bool} {ss : List PS} {s : PS} (h : s ∈ keepP q ss) : s ∈ ss := (List.mem_filter.1 h).1
theorem srcP_keep (b : Int) (q : Nm → Bool) (ss : List PS) : srcP b (keepP q ss) ≤ srcP b ss := by
  rw [srcP_srcL, srcL_keep]
  exact List.length_filter_le _ _
theorem Sane.keep {sl ag : Nat} {ss : List PS} (h : Sane sl ag ss) (q : Nm → Bool) : Sane sl ag (keepP q ss) :=
  ⟨fun b => Nat.le_trans (srcP_keep b q ss) (h.few b), fun s hs => h.age s (keep_mem hs), fun s hs => h.frm s (keep_mem hs)⟩
theorem srcP_older (b : Int) (ss : List PS) : srcP b (ss.map PS.older) = srcP b ss := by
  unfold srcP
  rw [List.filter_map, List.length_map]
  rfl
theorem Sane.tick {sl ag : Nat} {ss : List PS} (h : Sane sl ag ss) : Sane sl ag (tickP ag ss) := by
  refine ⟨fun b => ?_, fun s hs => ?_, fun s hs => ?_⟩
  · refine Nat.le_trans ?_ (h.few b)
    have h1 := srcP_older b ss
    rw [← h1]
    unfold tickP srcP
    exact List.Sublist.length_le (List.Sublist.filter _ List.filter_sublist)
  · have := (List.mem_filter.1 hs).2
    simp at this
    omega
  · obtain ⟨t, ht, rfl⟩ := List.mem_map.1 (List.mem_filter.1 hs).1
    exact h.frm t ht
theorem begin_few {sl : Nat} (hsl : 1 ≤ sl) (x : Nm) (ss : List PS) (h : srcP x.1 ss ≤ sl) : srcP x.1 (beginP sl x ss) + 1 ≤ sl := by
  unfold beginP
  split
  · rename_i h1
    obtain ⟨h2, s, hs, h3⟩ := firstP_in (Nat.le_trans hsl h1)
    have h4 : srcP x.1 (keepP (fun y => decide (y = firstP x.1 ss)) ss) < srcP x.1 ss := by
      rw [srcP_srcL, srcP_srcL, srcL_keep]
      unfold keepP
      rw [List.length_filter_lt_length_iff_exists]
      refine ⟨s, List.mem_filter.2 ⟨hs, by rw [h3, h2]; simp⟩, by simp [h3]⟩
    omega
  · omega
theorem srcP_app (b : Int) (xs ys : List PS) : srcP b (xs ++ ys) = srcP b xs + srcP b ys := by simp [srcP]
theorem Sane.open {sl ag : Nat} (hsl : 1 ≤ sl) (hag : 1 ≤ ag) {ss : List PS} (h : Sane sl ag ss) {k : Nm} (hk : 0 ≤ k.1 ∧ k.1 < 255) (f : Fg) : Sane sl ag (openP sl ss k f) := by
  unfold openP
  cases getP k ss with
  | some s => exact h
  | none =>
    simp only
    have hb : Sane sl ag (beginP sl k ss) := by
      unfold beginP
      split
      · exact h.keep _
      · exact h
    refine ⟨fun b => ?_, fun s hs => ?_, fun s hs => ?_⟩
    · rw [srcP_app]
      by_cases e : k.1 = b
      · subst e
        have := begin_few hsl k ss (h.few _)
        simp [srcP, newP] at this ⊢
        omega
      · have h1 := hb.few b
        have h2 : srcP b [newP k f.total f.count] = 0 := by simp [srcP, newP, e]
        omega
    · rcases List.mem_append.1 hs with hs | hs
      · exact hb.age s hs
      · rw [List.mem_singleton.1 hs]
        exact hag
    · rcases List.mem_append.1 hs with hs | hs
      · exact hb.frm s hs
      · rw [List.mem_singleton.1 hs]
        exact hk
theorem Sane.put {sl ag : Nat} {ss : List PS} (h : Sane sl ag ss) {k : Nm} {t : PS} (ht : t.key = k) (ha : t.age < ag) (hk : 0 ≤ k.1 ∧ k.1 < 255) : Sane sl ag (putP k t ss) := by
  refine ⟨fun b => ?_, fun s hs => ?_, fun s hs => ?_⟩
  · rw [srcP_srcL, put_src ht]
    unfold putP
    rw [List.length_map]
    exact h.few b
  · obtain ⟨u, hu, rfl⟩ := List.mem_map.1 hs
    split
    · exact ha
    · exact h.age u hu
  · obtain ⟨u, hu, rfl⟩ := List.mem_map.1 hs
    split
    · rw [ht]; exact hk
    · exact h.frm u hu
theorem Sane.fill {sl ag : Nat} {ss : List PS} (h : Sane sl ag ss) {k : Nm} (hk : 0 ≤ k.1 ∧ k.1 < 255) (f : Fg) : Sane sl ag (fillP ss k f).ss := by
  unfold fillP
  cases e : getP k ss with
  | none => exact h
  | some s =>
    have hs := getP_key e
    simp only
    split
    · exact h
    · split
      · exact h
      · split
        · exact h.put (by show (s.fill f.index f.part).key = k; exact hs.1) (by show s.age < ag; exact h.age s hs.2) hk
        · exact Sane.keep h (fun y => decide (y = k))
theorem Sane.take {sl ag : Nat} (hsl : 1 ≤ sl) (hag : 1 ≤ ag) {ss : List PS} (h : Sane sl ag ss) {frm : Int} (hf : 0 ≤ frm ∧ frm ≤ 255) (d : List B8) : Sane sl ag (takeP sl ss frm d).ss := by
  unfold takeP
  split
  · exact h
  · split
    · exact h
    · split
      · exact h
      · have hk : 0 ≤ ((frm, ((lookF d).id.toNat : Int)) : Nm).1 ∧ ((frm, ((lookF d).id.toNat : Int)) : Nm).1 < 255 := ⟨hf.1, by show frm < 255; omega⟩
        exact (h.open hsl hag hk _).fill hk _
theorem few_len {sl : Nat} {ss : List PS} (h : ∀ b, srcP b ss ≤ sl) (n : Nat) : (ss.filter (fun s => decide (0 ≤ s.key.1 ∧ s.key.1 < (n : Int)))).length ≤ n * sl := by
  induction n with
  | zero =>
    rw [Nat.zero_mul]
    refine Nat.le_of_eq ?_
    rw [List.length_eq_zero_iff, List.filter_eq_nil_iff]
    intro s _
    simp
  | succ n ih =>
    have h1 := h n
    have h2 : (ss.filter (fun s => decide (0 ≤ s.key.1 ∧ s.key.1 < ((n + 1 : Nat) : Int)))).length ≤ (ss.filter (fun s => decide (0 ≤ s.key.1 ∧ s.key.1 < (n : Int)))).length + srcP n ss := by
      clear ih h1 h
      unfold srcP
      induction ss with
      | nil => simp
      | cons s ss ih =>
        simp only [List.filter_cons]
        by_cases e1 : 0 ≤ s.key.1 ∧ s.key.1 < (n : Int)
        · rw [decide_eq_true e1, decide_eq_true (show 0 ≤ s.key.1 ∧ s.key.1 < ((n + 1 : Nat) : Int) by omega), decide_eq_false (show ¬ s.key.1 = (n : Int) by omega)]
          simp
          simp at ih
          omega
        · rw [decide_eq_false e1]
          by_cases e2 : s.key.1 = (n : Int)
          · rw [decide_eq_true e2, decide_eq_true (show 0 ≤ s.key.1 ∧ s.key.1 < ((n + 1 : Nat) : Int) by omega)]
            simp
            simp at ih
            omega
          · rw [decide_eq_false e2, decide_eq_false (show ¬ (0 ≤ s.key.1 ∧ s.key.1 < ((n + 1 : Nat) : Int)) by omega)]
            simpa using ih
    rw [Nat.succ_mul]
    omega
theorem Sane.len {sl ag : Nat} {ss : List PS} (h : Sane sl ag ss) : ss.length ≤ 255 * sl := by
  have h1 := few_len h.few 255
  have h2 : ss.filter (fun s => decide (0 ≤ s.key.1 ∧ s.key.1 < ((255 : Nat) : Int))) = ss := by
    rw [List.filter_eq_self]
    intro s hs
    exact decide_eq_true (h.frm s hs)
  rw [h2] at h1
  exact h1
theorem Sane.few4 {sl ag : Nat} {ss : List PS} (h : Sane sl ag ss) (h16 : sl ≤ 16) : ss.length ≤ 4096 := by
  have := h.len
  omega
/-- the first i have come -/
def comeN (C i : Nat) : List Bool := List.replicate i true ++ List.replicate (C - i) false
theorem comeN_len {C i : Nat} (h : i ≤ C) : (comeN C i).length = C := by simp [comeN]; omega
theorem comeN_count (C i : Nat) : (comeN C i).count true = i := by simp [comeN, List.count_append, List.count_replicate]
theorem comeN_get (C i : Nat) : (comeN C i).getD i false = false := by
  unfold comeN
  rw [List.getD_eq_getElem?_getD, List.getElem?_append_right (by simp)]
  simp only [List.length_replicate, Nat.sub_self, List.getElem?_replicate]
  split <;> rfl
theorem comeN_set {C i : Nat} (h : i < C) : (comeN C i).set i true = comeN C (i + 1) := by
  unfold comeN
  apply List.ext_getElem?
  intro j
  simp only [List.getElem?_set, List.getElem?_append, List.getElem?_replicate, List.length_append, List.length_replicate]
  grind
/-- a source's slots when the first i of a packet have come -/
def apartS (k : Nm) (P : List B8) (C i : Nat) : List PS := if i = C then [] else cameS k P C (comeN C i)
theorem take_apart {xs : List B8} {id : BitVec 64} {C i : Nat} {frm : Int} (h255 : frm ≠ 255) {ss : List PS} (hs : srcL frm ss = apartS (frm, (id.toNat : Int)) xs C i) (hi : i < C) (hE : lookE (dgram (fragB xs id C i)) = 0) (hF : lookF (dgram (fragB xs id C i)) = fragB xs id C i)
    (hp : partB xs C i ≠ []) (hlen : xs.length ≤ C * sizeN xs.length C) :
    ∃ ss', takeP 1 ss frm (dgram (fragB xs id C i)) = ⟨if i + 1 = C then xs else [], decide (i + 1 = C), 0, ss'⟩ ∧ srcL frm ss' = apartS (frm, (id.toNat : Int)) xs C (i + 1) := by
  have h1 := take_own 1 ss frm (dgram (fragB xs id C i))
  rw [hs] at h1
  unfold apartS at h1
  rw [if_neg (by omega), take_any h255 (comeN C i) (comeN_len (by omega)) hi (by rw [comeN_count]; omega) hE hF hp hlen, comeN_get, if_neg (by simp), comeN_set hi, comeN_count] at h1
  generalize takeP 1 ss frm (dgram (fragB xs id C i)) = t at h1
  obtain ⟨o, b, e, s⟩ := t
  unfold apartS
  by_cases hc : i + 1 = C
  · rw [if_pos hc] at h1
    simp only [TP.mk.injEq] at h1
    obtain ⟨rfl, rfl, rfl, h4⟩ := h1
    exact ⟨s, by rw [if_pos hc, decide_eq_true hc], by rw [if_pos hc, ← h4]⟩
  · rw [if_neg hc] at h1
    simp only [TP.mk.injEq] at h1
    obtain ⟨rfl, rfl, rfl, h4⟩ := h1
    exact ⟨s, by rw [if_neg hc, decide_eq_false hc], by rw [if_neg hc, ← h4]⟩
theorem apart_none (k : Nm) (P : List B8) {C : Nat} (hC : 0 < C) : srcL k.1 [] = apartS k P C 0 := by
  unfold apartS cameS
  rw [if_neg (by omega), comeN_count, if_pos rfl]
  rfl
theorem St.cellNo' {w w' : World} {G : Nat → Prop} (h : St No w G w') {y : Addr} {v : Value} (hc : w.cell? y = some v) : w'.cell? y = some v :=
  (World.cell?_of_block (h.block _ (World.block_lt_of_cell? w _ hc) (fun e => e))).trans hc
theorem take_next {xs : List B8} {id : BitVec 64} {C i : Nat} {frm : Int} (h255 : frm ≠ 255) (hi : i < C) (hE : lookE (dgram (fragB xs id C i)) = 0) (hF : lookF (dgram (fragB xs id C i)) = fragB xs id C i)
    (hp : partB xs C i ≠ []) (hlen : xs.length ≤ C * sizeN xs.length C) :
    takeP 1 (apartS (frm, (id.toNat : Int)) xs C i) frm (dgram (fragB xs id C i)) = ⟨if i + 1 = C then xs else [], decide (i + 1 = C), 0, apartS (frm, (id.toNat : Int)) xs C (i + 1)⟩ := by
  unfold apartS
  rw [if_neg (by omega), take_any h255 (comeN C i) (comeN_len (by omega)) hi (by rw [comeN_count]; omega) hE hF hp hlen, comeN_get, if_neg (by simp), comeN_set hi, comeN_count]
  by_cases hc : i + 1 = C
  · simp [hc]
  · simp [hc]
theorem apart_len (k : Nm) (P : List B8) (C i : Nat) : (apartS k P C i).length ≤ 1 := by
  unfold apartS cameS
  split
  · simp
  · split <;> simp
end Go.Proofs.Ytoeafacamapofaa
