
/-
  Plain laws of Take for a slot among others; FragOldest's slots.
-/
import Derived.Test.YtoeafacamapofaaJnFew
import Derived.Test.YtoeafacamapofaaJnAged
import Derived.Test.YtoeafacamapofaaJnTwo
namespace Go.Proofs.Ytoeafacamapofaa
open Go.RowKit
set_option linter.unusedVariables false
set_option linter.unusedSimpArgs false

theorem getP_app_none {k : Nm} {xs ys : List PS} (h : getP k xs = none) : getP k (xs ++ ys) = getP k ys := by
  unfold getP at h ⊢
  rw [List.find?_append, h]
  rfl
theorem getP_none {k : Nm} {ss : List PS} : getP k ss = none ↔ ∀ s ∈ ss, s.key ≠ k := by
  unfold getP
  rw [List.find?_eq_none]
  simp
theorem put_none {k : Nm} {t : PS} {ss : List PS} (h : getP k ss = none) : putP k t ss = ss := by
  unfold putP
  have h0 : ∀ s ∈ ss, (if s.key = k then t else s) = s := fun s hs => if_neg (getP_none.1 h s hs)
  exact (List.map_congr_left h0).trans (List.map_id' _)
theorem put_app (k : Nm) (t : PS) (xs ys : List PS) : putP k t (xs ++ ys) = putP k t xs ++ putP k t ys := by simp [putP]
theorem begin_none {sl : Nat} {k : Nm} {ss : List PS} (h : getP k ss = none) : getP k (beginP sl k ss) = none := by
  rw [getP_none] at h ⊢
  intro s hs
  unfold beginP at hs
  split at hs
  · exact h s (keep_mem hs)
  · exact h s hs
/-- the first part in a new slot -/
theorem fill_new {packet : List B8} {id : BitVec 64} {C i : Nat} {bs : List PS} (k : Nm) (hi : i < C) (hC : 2 ≤ C) (hb : getP k bs = none) :
    fillP (bs ++ [newP k packet.length C]) k ⟨id, i, C, packet.length, partB packet C i⟩ = ⟨[], false, 0, bs ++ [oneS k packet C ((List.replicate C false).set i true)]⟩ := by
  have hg : getP k (bs ++ [newP k packet.length C]) = some (newP k packet.length C) := by
    rw [getP_app_none hb]
    simp [getP, newP]
  unfold fillP
  rw [hg]
  simp only
  have hcnt : (List.replicate C false).count true = 0 := by simp [List.count_replicate]
  have hcs := count_set (come := List.replicate C false) (i := i) (by simpa using hi) (by simp [List.getD_eq_getElem?_getD, hi])
  have hz1 : ¬ ((newP k packet.length C).total ≠ packet.length ∨ (newP k packet.length C).parts.length ≠ C) := by simp [newP]
  have hz2 : ¬ ((newP k packet.length C).parts.getD i [] ≠ []) := by simp [newP, List.getD_eq_getElem?_getD, hi]
  have hz3 : (newP k packet.length C).got + 1 < C := by show 0 + 1 < C; omega
  rw [if_neg hz1, if_neg hz2, if_pos hz3, put_app, put_none hb]
  have hps : List.replicate C ([] : List B8) = partsOf packet C (List.replicate C false) := (partsOf_none packet C _ (fun b hb => (List.mem_replicate.1 hb).2)).symm
  have hset := partsOf_set packet C (List.replicate C false) i hi (by simp)
  have hfill : (newP k packet.length C).fill i (partB packet C i) = oneS k packet C ((List.replicate C false).set i true) := by
    unfold PS.fill oneS newP
    simp only [hcs, hcnt, hps, hset]
  rw [hfill]
  unfold putP
  rw [List.map_cons, List.map_nil, if_pos (show (newP k packet.length C).key = k from rfl)]
/-- a packet's first fragment -/
theorem take_fresh {packet : List B8} {id : BitVec 64} {C i sl : Nat} {ss : List PS} {frm : Int} (h255 : frm ≠ 255) (hi : i < C) (hC : 2 ≤ C) (hE : lookE (dgram (fragB packet id C i)) = 0) (hF : lookF (dgram (fragB packet id C i)) = fragB packet id C i)
    (hn : getP (frm, (id.toNat : Int)) ss = none) :
    takeP sl ss frm (dgram (fragB packet id C i)) = ⟨[], false, 0, beginP sl (frm, (id.toNat : Int)) ss ++ [oneS (frm, (id.toNat : Int)) packet C ((List.replicate C false).set i true)]⟩ := by
  have hb := begin_none (sl := sl) hn
  have ho : openP sl ss (frm, (id.toNat : Int)) (fragB packet id C i) = beginP sl (frm, (id.toNat : Int)) ss ++ [newP (frm, (id.toNat : Int)) packet.length C] := by
    unfold openP
    rw [hn]
    rfl
  unfold takeP
  rw [if_neg h255, hE, hF, if_neg (by simp), if_neg (by show ¬ C = 1; omega)]
  show fillP (openP sl ss (frm, (id.toNat : Int)) (fragB packet id C i)) (frm, (id.toNat : Int)) (fragB packet id C i) = _
  rw [ho]
  exact fill_new _ hi hC hb
/-- a fragment of a packet that has been begun -/
theorem take_slot {packet : List B8} {id : BitVec 64} {C i n sl : Nat} {ss : List PS} {frm : Int} (h255 : frm ≠ 255) (come : List Bool) (hl : come.length = C) (hi : i < C) (hC : 2 ≤ C) (hlt : come.count true < C) (hE : lookE (dgram (fragB packet id C i)) = 0) (hF : lookF (dgram (fragB packet id C i)) = fragB packet id C i)
    (hp : partB packet C i ≠ []) (hlen : packet.length ≤ C * sizeN packet.length C) (hg : getP (frm, (id.toNat : Int)) ss = some (agedS (frm, (id.toNat : Int)) packet C come n)) :
    takeP sl ss frm (dgram (fragB packet id C i)) =
      if come.getD i false = true then ⟨[], false, 0, ss⟩
      else if (come.set i true).count true = C then ⟨packet, true, 0, keepP (fun y => decide (y = (frm, (id.toNat : Int)))) ss⟩
      else ⟨[], false, 0, putP (frm, (id.toNat : Int)) (agedS (frm, (id.toNat : Int)) packet C (come.set i true) n) ss⟩ := by
  unfold takeP
  rw [if_neg h255, hE, hF, if_neg (by simp), if_neg (by show ¬ C = 1; omega)]
  have ho : openP sl ss (frm, (id.toNat : Int)) (fragB packet id C i) = ss := by unfold openP; rw [hg]
  show fillP (openP sl ss (frm, (id.toNat : Int)) (fragB packet id C i)) (frm, (id.toNat : Int)) (fragB packet id C i) = _
  rw [ho]
  unfold fillP
  rw [hg]
  simp only
  rw [if_neg (by simp [oneS, agedS, fragB, partsOf_len])]
  have hgd : (agedS (frm, (id.toNat : Int)) packet C come n).parts.getD (fragB packet id C i).index [] = if come.getD i false then partB packet C i else [] := partsOf_get packet C come i hi
  rw [hgd]
  by_cases hc : come.getD i false = true
  · rw [if_pos hc, if_pos hp, if_pos hc, if_pos (by simp [fragB])]
  · rw [if_neg hc, if_neg (by simp), if_neg hc]
    have hcs := count_set (come := come) (i := i) (by omega) (by simpa using hc)
    have hfill : (agedS (frm, (id.toNat : Int)) packet C come n).fill i (partB packet C i) = agedS (frm, (id.toNat : Int)) packet C (come.set i true) n := by
      unfold PS.fill agedS oneS
      simp only [partsOf_set packet C come i hi hl, hcs]
    by_cases hw : (come.set i true).count true = C
    · rw [if_neg (by show ¬ come.count true + 1 < C; omega), if_pos hw]
      have hall := countAll (come := come.set i true) (by rw [List.length_set, hl]; exact hw)
      have hpk : (partsOf packet C (come.set i true)).flatten = packet := by
        rw [partsOf_all packet C _ (by rw [List.length_set]; exact hl) hall, flat_take, List.take_of_length_le hlen]
      show TP.mk (layT packet.length ((agedS (frm, (id.toNat : Int)) packet C come n).fill i (partB packet C i)).parts.flatten) true 0 _ = _
      rw [hfill]
      show TP.mk (layT packet.length (partsOf packet C (come.set i true)).flatten) true 0 _ = _
      rw [hpk, layT_fit rfl]
    · have hle : (come.set i true).count true ≤ C := by have := List.count_le_length (a := true) (l := come.set i true); rw [List.length_set, hl] at this; exact this
      rw [if_pos (by show come.count true + 1 < C; omega), if_neg hw]
      show TP.mk [] false 0 (putP _ ((agedS (frm, (id.toNat : Int)) packet C come n).fill i (partB packet C i)) _) = _
      rw [hfill]
-- FragOldest
def idO (base : BitVec 64) (i : Nat) : BitVec 64 := base + BitVec.ofNat 64 i
def pkO (base : BitVec 64) (i : Nat) : List B8 := twoP (idO base i) 7#8 60
def keyO (base : BitVec 64) (i : Nat) : Nm := (3, ((idO base i).toNat : Int))
def slotO (base : BitVec 64) (i : Nat) : PS := oneS (keyO base i) (pkO base i) 2 ((List.replicate 2 false).set (i % 2) true)
def dgO (base : BitVec 64) (i p : Nat) : List B8 := dgram (fragB (pkO base i) (idO base i) 2 p)
theorem keyO_inj {base : BitVec 64} {i j : Nat} (hi : i < 65536) (hj : j < 65536) (h : keyO base i = keyO base j) : i = j := by
  have h1 : ((idO base i).toNat : Int) = ((idO base j).toNat : Int) := congrArg Prod.snd h
  have h2 : idO base i = idO base j := BitVec.eq_of_toNat_eq (by omega)
  have h3 := (BitVec.add_right_inj base).1 h2
  have h4 := congrArg BitVec.toNat h3
  rw [BitVec.toNat_ofNat, BitVec.toNat_ofNat] at h4
  omega
theorem pkO_len (base : BitVec 64) (i : Nat) : (pkO base i).length = 60 := twoP_len _ _ _
theorem dgO_facts (base : BitVec 64) (i p : Nat) (hp : p < 2) : lookE (dgO base i p) = 0 ∧ lookF (dgO base i p) = fragB (pkO base i) (idO base i) 2 p ∧ partB (pkO base i) 2 p ≠ [] ∧ (dgO base i p).length ≤ 1024 := by
  have hl := pkO_len base i
  have hC : countN (pkO base i).length 64 = 2 := by rw [hl]; rfl
  have h := fragB_shaped (packet := pkO base i) (id := idO base i) (mtu := 64) (i := p) (by omega) (by omega) (by omega) (by omega) (by rw [hC]; exact hp)
  rw [hC] at h
  have h2 := dgram_look (fragB (pkO base i) (idO base i) 2 p) h.1 h.2.1 (by show (partB (pkO base i) 2 p).length ≤ 1006; omega)
  refine ⟨h2.1, h2.2, fun e => by have := h.2.1; rw [e] at this; simp at this, ?_⟩
  unfold dgO
  rw [dgram_len]
  show 18 + (partB (pkO base i) 2 p).length ≤ 1024
  omega
theorem pkO_fit (base : BitVec 64) (i : Nat) : (pkO base i).length ≤ 2 * sizeN (pkO base i).length 2 := by rw [pkO_len]; decide
theorem slotO_key (base : BitVec 64) (i : Nat) : (slotO base i).key = keyO base i := rfl
theorem getO_none {base : BitVec 64} {i : Nat} {L : List Nat} (hL : ∀ j ∈ L, j < 65536 ∧ j ≠ i) (hi : i < 65536) : getP (keyO base i) (L.map (slotO base)) = none := by
  rw [getP_none]
  intro s hs
  obtain ⟨j, hj, rfl⟩ := List.mem_map.1 hs
  intro e
  exact (hL j hj).2 (keyO_inj (hL j hj).1 hi e)
theorem getO_some {base : BitVec 64} {i : Nat} {L : List Nat} (hL : ∀ j ∈ L, j < 65536) (hi : i ∈ L) : getP (keyO base i) (L.map (slotO base)) = some (slotO base i) := by
  unfold getP
  rw [List.find?_map]
  have : L.find? ((fun (s : PS) => decide (s.key = keyO base i)) ∘ slotO base) = some i := by
    induction L with
    | nil => simp at hi
    | cons j L ih =>
      rw [List.find?_cons]
      by_cases e : j = i
      · subst e
        simp [slotO_key]
      · have hne : ¬ keyO base j = keyO base i := fun h => e (keyO_inj (hL j (by simp)) (hL i hi) h)
        have : ((fun (s : PS) => decide (s.key = keyO base i)) ∘ slotO base) j = false := decide_eq_false hne
        rw [this]
        exact ih (fun j hj => hL j (List.mem_cons_of_mem _ hj)) ((List.mem_cons.1 hi).elim (fun h => absurd h.symm e) (fun h => h))
  rw [this]
  rfl
theorem keepO {base : BitVec 64} {i : Nat} {L : List Nat} (hL : ∀ j ∈ L, j < 65536) (hi : i < 65536) : keepP (fun y => decide (y = keyO base i)) (L.map (slotO base)) = (L.filter (fun j => !decide (j = i))).map (slotO base) := by
  unfold keepP
  rw [List.filter_map]
  congr 1
  apply List.filter_congr
  intro j hj
  simp only [Function.comp]
  congr 1
  exact decide_eq_decide.2 ⟨fun h => keyO_inj (hL j hj) hi h, fun h => by rw [h]; rfl⟩
theorem srcO (base : BitVec 64) (L : List Nat) : srcP 3 (L.map (slotO base)) = L.length := by
  unfold srcP
  rw [List.filter_map, List.length_map]
  congr 1
  rw [List.filter_eq_self]
  intro j _
  rfl
theorem firstO (base : BitVec 64) (j : Nat) (L : List Nat) : firstP 3 ((j :: L).map (slotO base)) = keyO base j := by
  unfold firstP
  rw [List.map_cons, List.find?_cons]
  have : decide ((slotO base j).key.1 = 3) = true := rfl
  rw [this]
  rfl
/-- a new packet's first fragment, there being room -/
theorem old_room {base : BitVec 64} {sl i : Nat} {L : List Nat} (hL : ∀ j ∈ L, j < 65536 ∧ j ≠ i) (hi : i < 65536) (hl : L.length < sl) :
    takeP sl (L.map (slotO base)) 3 (dgO base i (i % 2)) = ⟨[], false, 0, (L ++ [i]).map (slotO base)⟩ := by
  have hf := dgO_facts base i (i % 2) (by omega)
  have := take_fresh (sl := sl) (ss := L.map (slotO base)) (frm := 3) (by omega) (show i % 2 < 2 by omega) (by omega) hf.1 hf.2.1 (getO_none hL hi)
  unfold dgO
  rw [this]
  unfold beginP
  rw [if_neg (by rw [srcO]; omega), List.map_append]
  rfl
/-- a packet more than may be kept -/
theorem old_full {base : BitVec 64} {sl i j : Nat} {L : List Nat} (hL : ∀ k ∈ j :: L, k < 65536 ∧ k ≠ i) (hn : (j :: L).Nodup) (hi : i < 65536) (hl : (j :: L).length = sl) :
    takeP sl ((j :: L).map (slotO base)) 3 (dgO base i (i % 2)) = ⟨[], false, 0, (L ++ [i]).map (slotO base)⟩ := by
  have hf := dgO_facts base i (i % 2) (by omega)
  have := take_fresh (sl := sl) (ss := (j :: L).map (slotO base)) (frm := 3) (by omega) (show i % 2 < 2 by omega) (by omega) hf.1 hf.2.1 (getO_none hL hi)
  unfold dgO
  rw [this]
  unfold beginP
  rw [if_pos (by rw [srcO]; omega), firstO, keepO (fun k hk => (hL k hk).1) (hL j (by simp)).1, List.map_append]
  congr 1
  congr 1
  rw [List.filter_cons]
  have h1 : (!decide (j = j)) = false := by simp
  rw [h1]
  simp only [Bool.false_eq_true, if_false]
  rw [List.filter_eq_self.2]
  intro k hk
  have := (List.nodup_cons.1 hn).1
  simp
  intro e
  exact this (e ▸ hk)
theorem slotO_aged (base : BitVec 64) (i : Nat) : slotO base i = agedS (keyO base i) (pkO base i) 2 ((List.replicate 2 false).set (i % 2) true) 0 := rfl
theorem come2 (p : Nat) (hp : p < 2) : (((List.replicate 2 false).set p true).set (1 - p) true).count true = 2 ∧ ((List.replicate 2 false).set p true).getD (1 - p) false = false ∧ ((List.replicate 2 false).set p true).count true = 1 := by
  obtain rfl | rfl : p = 0 ∨ p = 1 := by omega
  · decide
  · decide
/-- the other fragment of a packet that is kept -/
theorem old_last {base : BitVec 64} {sl i : Nat} {L : List Nat} (hL : ∀ j ∈ L, j < 65536) (hi : i ∈ L) :
    takeP sl (L.map (slotO base)) 3 (dgO base i (1 - i % 2)) = ⟨pkO base i, true, 0, (L.filter (fun j => !decide (j = i))).map (slotO base)⟩ := by
  have hf := dgO_facts base i (1 - i % 2) (by omega)
  have hc := come2 (i % 2) (by omega)
  have := take_slot (sl := sl) (ss := L.map (slotO base)) (frm := 3) (n := 0) (by omega) ((List.replicate 2 false).set (i % 2) true) (by simp) (show 1 - i % 2 < 2 by omega) (by omega) (by omega) hf.1 hf.2.1 hf.2.2.1 (pkO_fit base i) (getO_some hL hi)
  unfold dgO
  rw [this, hc.2.1, if_neg (by simp), if_pos hc.1]
  have h2 := keepO (base := base) (i := i) (L := L) hL (hL i hi)
  exact congrArg (fun z => TP.mk (pkO base i) true 0 z) h2
theorem filter_at {L : List Nat} (hn : L.Nodup) (t : Nat) (ht : t < L.length) : L.filter (fun j => !decide (j = L[t])) = L.take t ++ L.drop (t + 1) := by
  have e : L = L.take t ++ L[t] :: L.drop (t + 1) := by rw [← List.drop_eq_getElem_cons ht, List.take_append_drop]
  generalize L[t] = x at *
  generalize L.take t = A at *
  generalize L.drop (t + 1) = B at *
  subst e
  rw [List.nodup_append] at hn
  obtain ⟨h1, h2, h3⟩ := hn
  rw [List.nodup_cons] at h2
  rw [List.filter_append, List.filter_cons]
  have hx : (!decide (x = x)) = false := by simp
  rw [hx, List.filter_eq_self.2, List.filter_eq_self.2]
  · rfl
  · intro k hk
    simp
    intro e
    exact h2.1 (e ▸ hk)
  · intro k hk
    simp
    intro e
    exact h3 k hk x (by simp) e
/-- behind it all: the packet that was pushed out opens anew; all is forgotten -/
theorem old_end {base : BitVec 64} {sl i0 : Nat} (hsl : 1 ≤ sl) (h0 : 0 < i0) (hi : i0 < 65536) :
    (takeP sl [slotO base i0] 3 (dgO base 0 1)).whole = false ∧ (takeP sl [slotO base i0] 3 (dgO base 0 1)).er = 0 ∧ (takeP sl [slotO base i0] 3 (dgO base 0 1)).ss.length = (if sl = 1 then 1 else 2) ∧ keepP (fun y => decide (y.1 = 3)) (takeP sl [slotO base i0] 3 (dgO base 0 1)).ss = [] ∧ ∀ i p, p < 2 → (takeP sl [] 3 (dgO base i p)).whole = false := by
  have hf := dgO_facts base 0 1 (by omega)
  have hn : getP (keyO base 0) [slotO base i0] = none := getO_none (L := [i0]) (by simp; omega) (by omega)
  have h1 := take_fresh (sl := sl) (ss := [slotO base i0]) (frm := 3) (by omega) (show 1 < 2 by omega) (by omega) hf.1 hf.2.1 hn
  have hs : srcP 3 [slotO base i0] = 1 := srcO base [i0]
  have hk : keepP (fun y => decide (y = firstP 3 [slotO base i0])) [slotO base i0] = [] := by
    rw [show firstP 3 [slotO base i0] = keyO base i0 from firstO base i0 []]
    simp [keepP, slotO_key]
  unfold dgO
  rw [h1]
  refine ⟨rfl, rfl, ?_, ?_, ?_⟩
  · unfold beginP
    by_cases e : sl = 1
    · rw [if_pos (by rw [hs]; omega), if_pos e, hk]
      rfl
    · rw [if_neg (by rw [hs]; omega), if_neg e]
      rfl
  · unfold keepP
    rw [List.filter_eq_nil_iff]
    intro s hs'
    have : s.key.1 = 3 := by
      rcases List.mem_append.1 hs' with h | h
      · unfold beginP at h
        split at h
        · rw [List.mem_singleton.1 (keep_mem h)]; rfl
        · rw [List.mem_singleton.1 h]; rfl
      · rw [List.mem_singleton.1 h]; rfl
    simp [this]
  · intro i p hp
    have hf2 := dgO_facts base i p hp
    have := take_fresh (sl := sl) (ss := []) (frm := 3) (by omega) hp (by omega) hf2.1 hf2.2.1 rfl
    rw [this]
end Go.Proofs.Ytoeafacamapofaa
