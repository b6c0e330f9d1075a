
/-
  The plain law of Take: of one packet's fragments, in whatever order.
-/
import Derived.Test.YtoeafacamapofaaJnPlain
import Derived.Test.YtoeafacamapofaaFgPlain
namespace Go.Proofs.Ytoeafacamapofaa
open Go.RowKit
set_option linter.unusedVariables false
set_option linter.unusedSimpArgs false

theorem flat_take (packet : List B8) (C n : Nat) : ((List.range n).map (partB packet C)).flatten = packet.take (n * sizeN packet.length C) := by
  induction n with
  | zero => simp
  | succ n ih =>
    rw [List.range_succ, List.map_append, List.flatten_append, ih]
    simp only [List.map_cons, List.map_nil, List.flatten_cons, List.flatten_nil, List.append_nil]
    exact parts_app packet C n
/-- the parts that have come -/
def partsOf (packet : List B8) (C : Nat) (come : List Bool) : List (List B8) := (List.range C).map fun j => if come.getD j false then partB packet C j else []
theorem partsOf_len (packet : List B8) (C : Nat) (come : List Bool) : (partsOf packet C come).length = C := by simp [partsOf]
theorem partsOf_get (packet : List B8) (C : Nat) (come : List Bool) (i : Nat) (h : i < C) : (partsOf packet C come).getD i [] = if come.getD i false then partB packet C i else [] := by
  unfold partsOf
  rw [List.getD_eq_getElem?_getD, List.getElem?_map, List.getElem?_range h]
  rfl
theorem partsOf_set (packet : List B8) (C : Nat) (come : List Bool) (i : Nat) (h : i < C) (hl : come.length = C) : (partsOf packet C come).set i (partB packet C i) = partsOf packet C (come.set i true) := by
  apply List.ext_getElem?
  intro j
  by_cases hij : i = j
  · subst hij
    rw [List.getElem?_set_self (by rw [partsOf_len]; exact h)]
    unfold partsOf
    rw [List.getElem?_map, List.getElem?_range h]
    simp [List.getD_eq_getElem?_getD, hl, h]
  · rw [List.getElem?_set_ne hij]
    unfold partsOf
    rw [List.getElem?_map, List.getElem?_map]
    cases hr : (List.range C)[j]? with
    | none => rfl
    | some x =>
      have hx : x = j := by
        have := List.getElem?_eq_some_iff.1 hr
        obtain ⟨h1, h2⟩ := this
        simpa using h2.symm
      subst hx
      simp [List.getD_eq_getElem?_getD, List.getElem?_set_ne hij]
theorem partsOf_all (packet : List B8) (C : Nat) (come : List Bool) (hl : come.length = C) (ha : ∀ b ∈ come, b = true) : partsOf packet C come = (List.range C).map (partB packet C) := by
  unfold partsOf
  apply List.map_congr_left
  intro j hj
  have hj' : j < come.length := by rw [hl]; exact List.mem_range.1 hj
  rw [List.getD_eq_getElem?_getD, List.getElem?_eq_getElem hj', Option.getD_some, ha _ (List.getElem_mem hj'), if_pos rfl]
theorem partsOf_none (packet : List B8) (C : Nat) (come : List Bool) (ha : ∀ b ∈ come, b = false) : partsOf packet C come = List.replicate C [] := by
  unfold partsOf
  rw [List.eq_replicate_iff]
  refine ⟨by simp, fun x hx => ?_⟩
  obtain ⟨j, _, rfl⟩ := List.mem_map.1 hx
  rw [List.getD_eq_getElem?_getD]
  cases hj : come[j]? with
  | none => rfl
  | some b => rw [ha b (List.mem_of_getElem? hj)]; rfl
def oneS (k : Nm) (packet : List B8) (C : Nat) (come : List Bool) : PS := ⟨k, packet.length, come.count true, 0, partsOf packet C come⟩
/-- the slots where so much has come -/
def cameS (k : Nm) (packet : List B8) (C : Nat) (come : List Bool) : List PS := if come.count true = 0 then [] else [oneS k packet C come]
theorem count0 {come : List Bool} (h : come.count true = 0) : ∀ b ∈ come, b = false := by
  intro b hb
  cases b with
  | false => rfl
  | true => exact absurd (List.count_pos_iff.2 hb) (by omega)
theorem countAll {come : List Bool} (h : come.count true = come.length) : ∀ b ∈ come, b = true := by
  intro b hb
  have := (List.count_eq_length.1 h) b hb
  exact this.symm
theorem count_set {come : List Bool} {i : Nat} (hi : i < come.length) (h : come.getD i false = false) : (come.set i true).count true = come.count true + 1 := by
  induction come generalizing i with
  | nil => simp at hi
  | cons b r ih =>
    cases i with
    | zero =>
      simp at h
      subst h
      simp
    | succ i =>
      have := ih (by simpa using hi) (by simpa using h)
      simp only [List.set_cons_succ, List.count_cons, this]
      omega
theorem open_came (k : Nm) (packet : List B8) (C : Nat) (come : List Bool) (f : Fg) (ht : f.total = packet.length) (hc : f.count = C) : openP 1 (cameS k packet C come) k f = [oneS k packet C come] := by
  unfold cameS openP
  by_cases h : come.count true = 0
  · rw [if_pos h]
    have hb : beginP 1 k [] = [] := by unfold beginP; exact if_neg (by simp [srcP])
    show beginP 1 k [] ++ [newP k f.total f.count] = _
    rw [hb]
    simp only [List.nil_append, newP, oneS, h, partsOf_none packet C come (count0 h), ht, hc]
  · rw [if_neg h]
    have : getP k [oneS k packet C come] = some (oneS k packet C come) := by simp [getP, oneS]
    rw [this]
/-- THE LAW: of Take, for one packet's fragments -/
theorem take_came {packet : List B8} {id : BitVec 64} {C i : Nat} {frm : Int} (h255 : frm ≠ 255) (come : List Bool) (hl : come.length = C) (hi : i < C) (hC : 2 ≤ C) (hE : lookE (dgram (fragB packet id C i)) = 0) (hF : lookF (dgram (fragB packet id C i)) = fragB packet id C i)
    (hp : partB packet C i ≠ []) (hlen : packet.length ≤ C * sizeN packet.length C) :
    takeP 1 (cameS (frm, (id.toNat : Int)) packet C come) frm (dgram (fragB packet id C i)) =
      if come.getD i false = true then ⟨[], false, 0, cameS (frm, (id.toNat : Int)) packet C come⟩
      else if (come.set i true).count true = C then ⟨packet, true, 0, []⟩
      else ⟨[], false, 0, cameS (frm, (id.toNat : Int)) packet C (come.set i true)⟩ := by
  unfold takeP
  rw [if_neg h255, hE, hF, if_neg (by simp), if_neg (by show ¬ C = 1; omega)]
  show fillP (openP 1 (cameS (frm, (id.toNat : Int)) packet C come) (frm, (id.toNat : Int)) (fragB packet id C i)) (frm, (id.toNat : Int)) (fragB packet id C i) = _
  rw [open_came (frm, (id.toNat : Int)) packet C come (fragB packet id C i) rfl rfl]
  unfold fillP
  have hg : getP (frm, (id.toNat : Int)) [oneS (frm, (id.toNat : Int)) packet C come] = some (oneS (frm, (id.toNat : Int)) packet C come) := by simp [getP, oneS]
  show (match getP (frm, (id.toNat : Int)) [oneS (frm, (id.toNat : Int)) packet C come] with | none => _ | some s => _) = _
  rw [hg]
  simp only
  rw [if_neg (by simp [oneS, fragB, partsOf_len])]
  have hgd : (oneS (frm, (id.toNat : Int)) packet C come).parts.getD (fragB packet id C i).index [] = if come.getD i false then partB packet C i else [] := partsOf_get packet C come i hi
  rw [hgd]
  by_cases hc : come.getD i false = true
  · rw [if_pos hc, if_pos hp, if_pos hc]
    have hne : ¬ come.count true = 0 := by
      intro h0
      rw [List.getD_eq_getElem?_getD, List.getElem?_eq_getElem (by omega), Option.getD_some] at hc
      have := count0 h0 _ (List.getElem_mem (by omega : i < come.length))
      rw [hc] at this
      cases this
    unfold cameS
    rw [if_neg hne]
    simp [fragB]
  · rw [if_neg hc, if_neg (by simp), if_neg hc]
    have hcs := count_set (come := come) (i := i) (by omega) (by simpa using hc)
    have hle : (come.set i true).count true ≤ C := by have := List.count_le_length (a := true) (l := come.set i true); rw [List.length_set, hl] at this; exact this
    have hfill : (oneS (frm, (id.toNat : Int)) packet C come).fill i (partB packet C i) = oneS (frm, (id.toNat : Int)) packet C (come.set i true) := by
      unfold PS.fill oneS
      simp only [partsOf_set packet C come i hi hl, hcs]
    by_cases hw : (come.set i true).count true = C
    · rw [if_neg (by show ¬ come.count true + 1 < C; omega), if_pos hw]
      have hall := countAll (come := come.set i true) (by rw [List.length_set, hl]; exact hw)
      have hpk : (partsOf packet C (come.set i true)).flatten = packet := by
        rw [partsOf_all packet C _ (by rw [List.length_set]; exact hl) hall, flat_take, List.take_of_length_le hlen]
      show TP.mk (layT packet.length ((oneS (frm, (id.toNat : Int)) packet C come).fill i (partB packet C i)).parts.flatten) true 0 _ = _
      rw [hfill]
      show TP.mk (layT packet.length (partsOf packet C (come.set i true)).flatten) true 0 _ = _
      rw [hpk, layT_fit rfl]
      simp [keepP, oneS]
    · rw [if_pos (by show come.count true + 1 < C; omega), if_neg hw]
      show TP.mk [] false 0 (putP _ ((oneS (frm, (id.toNat : Int)) packet C come).fill i (partB packet C i)) _) = _
      rw [hfill]
      unfold cameS
      rw [if_neg (by omega)]
      simp [putP, oneS]
/-- the same, of one fragment too -/
theorem take_any {packet : List B8} {id : BitVec 64} {C i : Nat} {frm : Int} (h255 : frm ≠ 255) (come : List Bool) (hl : come.length = C) (hi : i < C) (hlt : come.count true < C) (hE : lookE (dgram (fragB packet id C i)) = 0) (hF : lookF (dgram (fragB packet id C i)) = fragB packet id C i)
    (hp : partB packet C i ≠ []) (hlen : packet.length ≤ C * sizeN packet.length C) :
    takeP 1 (cameS (frm, (id.toNat : Int)) packet C come) frm (dgram (fragB packet id C i)) =
      if come.getD i false = true then ⟨[], false, 0, cameS (frm, (id.toNat : Int)) packet C come⟩
      else if (come.set i true).count true = C then ⟨packet, true, 0, []⟩
      else ⟨[], false, 0, cameS (frm, (id.toNat : Int)) packet C (come.set i true)⟩ := by
  by_cases hC : 2 ≤ C
  · exact take_came h255 come hl hi hC hE hF hp hlen
  · obtain rfl : C = 1 := by omega
    obtain rfl : i = 0 := by omega
    obtain ⟨b, rfl⟩ : ∃ b, come = [b] := by
      cases come with
      | nil => simp at hl
      | cons b r =>
        cases r with
        | nil => exact ⟨b, rfl⟩
        | cons _ _ => simp at hl
    cases b with
    | true => simp at hlt
    | false =>
      have hpk : partB packet 1 0 = packet := by
        have h1 := flat_take packet 1 1
        rw [List.take_of_length_le hlen] at h1
        simpa using h1
      unfold takeP
      rw [if_neg h255, hE, hF, if_neg (by simp), if_pos (by rfl)]
      have e1 : (fragB packet id 1 0).part = packet := hpk
      rw [e1]
      simp [cameS]
end Go.Proofs.Ytoeafacamapofaa
