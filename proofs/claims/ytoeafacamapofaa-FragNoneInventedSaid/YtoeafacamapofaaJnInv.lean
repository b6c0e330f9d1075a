
/-
  The plain law of FragNoneInvented: what the slots hold has come.
-/
import Derived.Test.YtoeafacamapofaaJnOld
import Derived.Test.YtoeafacamapofaaJnComp
import Derived.Test.YtoeafacamapofaaWFragSizes
namespace Go.Proofs.Ytoeafacamapofaa
open Go.RowKit
set_option linter.unusedVariables false
set_option linter.unusedSimpArgs false

def idN (n : Nat) : BitVec 64 := BitVec.ofNat 64 n
theorem idN_inj {n m : Nat} (hn : n < 18446744073709551616) (hm : m < 18446744073709551616) (h : ((idN n).toNat : Int) = ((idN m).toNat : Int)) : n = m := by
  unfold idN at h
  rw [BitVec.toNat_ofNat, BitVec.toNat_ofNat] at h
  omega
def keyN (n : Nat) : Nm := (1, ((idN n).toNat : Int))
def cntN (mtu : Int) (P : List B8) : Nat := countN P.length mtu.toNat
/-- a slot of what has come -/
def SlotOf (Ps : List (List B8)) (mtu : Int) (come : List Pr) (s : PS) : Prop :=
  ∃ (n : Nat) (P : List B8) (cm : List Bool) (age : Nat), Ps[n]? = some P ∧ 2 ≤ cntN mtu P ∧ s = agedS (keyN n) P (cntN mtu P) cm age ∧ cm.length = cntN mtu P ∧ cm.count true < cntN mtu P ∧ ∀ i : Nat, cm.getD i false = true → (((n : Int), (i : Int)) : Pr) ∈ come
structure Inv (Ps : List (List B8)) (mtu : Int) (come : List Pr) (ss : List PS) : Prop where
  sane : Sane 3 4 ss
  slot : ∀ s ∈ ss, SlotOf Ps mtu come s
theorem Inv.nil (Ps : List (List B8)) (mtu : Int) (come : List Pr) : Inv Ps mtu come [] := ⟨Sane.nil _ _, fun _ h => by simp at h⟩
theorem Inv.mono {Ps : List (List B8)} {mtu : Int} {come come' : List Pr} {ss : List PS} (h : Inv Ps mtu come ss) (hc : ∀ p ∈ come, p ∈ come') : Inv Ps mtu come' ss :=
  ⟨h.sane, fun s hs => by
    obtain ⟨n, P, cm, age, h1, h2, h3, h4, h5, h6⟩ := h.slot s hs
    exact ⟨n, P, cm, age, h1, h2, h3, h4, h5, fun i hi => hc _ (h6 i hi)⟩⟩
theorem Inv.tick {Ps : List (List B8)} {mtu : Int} {come : List Pr} {ss : List PS} (h : Inv Ps mtu come ss) : Inv Ps mtu come (tickP 4 ss) := by
  refine ⟨h.sane.tick, fun s hs => ?_⟩
  obtain ⟨t, ht, rfl⟩ := List.mem_map.1 (List.mem_filter.1 hs).1
  obtain ⟨n, P, cm, age, h1, h2, rfl, h4, h5, h6⟩ := h.slot t ht
  exact ⟨n, P, cm, age + 1, h1, h2, rfl, h4, h5, h6⟩
theorem getD_set {cm : List Bool} {i j : Nat} (h : (cm.set i true).getD j false = true) : j = i ∨ cm.getD j false = true := by
  by_cases e : i = j
  · exact .inl e.symm
  · right
    rw [List.getD_eq_getElem?_getD, List.getElem?_set_ne e, ← List.getD_eq_getElem?_getD] at h
    exact h
/-- THE LAW: what is whole is the packet, and all its fragments have come -/
theorem Inv.take {Ps : List (List B8)} {mtu : Int} {come : List Pr} {ss : List PS} (h : Inv Ps mtu come ss) (hN : Ps.length ≤ 140737488355328) {n i : Nat} {P : List B8} (hP : Ps[n]? = some P) (hfit : fitsN P.length mtu = true) (hi : i < cntN mtu P) (hin : (((n : Int), (i : Int)) : Pr) ∈ come) :
    Inv Ps mtu come (takeP 3 ss 1 (dgram (fragB P (idN n) (cntN mtu P) i))).ss ∧ (takeP 3 ss 1 (dgram (fragB P (idN n) (cntN mtu P) i))).er = 0 ∧
      (((takeP 3 ss 1 (dgram (fragB P (idN n) (cntN mtu P) i))).whole = false ∧ (takeP 3 ss 1 (dgram (fragB P (idN n) (cntN mtu P) i))).out = []) ∨
       ((takeP 3 ss 1 (dgram (fragB P (idN n) (cntN mtu P) i))).whole = true ∧ (takeP 3 ss 1 (dgram (fragB P (idN n) (cntN mtu P) i))).out = P ∧ ∀ j, j < cntN mtu P → (((n : Int), (j : Int)) : Pr) ∈ come)) := by
  have hsane := h.sane.take (frm := 1) (by omega) (by omega) (by omega) (dgram (fragB P (idN n) (cntN mtu P) i))
  obtain ⟨m, hm, m1, m2, m3, m4, _, _⟩ := fits_yes (id := idN n) hfit
  have hcm : cntN mtu P = countN P.length m := by unfold cntN; rw [hm]; rfl
  have hsh := fragB_shaped (packet := P) (id := idN n) m1 m2 m3 m4 (i := i) (by rw [← hcm]; exact hi)
  have hsf := split_facts m1 m2 m3 m4
  rw [← hcm] at hsh hsf
  have hlk := dgram_look (fragB P (idN n) (cntN mtu P) i) hsh.1 hsh.2.1 (by show (partB P (cntN mtu P) i).length ≤ 1006; omega)
  have hpn : partB P (cntN mtu P) i ≠ [] := fun e => by have := hsh.2.1; rw [e] at this; simp at this
  have hlen := hsf.2.2.2.2.2
  clear hsh hsf
  generalize hC : cntN mtu P = C at *
  by_cases hC2 : 2 ≤ C
  · cases hg : getP (1, ((idN n).toNat : Int)) ss with
    | none =>
      have ht := take_fresh (sl := 3) (ss := ss) (frm := 1) (by omega) hi hC2 hlk.1 hlk.2 hg
      rw [ht] at hsane ⊢
      refine ⟨⟨hsane, fun s hs => ?_⟩, rfl, .inl ⟨rfl, rfl⟩⟩
      rcases List.mem_append.1 hs with hs | hs
      · refine h.slot s ?_
        unfold beginP at hs
        split at hs
        · exact keep_mem hs
        · exact hs
      · rw [List.mem_singleton.1 hs]
        refine ⟨n, P, (List.replicate C false).set i true, 0, hP, by rw [hC]; exact hC2, by rw [hC]; rfl, by rw [hC]; simp, ?_, fun j hj => ?_⟩
        · have := count_set (come := List.replicate C false) (i := i) (by simpa using hi) (by simp [List.getD_eq_getElem?_getD, hi])
          rw [this, hC]
          simp [List.count_replicate]
          omega
        · rcases getD_set hj with rfl | hj
          · exact hin
          · simp [List.getD_eq_getElem?_getD, List.getElem?_replicate] at hj
            split at hj <;> simp at hj
    | some s =>
      obtain ⟨hk, hmem⟩ := getP_key hg
      obtain ⟨n', P', cm, age, h1, h2, rfl, h4, h5, h6⟩ := h.slot s hmem
      have hn' : n' < Ps.length := (List.getElem?_eq_some_iff.1 h1).1
      have hn : n < Ps.length := (List.getElem?_eq_some_iff.1 hP).1
      have hkk : keyN n' = keyN n := hk
      obtain rfl : n' = n := idN_inj (by omega) (by omega) (congrArg Prod.snd hkk)
      obtain rfl : P' = P := by rw [h1] at hP; exact Option.some.inj hP
      rw [hC] at h2 h4 h5 hg
      have ht := take_slot (sl := 3) (ss := ss) (frm := 1) (by omega) cm h4 hi hC2 h5 hlk.1 hlk.2 hpn hlen hg
      rw [ht] at hsane ⊢
      by_cases hc : cm.getD i false = true
      · rw [if_pos hc] at hsane ⊢
        exact ⟨h, rfl, .inl ⟨rfl, rfl⟩⟩
      · rw [if_neg hc] at hsane ⊢
        by_cases hf : (cm.set i true).count true = C
        · rw [if_pos hf] at hsane ⊢
          refine ⟨⟨hsane, fun s hs => h.slot s (keep_mem (q := fun y => decide (y = ((1, ((idN n').toNat : Int)) : Nm))) hs)⟩, rfl, .inr ⟨rfl, rfl, fun j hj => ?_⟩⟩
          have hall := countAll (come := cm.set i true) (by rw [List.length_set, h4]; exact hf)
          have hjl : j < (cm.set i true).length := by rw [List.length_set, h4]; exact hj
          have hgj : (cm.set i true).getD j false = true := by rw [List.getD_eq_getElem?_getD, List.getElem?_eq_getElem hjl, Option.getD_some]; exact hall _ (List.getElem_mem hjl)
          rcases getD_set hgj with rfl | hj'
          · exact hin
          · exact h6 j hj'
        · rw [if_neg hf] at hsane ⊢
          refine ⟨⟨hsane, fun s hs => ?_⟩, rfl, .inl ⟨rfl, rfl⟩⟩
          obtain ⟨u, hu, rfl⟩ := List.mem_map.1 hs
          split
          · have hle : (cm.set i true).count true ≤ C := by have := List.count_le_length (a := true) (l := cm.set i true); rw [List.length_set, h4] at this; exact this
            refine ⟨n', P', cm.set i true, age, h1, by rw [hC]; exact hC2, by rw [hC]; rfl, by rw [List.length_set, h4, hC], by rw [hC]; omega, fun j hj => ?_⟩
            rcases getD_set hj with rfl | hj
            · exact hin
            · exact h6 j hj
          · exact h.slot u hu
  · obtain rfl : C = 1 := by omega
    obtain rfl : i = 0 := by omega
    have hpk : partB P 1 0 = P := by
      have h1 := flat_take P 1 1
      rw [List.take_of_length_le hlen] at h1
      simpa using h1
    have ht : takeP 3 ss 1 (dgram (fragB P (idN n) 1 0)) = ⟨P, true, 0, ss⟩ := by
      unfold takeP
      rw [if_neg (by omega), hlk.1, hlk.2, if_neg (by simp), if_pos (by rfl)]
      have e1 : (fragB P (idN n) 1 0).part = P := hpk
      rw [e1]
    rw [ht]
    exact ⟨h, rfl, .inr ⟨rfl, rfl, fun j hj => by
      obtain rfl : j = 0 := (by omega)
      exact hin⟩⟩
theorem apart_one (k : Nm) (P : List B8) {C i : Nat} (hi : i < C) (h0 : 0 < i) : apartS k P C i = [agedS k P C (comeN C i) 0] := by
  unfold apartS cameS
  rw [if_neg (by omega), comeN_count, if_neg (by omega)]
  rfl
theorem apart_zero (k : Nm) (P : List B8) {C : Nat} (hC : 0 < C) : apartS k P C 0 = [] := by
  unfold apartS cameS
  rw [if_neg (by omega), comeN_count, if_pos rfl]
/-- a packet alone, three slots -/
theorem take_next3 {P : List B8} {id : BitVec 64} {C i : Nat} (hi : i < C) (hE : lookE (dgram (fragB P id C i)) = 0) (hF : lookF (dgram (fragB P id C i)) = fragB P id C i)
    (hp : partB P C i ≠ []) (hlen : P.length ≤ C * sizeN P.length C) :
    takeP 3 (apartS (1, (id.toNat : Int)) P C i) 1 (dgram (fragB P id C i)) = ⟨if i + 1 = C then P else [], decide (i + 1 = C), 0, apartS (1, (id.toNat : Int)) P C (i + 1)⟩ := by
  by_cases hC2 : 2 ≤ C
  · by_cases h0 : i = 0
    · subst h0
      rw [apart_zero _ _ (by omega), take_fresh (sl := 3) (ss := []) (frm := 1) (by omega) hi hC2 hE hF rfl, if_neg (by omega), decide_eq_false (by omega), apart_one _ _ (by omega) (by omega)]
      have e : (List.replicate C false).set 0 true = comeN C 1 := by
        have := comeN_set hi
        rw [← this]
        simp [comeN]
      rw [e]
      rfl
    · rw [apart_one _ _ hi (by omega), take_slot (sl := 3) (frm := 1) (n := 0) (by omega) (comeN C i) (comeN_len (by omega)) hi hC2 (by rw [comeN_count]; omega) hE hF hp hlen (by simp [getP, agedS, oneS]), comeN_get, if_neg (by simp), comeN_set hi, comeN_count]
      by_cases hend : i + 1 = C
      · rw [if_pos hend, if_pos hend, decide_eq_true hend]
        unfold apartS
        rw [if_pos hend]
        simp [keepP, agedS, oneS]
      · rw [if_neg hend, if_neg hend, decide_eq_false hend, apart_one _ _ (by omega) (by omega)]
        simp [putP, agedS, oneS]
  · obtain rfl : C = 1 := by omega
    obtain rfl : i = 0 := by omega
    have hpk : partB P 1 0 = P := by
      have h1 := flat_take P 1 1
      rw [List.take_of_length_le hlen] at h1
      simpa using h1
    rw [apart_zero _ _ (by omega)]
    unfold takeP
    rw [if_neg (by omega), hE, hF, if_neg (by simp), if_pos (by rfl)]
    have e1 : (fragB P id 1 0).part = P := hpk
    rw [e1]
    simp [apartS]
theorem fits_iff (len : Nat) (mtu : Int) : (splitE len mtu = 0) ↔ fitsN len mtu = true := by
  unfold splitE fitsN
  constructor
  · intro h
    split at h
    · cases h
    · split at h
      · cases h
      · exact decide_eq_true (by omega)
  · intro h
    have := of_decide_eq_true h
    rw [if_neg (by omega), if_neg (by omega)]
theorem split_no {P : List B8} {id : BitVec 64} {mtu : Int} (h : fitsN P.length mtu = false) : splitB P id mtu = [] := by
  unfold splitB
  rw [if_neg (fun e => by rw [(fits_iff _ _).1 e] at h; cases h)]
theorem split_yes {P : List B8} {id : BitVec 64} {mtu : Int} (h : fitsN P.length mtu = true) : splitB P id mtu = splitL P id (cntN mtu P) := by
  unfold splitB
  rw [if_pos ((fits_iff _ _).2 h)]
  rfl
end Go.Proofs.Ytoeafacamapofaa
