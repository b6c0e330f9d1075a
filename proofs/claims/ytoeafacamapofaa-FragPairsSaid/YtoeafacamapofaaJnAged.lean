
/-
  The plain law of Take: the last fragment of an aged slot; time goes by.
-/
import Derived.Test.YtoeafacamapofaaJnOne
import Derived.Test.YtoeafacamapofaaJnTick
namespace Go.Proofs.Ytoeafacamapofaa
open Go.RowKit
set_option linter.unusedVariables false
set_option linter.unusedSimpArgs false

def agedS (k : Nm) (packet : List B8) (C : Nat) (come : List Bool) (n : Nat) : PS := { oneS k packet C come with age := n }
theorem tick_aged (ag : Nat) (k : Nm) (packet : List B8) (C : Nat) (come : List Bool) (n : Nat) : tickP ag [agedS k packet C come n] = if ag ≤ n + 1 then [] else [agedS k packet C come (n + 1)] := by
  unfold tickP
  by_cases h : ag ≤ n + 1
  · rw [if_pos h]; simp [agedS, PS.older, h]
  · rw [if_neg h]; simp [agedS, PS.older, h]
theorem tick_none (ag : Nat) : tickP ag [] = [] := rfl
theorem take_aged {packet : List B8} {id : BitVec 64} {C i n : Nat} {frm : Int} (h255 : frm ≠ 255) (come : List Bool) (hl : come.length = C) (hi : i < C) (hC : 2 ≤ C) (hE : lookE (dgram (fragB packet id C i)) = 0) (hF : lookF (dgram (fragB packet id C i)) = fragB packet id C i)
    (hlen : packet.length ≤ C * sizeN packet.length C) (hc : come.getD i false = false) (hw : (come.set i true).count true = C) :
    takeP 1 [agedS (frm, (id.toNat : Int)) packet C come n] frm (dgram (fragB packet id C i)) = ⟨packet, true, 0, []⟩ := by
  unfold takeP
  rw [if_neg h255, hE, hF, if_neg (by simp), if_neg (by show ¬ C = 1; omega)]
  have hg : getP (frm, (id.toNat : Int)) [agedS (frm, (id.toNat : Int)) packet C come n] = some (agedS (frm, (id.toNat : Int)) packet C come n) := by simp [getP, oneS, agedS]
  have ho : openP 1 [agedS (frm, (id.toNat : Int)) packet C come n] (frm, (id.toNat : Int)) (fragB packet id C i) = [agedS (frm, (id.toNat : Int)) packet C come n] := by unfold openP; rw [hg]
  show fillP (openP 1 [agedS (frm, (id.toNat : Int)) packet C come n] (frm, (id.toNat : Int)) (fragB packet id C i)) (frm, (id.toNat : Int)) (fragB packet id C i) = _
  rw [ho]
  unfold fillP
  rw [hg]
  simp only
  rw [if_neg (by simp [oneS, agedS, fragB, partsOf_len])]
  have hgd : (agedS (frm, (id.toNat : Int)) packet C come n).parts.getD (fragB packet id C i).index [] = if come.getD i false then partB packet C i else [] := partsOf_get packet C come i hi
  have hcs := count_set (come := come) (i := i) (by omega) hc
  rw [hgd, hc, if_neg (by simp), if_neg (by show ¬ come.count true + 1 < C; omega)]
  have hall := countAll (come := come.set i true) (by rw [List.length_set, hl]; exact hw)
  have hpk : (partsOf packet C (come.set i true)).flatten = packet := by
    rw [partsOf_all packet C _ (by rw [List.length_set]; exact hl) hall, flat_take, List.take_of_length_le hlen]
  show TP.mk (layT packet.length ((partsOf packet C come).set i (partB packet C i)).flatten) true 0 _ = _
  rw [partsOf_set packet C come i hi hl, hpk, layT_fit rfl]
  simp [keepP, oneS, agedS]
end Go.Proofs.Ytoeafacamapofaa
