
/-
  What is told of frames of which one is spoilt, in the walk's words.
-/
import Derived.Test.YtfhoekcmkbeabaaCwSpoilt
import Derived.Test.YtfhoekcmkbeabaaCwFramed
namespace Go.Proofs.Ytfhoekcmkbeabaa
open Go.RowKit
set_option linter.unusedVariables false
set_option linter.unusedSimpArgs false

/-- where a frame ends -/
def endP (L : List (List B8)) (k : Nat) : Nat := (flatB (L.take k)).length
theorem endP_succ (L : List (List B8)) (i : Nat) (b : List B8) (h : L[i]? = some b) : endP L (i + 1) = endP L i + (8 + b.length) := by
  unfold endP
  rw [flat_succ L i b h, List.length_append, frameB_len]
theorem parts_at (L : List (List B8)) (i : Nat) (b : List B8) (h : L[i]? = some b) : flatB L = flatB (L.take i) ++ (sizeB b.length ++ (sumB b ++ (b ++ flatB (L.drop (i + 1))))) := by
  obtain ⟨hi, rfl⟩ := List.getElem?_eq_some_iff.1 h
  exact all_parts L i hi
theorem end_fits (L : List (List B8)) (i : Nat) (b : List B8) (h : L[i]? = some b) : endP L i + (8 + b.length) ≤ (flatB L).length := by
  have := parts_at L i b h
  rw [this]
  unfold endP
  simp [sizeB_len, sumB_len]
  omega
theorem told_body (L : List (List B8)) (i : Nat) (b : List B8) (h : L[i]? = some b) (hf : ∀ b ∈ L, b.length ≤ 16777208) (n : Nat) (mask : BitVec 32) (o : List B8) (ho : o = turnTo n mask 32 b) (hne : ¬ b = o) :
    framesB (((flatB L).take (endP L i + 8) ++ o) ++ (flatB L).drop (endP L i + 8 + b.length)).length (((flatB L).take (endP L i + 8) ++ o) ++ (flatB L).drop (endP L i + 8 + b.length)) = (L.take i, endP L i, 27) := by
  subst ho
  have hp := parts_at L i b h
  have e1 : (flatB L).take (endP L i + 8) = flatB (L.take i) ++ (sizeB b.length ++ sumB b) := by
    rw [hp, ← List.append_assoc (sizeB b.length), ← List.append_assoc (flatB (L.take i))]
    exact take_app (by simp [sizeB_len, sumB_len, endP])
  have e2 : (flatB L).drop (endP L i + 8 + b.length) = flatB (L.drop (i + 1)) := by
    rw [hp, ← List.append_assoc (sumB b), ← List.append_assoc (sizeB b.length), ← List.append_assoc (flatB (L.take i))]
    exact drop_app (by simp [sizeB_len, sumB_len, endP]; omega)
  have e3 : (((flatB L).take (endP L i + 8) ++ turnTo n mask 32 b) ++ (flatB L).drop (endP L i + 8 + b.length)) = flatB (L.take i) ++ ((sizeB b.length ++ (sumB b ++ turnTo n mask 32 b)) ++ flatB (L.drop (i + 1))) := by
    rw [e1, e2]
    simp only [List.append_assoc]
  rw [e3]
  obtain ⟨hi, hb⟩ := List.getElem?_eq_some_iff.1 h
  exact frames_told L i _ _ hf (by omega) (spoilt_body b _ (hf b (List.mem_of_getElem? h)) n mask hne) (by simp [sizeB_len, sumB_len]; omega)
theorem told_sum (L : List (List B8)) (i : Nat) (b : List B8) (h : L[i]? = some b) (hf : ∀ b ∈ L, b.length ≤ 16777208) (n : Nat) (mask : BitVec 32) (o : List B8) (ho : o = turnTo n mask 32 (sumB b)) (hne : ¬ sumB b = o) :
    framesB (((flatB L).take (endP L i + 4) ++ o) ++ (flatB L).drop (endP L i + 4 + (sumB b).length)).length (((flatB L).take (endP L i + 4) ++ o) ++ (flatB L).drop (endP L i + 4 + (sumB b).length)) = (L.take i, endP L i, 27) := by
  subst ho
  have hp := parts_at L i b h
  have e1 : (flatB L).take (endP L i + 4) = flatB (L.take i) ++ sizeB b.length := by
    rw [hp, ← List.append_assoc (flatB (L.take i))]
    exact take_app (by simp [sizeB_len, endP])
  have e2 : (flatB L).drop (endP L i + 4 + (sumB b).length) = b ++ flatB (L.drop (i + 1)) := by
    rw [hp, ← List.append_assoc (sizeB b.length), ← List.append_assoc (flatB (L.take i))]
    exact drop_app (by simp [sizeB_len, sumB_len, endP])
  have e3 : (((flatB L).take (endP L i + 4) ++ turnTo n mask 32 (sumB b)) ++ (flatB L).drop (endP L i + 4 + (sumB b).length)) = flatB (L.take i) ++ ((sizeB b.length ++ (turnTo n mask 32 (sumB b) ++ b)) ++ flatB (L.drop (i + 1))) := by
    rw [e1, e2]
    simp only [List.append_assoc]
  rw [e3]
  obtain ⟨hi, hb⟩ := List.getElem?_eq_some_iff.1 h
  exact frames_told L i _ _ hf (by omega) (spoilt_sum b _ (hf b (List.mem_of_getElem? h)) n mask hne) (by simp [sizeB_len, turnTo_len, sumB_len]; omega)
theorem sum_there (L : List (List B8)) (i : Nat) (b : List B8) (h : L[i]? = some b) : ((flatB L).drop (endP L i + 4)).take 4 = sumB b := by
  rw [parts_at L i b h, ← List.append_assoc (flatB (L.take i)), drop_app (by simp [sizeB_len, endP])]
  exact take_app (sumB_len b)
end Go.Proofs.Ytfhoekcmkbeabaa
