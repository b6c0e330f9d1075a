
/-
  Plain laws on frames: frames cut off anywhere; a frame with a wrong sum.
-/
import Derived.Test.YtfhoekcmkbeabaaCwBodies
import Derived.Test.YtfhoekcmkbeabaaFgPlain
namespace Go.Proofs.Ytfhoekcmkbeabaa
open Go.RowKit
set_option linter.unusedVariables false
set_option linter.unusedSimpArgs false

/-- frames, one behind the other -/
def flatB : List (List B8) → List B8
  | [] => []
  | b :: l => frameB b ++ flatB l
theorem flatB_app (l m : List (List B8)) : flatB (l ++ m) = flatB l ++ flatB m := by
  induction l with
  | nil => rfl
  | cons b l ih => simp [flatB, ih]
theorem sizeB_len (n : Nat) : (sizeB n).length = 4 := by unfold sizeB; rw [beTo_len]
theorem frameB_len (b : List B8) : (frameB b).length = 8 + b.length := by
  unfold frameB
  simp [sizeB_len, beTo_len]
  omega
theorem sizeB_num (n : Nat) (h : n ≤ 16777208) : (numB (sizeB n)).toNat = n := by
  unfold sizeB
  rw [numB_beTo _ 4 (by omega) (by apply BitVec.eq_of_toNat_eq; rw [BitVec.toNat_ushiftRight, Nat.shiftRight_eq_div_pow, BitVec.toNat_ofNat]; simp; omega) 4 (by omega)]
  simp
  omega
/-- a frame, with some four bytes for its sum -/
def frameX (b : List B8) (s : List B8) : List B8 := sizeB b.length ++ s ++ b
theorem frameX_take (b s rest : List B8) (hs : s.length = 4) : (frameX b s ++ rest).take 4 = sizeB b.length ∧ ((frameX b s ++ rest).drop 4).take 4 = s ∧ ((frameX b s ++ rest).drop 8).take b.length = b := by
  have e : frameX b s ++ rest = sizeB b.length ++ (s ++ (b ++ rest)) := by unfold frameX; simp only [List.append_assoc]
  have h4 : (frameX b s ++ rest).drop 4 = s ++ (b ++ rest) := by rw [e]; exact drop_app (sizeB_len _)
  have h8 : (frameX b s ++ rest).drop 8 = b ++ rest := by
    rw [show (8 : Nat) = 4 + 4 from rfl, ← List.drop_drop, h4]; exact drop_app hs
  refine ⟨by rw [e]; exact take_app (sizeB_len _), by rw [h4]; exact take_app hs, by rw [h8]; exact take_app rfl⟩
theorem frameX_whole (b s rest : List B8) (hb : b.length ≤ 16777208) (hs : s.length = 4) :
    wholeN (frameX b s ++ rest) = b.length ∧ wholeS (frameX b s ++ rest) = (numB s).setWidth 32 ∧ wholeE (frameX b s ++ rest) = if crcB (sizeB b.length ++ b) = (numB s).setWidth 32 then 0 else 27 := by
  obtain ⟨h1, h2, h3⟩ := frameX_take b s rest hs
  have hN : wholeN (frameX b s ++ rest) = b.length := by
    unfold wholeN
    rw [h1, BitVec.toNat_setWidth, sizeB_num _ hb, Nat.mod_eq_of_lt (by omega)]
  have hS : wholeS (frameX b s ++ rest) = (numB s).setWidth 32 := by unfold wholeS; rw [h2]
  have hl : (frameX b s ++ rest).length = 8 + b.length + rest.length := by unfold frameX; simp [sizeB_len, hs]; omega
  refine ⟨hN, hS, ?_⟩
  unfold wholeE
  rw [hN, hS, h1, h3, if_neg (by omega), if_neg (by omega), if_neg (by omega)]
theorem frameB_X (b : List B8) : frameB b = frameX b (beTo ((crcB (sizeB b.length ++ b)).setWidth 64) 4 4) := rfl
theorem frame_whole (b rest : List B8) (hb : b.length ≤ 16777208) : wholeE (frameB b ++ rest) = 0 ∧ wholeO (frameB b ++ rest) = b := by
  obtain ⟨hN, hS, hE⟩ := frameX_whole b (beTo ((crcB (sizeB b.length ++ b)).setWidth 64) 4 4) rest hb (by rw [beTo_len])
  rw [numB_4, if_pos (by apply BitVec.eq_of_toNat_eq; rw [BitVec.toNat_setWidth, BitVec.toNat_setWidth]; have := (crcB (sizeB b.length ++ b)).isLt; omega)] at hE
  rw [← frameB_X] at hE hN
  refine ⟨hE, ?_⟩
  unfold wholeO
  rw [if_pos hE, hN]
  exact (frameX_take b _ rest (by rw [beTo_len])).2.2
/-- what is left of a frame that is cut off -/
theorem frame_short (b : List B8) (c : Nat) (hb : b.length ≤ 16777208) (h0 : 0 < c) (hc : c < 8 + b.length) : wholeE ((frameB b).take c) = 21 := by
  have hl : ((frameB b).take c).length = c := by rw [List.length_take, frameB_len]; omega
  unfold wholeE
  by_cases h8 : c < 8
  · rw [if_pos (by omega)]
  · have ht : ((frameB b).take c).take 4 = sizeB b.length := by
      rw [List.take_take, Nat.min_eq_left (by omega)]
      have := (frameX_take b (beTo ((crcB (sizeB b.length ++ b)).setWidth 64) 4 4) [] (by rw [beTo_len])).1
      rw [List.append_nil] at this
      exact this
    have hN : wholeN ((frameB b).take c) = b.length := by
      unfold wholeN
      rw [ht, BitVec.toNat_setWidth, sizeB_num _ hb, Nat.mod_eq_of_lt (by omega)]
    rw [if_neg (by omega), hN, if_neg (by omega), if_pos (by omega)]
/-- whole frames at the front -/
theorem frames_app : ∀ (l : List (List B8)) (f : Nat) (r : List B8), (∀ b ∈ l, b.length ≤ 16777208) →
    framesB (l.length + f) (flatB l ++ r) = (l ++ (framesB f r).1, (flatB l).length + (framesB f r).2.1, (framesB f r).2.2) := by
  intro l
  induction l with
  | nil => intro f r _; simp [flatB]
  | cons b l ih =>
    intro f r h
    obtain ⟨hE, hO⟩ := frame_whole b (flatB l ++ r) (h b (List.mem_cons_self ..))
    have hne : ¬ frameB b ++ (flatB l ++ r) = [] := fun e => by
      have := congrArg List.length e
      rw [List.length_append, frameB_len] at this
      simp at this
    rw [show (b :: l).length + f = (l.length + f) + 1 by simp; omega, show flatB (b :: l) ++ r = frameB b ++ (flatB l ++ r) by simp [flatB]]
    rw [framesB, if_neg hne, if_pos hE, hO]
    have hd : (frameB b ++ (flatB l ++ r)).drop (8 + b.length) = flatB l ++ r := drop_app (frameB_len b)
    rw [hd, ih f r (fun x hx => h x (List.mem_cons_of_mem _ hx))]
    simp [flatB, frameB_len]
    omega
theorem flat_take_len (l : List (List B8)) (k : Nat) : (flatB (l.take k)).length ≤ (flatB l).length := by
  conv => rhs; rw [← List.take_append_drop k l, flatB_app, List.length_append]
  omega
theorem flat_many (l : List (List B8)) : l.length ≤ (flatB l).length := by
  induction l with
  | nil => simp
  | cons b l ih => simp [flatB, frameB_len]; omega
/-- frames that are cut off -/
theorem torn (l : List (List B8)) (cut k : Nat) (h : ∀ b ∈ l, b.length ≤ 16777208) (hc : cut ≤ (flatB l).length) (hk : k ≤ l.length) (h1 : (flatB (l.take k)).length ≤ cut) (h2 : k = l.length ∨ cut < (flatB (l.take (k + 1))).length) :
    framesB ((flatB l).take cut).length ((flatB l).take cut) = (l.take k, (flatB (l.take k)).length, if (flatB (l.take k)).length = cut then 0 else 21) := by
  have e : flatB l = flatB (l.take k) ++ flatB (l.drop k) := by rw [← flatB_app, List.take_append_drop]
  have ht : (flatB l).take cut = flatB (l.take k) ++ (flatB (l.drop k)).take (cut - (flatB (l.take k)).length) := by
    rw [e, List.take_append, List.take_of_length_le h1]
  have hm := flat_many (l.take k)
  have hlt : (l.take k).length = k := by rw [List.length_take]; omega
  have hcl : ((flatB l).take cut).length = cut := by rw [List.length_take]; omega
  obtain ⟨f, hf⟩ : ∃ f, cut = (l.take k).length + f := ⟨cut - (l.take k).length, by omega⟩
  rw [hcl, ht]
  conv => lhs; arg 1; rw [hf]
  rw [frames_app _ _ _ (fun b hb => h b (List.mem_of_mem_take hb))]
  by_cases he : (flatB (l.take k)).length = cut
  · have hz : cut - (flatB (l.take k)).length = 0 := by omega
    rw [hz, List.take_zero, if_pos he]
    have : framesB f [] = ([], 0, 0) := by cases f <;> simp [framesB]
    rw [this]
    simp
  · rcases h2 with h2 | h2
    · subst h2
      rw [List.take_length] at h1 he
      omega
    · have hkl : k < l.length := by
        apply Decidable.byContradiction
        intro hn
        rw [List.take_of_length_le (by omega)] at h2
        rw [List.take_of_length_le (by omega)] at h1
        omega
      have hd : l.drop k = l[k] :: l.drop (k + 1) := List.drop_eq_getElem_cons hkl
      have hs : flatB (l.take (k + 1)) = flatB (l.take k) ++ frameB l[k] := by
        rw [List.take_succ_eq_append_getElem hkl, flatB_app]
        simp [flatB]
      rw [hs, List.length_append, frameB_len] at h2
      have hr : (flatB (l.drop k)).take (cut - (flatB (l.take k)).length) = (frameB l[k]).take (cut - (flatB (l.take k)).length) := by
        rw [hd]
        simp only [flatB]
        rw [List.take_append_of_le_length (by rw [frameB_len]; omega)]
      have hw := frame_short l[k] (cut - (flatB (l.take k)).length) (h _ (List.getElem_mem hkl)) (by omega) (by omega)
      have hne : ¬ (frameB l[k]).take (cut - (flatB (l.take k)).length) = [] := fun e => by
        have := congrArg List.length e
        rw [List.length_take, frameB_len] at this
        simp at this
        omega
      rw [hr, if_neg he]
      obtain ⟨f', rfl⟩ : ∃ f', f = f' + 1 := ⟨f - 1, by omega⟩
      rw [framesB, if_neg hne, if_neg (by rw [hw]; decide), hw]
      simp
end Go.Proofs.Ytfhoekcmkbeabaa
