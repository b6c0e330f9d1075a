
/-
  Plain laws on frames: one frame whose body or whose sum was turned within 32 bits.
-/
import Derived.Test.YtfhoekcmkbeabaaCwTorn
namespace Go.Proofs.Ytfhoekcmkbeabaa
open Go.RowKit
set_option linter.unusedVariables false
set_option linter.unusedSimpArgs false

/-- the sum that stands in a frame -/
def sumB (b : List B8) : List B8 := beTo ((crcB (sizeB b.length ++ b)).setWidth 64) 4 4
theorem sumB_len (b : List B8) : (sumB b).length = 4 := by unfold sumB; rw [beTo_len]
theorem sumB_num (b : List B8) : (numB (sumB b)).setWidth 32 = crcB (sizeB b.length ++ b) := by
  unfold sumB
  rw [numB_4]
  apply BitVec.eq_of_toNat_eq
  rw [BitVec.toNat_setWidth, BitVec.toNat_setWidth]
  have := (crcB (sizeB b.length ++ b)).isLt
  omega
theorem all_parts (l : List (List B8)) (i : Nat) (hi : i < l.length) : flatB l = flatB (l.take i) ++ (sizeB l[i].length ++ (sumB l[i] ++ (l[i] ++ flatB (l.drop (i + 1))))) := by
  have h1 : l.drop i = l[i] :: l.drop (i + 1) := List.drop_eq_getElem_cons hi
  conv => lhs; rw [← List.take_append_drop i l, flatB_app, h1]
  simp only [flatB, frameB, sumB, List.append_assoc]
/-- a frame behind whole ones that is told -/
theorem frames_told (l : List (List B8)) (i : Nat) (X rest : List B8) (h : ∀ b ∈ l, b.length ≤ 16777208) (hi : i ≤ l.length) (hE : wholeE (X ++ rest) = 27) (hX : 8 ≤ X.length) :
    framesB (flatB (l.take i) ++ (X ++ rest)).length (flatB (l.take i) ++ (X ++ rest)) = (l.take i, (flatB (l.take i)).length, 27) := by
  have hm := flat_many (l.take i)
  have hlt : (l.take i).length = i := by rw [List.length_take]; omega
  have hl : (flatB (l.take i) ++ (X ++ rest)).length = (flatB (l.take i)).length + (X.length + rest.length) := by simp
  obtain ⟨f, hf⟩ : ∃ f, (flatB (l.take i) ++ (X ++ rest)).length = (l.take i).length + (f + 1) := ⟨(flatB (l.take i) ++ (X ++ rest)).length - (l.take i).length - 1, by omega⟩
  rw [hf, frames_app _ _ _ (fun b hb => h b (List.mem_of_mem_take hb))]
  have hne : ¬ X ++ rest = [] := fun e => by
    have := congrArg List.length e
    rw [List.length_append, List.length_nil] at this
    omega
  rw [framesB, if_neg hne, if_neg (by rw [hE]; decide), hE]
  simp
theorem turned_ne (r : List B8) (at_ : Nat) (mask : BitVec 32) (b : List B8) (hne : ¬ b = turnTo at_ mask 32 b) : ¬ crcB (r ++ turnTo at_ mask 32 b) = crcB (r ++ b) := by
  intro e
  unfold crcB crcMoreB at e
  have e2 := BitVec.not_inj.1 e
  rw [List.foldl_append, List.foldl_append] at e2
  exact hne (burst _ (turnTo_len at_ mask 32 b).symm at_ (fun p _ hp => Classical.not_not.1 (fun hn => hp (turnTo_bit at_ mask 32 b p hn).symm)) e2.symm)
theorem spoilt_body (b rest : List B8) (hb : b.length ≤ 16777208) (at_ : Nat) (mask : BitVec 32) (hne : ¬ b = turnTo at_ mask 32 b) : wholeE ((sizeB b.length ++ (sumB b ++ turnTo at_ mask 32 b)) ++ rest) = 27 := by
  have hl := turnTo_len at_ mask 32 b
  have e : sizeB b.length ++ (sumB b ++ turnTo at_ mask 32 b) = frameX (turnTo at_ mask 32 b) (sumB b) := by unfold frameX; rw [hl, List.append_assoc]
  rw [e, (frameX_whole _ _ rest (by rw [hl]; exact hb) (sumB_len b)).2.2, hl, sumB_num, if_neg (turned_ne _ _ _ _ hne)]
theorem numB_inj4 {xs ys : List B8} (hx : xs.length = 4) (hy : ys.length = 4) (h : (numB xs).setWidth 32 = (numB ys).setWidth 32) : xs = ys := by
  have key : ∀ a b c d : B8, ((numB [a, b, c, d]).setWidth 32).toNat = ((a.toNat * 256 + b.toNat) * 256 + c.toNat) * 256 + d.toNat := by
    intro a b c d
    have ha := a.isLt
    have hb := b.isLt
    have hc := c.isLt
    have hd := d.isLt
    rw [BitVec.toNat_setWidth, show numB [a, b, c, d] = numStep (numStep (numB [a, b]) c) d from rfl, numStep_nat, numStep_nat, numB_two]
    omega
  match xs, hx, ys, hy with
  | [a, b, c, d], _, [a', b', c', d'], _ =>
    have e := congrArg BitVec.toNat h
    rw [key, key] at e
    have := a.isLt
    have := b.isLt
    have := c.isLt
    have := d.isLt
    have := a'.isLt
    have := b'.isLt
    have := c'.isLt
    have := d'.isLt
    have e1 : a = a' := BitVec.eq_of_toNat_eq (by omega)
    have e2 : b = b' := BitVec.eq_of_toNat_eq (by omega)
    have e3 : c = c' := BitVec.eq_of_toNat_eq (by omega)
    have e4 : d = d' := BitVec.eq_of_toNat_eq (by omega)
    rw [e1, e2, e3, e4]
theorem spoilt_sum (b rest : List B8) (hb : b.length ≤ 16777208) (at_ : Nat) (mask : BitVec 32) (hne : ¬ sumB b = turnTo at_ mask 32 (sumB b)) : wholeE ((sizeB b.length ++ (turnTo at_ mask 32 (sumB b) ++ b)) ++ rest) = 27 := by
  have hl := turnTo_len at_ mask 32 (sumB b)
  rw [sumB_len] at hl
  have e : sizeB b.length ++ (turnTo at_ mask 32 (sumB b) ++ b) = frameX b (turnTo at_ mask 32 (sumB b)) := by unfold frameX; rw [List.append_assoc]
  rw [e, (frameX_whole _ _ rest hb hl).2.2, if_neg]
  intro h
  rw [← sumB_num] at h
  exact hne (numB_inj4 (sumB_len b) hl h)
end Go.Proofs.Ytfhoekcmkbeabaa
