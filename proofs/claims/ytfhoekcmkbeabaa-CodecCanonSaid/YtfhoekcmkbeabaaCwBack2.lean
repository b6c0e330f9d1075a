
/-
  Plain laws: a thing laid down is read back; a thing read is what would be laid down.
-/
import Derived.Test.YtfhoekcmkbeabaaCwBack
import Derived.Test.YtfhoekcmkbeabaaCwLay
import Derived.Test.YtfhoekcmkbeabaaCwRTake
namespace Go.Proofs.Ytfhoekcmkbeabaa
open Go.RowKit
set_option linter.unusedVariables false
set_option linter.unusedSimpArgs false

theorem took_app (xs rest : List B8) (n : Nat) (h : xs.length = n) : RS.took ⟨xs ++ rest, 0⟩ n = ⟨rest, 0⟩ := by
  unfold RS.took
  rw [if_pos rfl, if_pos (by show n ≤ (xs ++ rest).length; rw [List.length_append]; omega)]
  show RS.mk ((xs ++ rest).drop n) 0 = _
  rw [← h, List.drop_left]
theorem numT_app (xs rest : List B8) (n : Nat) (h : xs.length = n) : numT true ⟨xs ++ rest, 0⟩ n = numB xs := by
  unfold numT takes opens
  have e : (xs ++ rest).take n = xs := by rw [← h, List.take_left]
  simp only [List.length_append, e]
  rw [if_pos (by simp; omega)]
theorem read_back (t : Th) (h1 : 1 ≤ t.kind) (h9 : t.kind ≤ 9) (hlo : -9223372036854775808 ≤ t.i) (hhi : t.i ≤ 9223372036854775807) (hl : t.bs.length ≤ 140737488351232) (rest : List B8) :
    tkT true ⟨t.norm.bytes ++ rest, 0⟩ t.kind (t.norm.bs.length : Int) = ⟨t.norm.n, t.norm.i, t.norm.f, t.norm.bs⟩ ∧ RS.tk ⟨t.norm.bytes ++ rest, 0⟩ t.kind (t.norm.bs.length : Int) = ⟨rest, 0⟩ := by
  obtain ⟨k, n, i, f, a, c, bs⟩ := t
  simp only at h1 h9 hlo hhi hl
  rcases (by omega : k = 1 ∨ k = 2 ∨ k = 3 ∨ k = 4 ∨ k = 5 ∨ k = 6 ∨ k = 7 ∨ k = 8 ∨ k = 9) with rfl | rfl | rfl | rfl | rfl | rfl | rfl | rfl | rfl
  · show Tk.mk (((numT true ⟨beTo ((n.setWidth 8).setWidth 64) 1 1 ++ rest, 0⟩ 1).setWidth 8).setWidth 64) 0 false [] = ⟨(n.setWidth 8).setWidth 64, 0, false, []⟩ ∧ RS.took ⟨beTo ((n.setWidth 8).setWidth 64) 1 1 ++ rest, 0⟩ 1 = _
    have hx : ((n.setWidth 8).setWidth 64).toNat < 2 ^ 8 := by have := (n.setWidth 8).isLt; rw [BitVec.toNat_setWidth 64, Nat.mod_eq_of_lt (by omega)]; exact this
    rw [numT_app _ _ _ (beTo_len _ _ _), numB_beTo _ 1 (by omega) hx, cutId _ 8 (by omega) hx]
    exact ⟨rfl, took_app _ _ _ (beTo_len _ _ _)⟩
  · show Tk.mk (((numT true ⟨beTo ((n.setWidth 16).setWidth 64) 2 2 ++ rest, 0⟩ 2).setWidth 16).setWidth 64) 0 false [] = ⟨(n.setWidth 16).setWidth 64, 0, false, []⟩ ∧ RS.took ⟨beTo ((n.setWidth 16).setWidth 64) 2 2 ++ rest, 0⟩ 2 = _
    have hx : ((n.setWidth 16).setWidth 64).toNat < 2 ^ 16 := by have := (n.setWidth 16).isLt; rw [BitVec.toNat_setWidth 64, Nat.mod_eq_of_lt (by omega)]; exact this
    rw [numT_app _ _ _ (beTo_len _ _ _), numB_beTo _ 2 (by omega) hx, cutId _ 16 (by omega) hx]
    exact ⟨rfl, took_app _ _ _ (beTo_len _ _ _)⟩
  · show Tk.mk (((numT true ⟨beTo ((n.setWidth 32).setWidth 64) 4 4 ++ rest, 0⟩ 4).setWidth 32).setWidth 64) 0 false [] = ⟨(n.setWidth 32).setWidth 64, 0, false, []⟩ ∧ RS.took ⟨beTo ((n.setWidth 32).setWidth 64) 4 4 ++ rest, 0⟩ 4 = _
    have hx : ((n.setWidth 32).setWidth 64).toNat < 2 ^ 32 := by have := (n.setWidth 32).isLt; rw [BitVec.toNat_setWidth 64, Nat.mod_eq_of_lt (by omega)]; exact this
    rw [numT_app _ _ _ (beTo_len _ _ _), numB_beTo _ 4 (by omega) hx, cutId _ 32 (by omega) hx]
    exact ⟨rfl, took_app _ _ _ (beTo_len _ _ _)⟩
  · show Tk.mk (numT true ⟨beTo n 8 8 ++ rest, 0⟩ 8) 0 false [] = ⟨n, 0, false, []⟩ ∧ RS.took ⟨beTo n 8 8 ++ rest, 0⟩ 8 = _
    rw [numT_app _ _ _ (beTo_len _ _ _), numB_beTo _ 8 (by omega) n.isLt]
    exact ⟨rfl, took_app _ _ _ (beTo_len _ _ _)⟩
  · show Tk.mk (varT true ⟨groupsB n.toNat ++ rest, 0⟩) 0 false [] = ⟨n, 0, false, []⟩ ∧ RS.var ⟨groupsB n.toNat ++ rest, 0⟩ = _
    have h := head_back n rest
    have e1 : varT true ⟨groupsB n.toNat ++ rest, 0⟩ = n := by unfold varT opens; simp only [h]; simp
    have e2 : RS.var ⟨groupsB n.toNat ++ rest, 0⟩ = ⟨rest, 0⟩ := by unfold RS.var; simp only [h]; simp
    rw [e1, e2]
    exact ⟨rfl, rfl⟩
  · show Tk.mk 0 (unzig (varT true ⟨groupsB (zig i) ++ rest, 0⟩)) false [] = ⟨0, i, false, []⟩ ∧ RS.var ⟨groupsB (zig i) ++ rest, 0⟩ = _
    have hz := zig_lt i hlo hhi
    have e : (BitVec.ofNat 64 (zig i)).toNat = zig i := by rw [BitVec.toNat_ofNat, Nat.mod_eq_of_lt (by omega)]
    have h := head_back (BitVec.ofNat 64 (zig i)) rest
    rw [e] at h
    have e1 : varT true ⟨groupsB (zig i) ++ rest, 0⟩ = BitVec.ofNat 64 (zig i) := by unfold varT opens; simp only [h]; simp
    have e2 : RS.var ⟨groupsB (zig i) ++ rest, 0⟩ = ⟨rest, 0⟩ := by unfold RS.var; simp only [h]; simp
    rw [e1, e2, unzig_zig i hlo hhi]
    exact ⟨rfl, rfl⟩
  · show Tk.mk 0 0 (flagT true ⟨flagB f :: rest, 0⟩) [] = ⟨0, 0, f, []⟩ ∧ RS.flag ⟨flagB f :: rest, 0⟩ = _
    have h := took_app [flagB f] rest 1 rfl
    cases f
    · exact ⟨rfl, h⟩
    · exact ⟨rfl, h⟩
  · show Tk.mk 0 0 false (rawB true ⟨bs ++ rest, 0⟩ (bs.length : Int)) = ⟨0, 0, false, bs⟩ ∧ RS.raw ⟨bs ++ rest, 0⟩ (bs.length : Int) = _
    have e1 : rawB true ⟨bs ++ rest, 0⟩ (bs.length : Int) = bs := by
      unfold rawB takes opens
      rw [if_neg (by omega), Int.toNat_natCast, if_pos (by simp)]
      exact List.take_left
    have e2 : RS.raw ⟨bs ++ rest, 0⟩ (bs.length : Int) = ⟨rest, 0⟩ := by
      unfold RS.raw
      rw [if_neg (by omega), Int.toNat_natCast]
      exact took_app _ _ _ rfl
    rw [e1, e2]
    exact ⟨rfl, rfl⟩
  · show Tk.mk 0 0 false (blockB true ⟨(groupsB bs.length ++ bs) ++ rest, 0⟩ (bs.length : Int)) = ⟨0, 0, false, bs⟩ ∧ RS.block ⟨(groupsB bs.length ++ bs) ++ rest, 0⟩ (bs.length : Int) = _
    have e : (BitVec.ofNat 64 bs.length).toNat = bs.length := by rw [BitVec.toNat_ofNat, Nat.mod_eq_of_lt (by omega)]
    have h := head_back (BitVec.ofNat 64 bs.length) (bs ++ rest)
    rw [e] at h
    rw [List.append_assoc]
    have hE : blockE (groupsB bs.length ++ (bs ++ rest)) (bs.length : Int) = 0 := by
      unfold blockE
      simp only [h, e]
      rw [if_neg (by omega), if_neg (by simp), if_neg (by omega), if_neg (by simp; omega)]
    have e1 : blockB true ⟨groupsB bs.length ++ (bs ++ rest), 0⟩ (bs.length : Int) = bs := by
      unfold blockB opens
      rw [if_pos ⟨rfl, hE⟩]
      simp only [h, e, List.drop_left, List.take_left]
    have e2 : RS.block ⟨groupsB bs.length ++ (bs ++ rest), 0⟩ (bs.length : Int) = ⟨rest, 0⟩ := by
      unfold RS.block
      rw [if_pos rfl, if_pos hE]
      simp only [h, e, List.drop_left]
    rw [e1, e2]
    exact ⟨rfl, rfl⟩
/-- a thing of a fixed size, of which so many bytes are left -/
def mustB (k m left : Int) : Bool := if k = 1 then decide (1 ≤ left) else if k = 2 then decide (2 ≤ left) else if k = 3 then decide (4 ≤ left) else if k = 4 then decide (8 ≤ left) else if k = 8 then decide (0 ≤ m) && decide (m ≤ left) else false
theorem took_canon (rest : List B8) (n : Nat) (h : (RS.took ⟨rest, 0⟩ n).err = 0) : n ≤ rest.length ∧ RS.took ⟨rest, 0⟩ n = ⟨rest.drop n, 0⟩ := by
  unfold RS.took at h ⊢
  rw [if_pos rfl] at h ⊢
  by_cases hn : n ≤ rest.length
  · rw [if_pos hn]; exact ⟨hn, rfl⟩
  · rw [if_neg hn] at h; simp at h
theorem num_canon (rest : List B8) (n : Nat) (h : (RS.took ⟨rest, 0⟩ n).err = 0) : numT true ⟨rest, 0⟩ n = numB (rest.take n) ∧ (rest.take n).length = n := by
  have := (took_canon rest n h).1
  unfold numT takes opens
  rw [if_pos (by simp; omega)]
  exact ⟨rfl, by simp; omega⟩
theorem took_stop (rest : List B8) (n : Nat) (h : ¬ (RS.took ⟨rest, 0⟩ n).err = 0) : ¬ n ≤ rest.length ∧ (RS.took ⟨rest, 0⟩ n).rest = rest := by
  unfold RS.took at h ⊢
  rw [if_pos rfl] at h ⊢
  by_cases hn : n ≤ rest.length
  · rw [if_pos hn] at h; simp at h
  · rw [if_neg hn]; exact ⟨hn, rfl⟩
theorem one_cut (n : BitVec 64) (b j : Nat) (hj : 8 * j = b) (hb : b ≤ 64) (xs : List B8) (hx : xs.length = j) (h7 : j ≤ 7) (h : n = numB xs) : beTo ((n.setWidth b).setWidth 64) j j = xs := by
  have := numB_lt xs j (by omega) h7
  rw [cutId n b hb (by rw [h, ← hj, Nat.pow_mul]; exact this), h, beTo_numB xs j (by omega) hx]
theorem read_canon (rest : List B8) (k m : Int) (h1 : 1 ≤ k) (h9 : k ≤ 9) (h : (RS.tk ⟨rest, 0⟩ k m).err = 0) (a : Option Addr) (c : Nat) :
    Th.bytes ⟨k, (tkT true ⟨rest, 0⟩ k m).n, (tkT true ⟨rest, 0⟩ k m).i, (tkT true ⟨rest, 0⟩ k m).f, a, c, (tkT true ⟨rest, 0⟩ k m).bs⟩ ++ (RS.tk ⟨rest, 0⟩ k m).rest = rest := by
  rcases (by omega : k = 1 ∨ k = 2 ∨ k = 3 ∨ k = 4 ∨ k = 5 ∨ k = 6 ∨ k = 7 ∨ k = 8 ∨ k = 9) with rfl | rfl | rfl | rfl | rfl | rfl | rfl | rfl | rfl
  · replace h : (RS.took ⟨rest, 0⟩ 1).err = 0 := h
    show beTo (((numT true ⟨rest, 0⟩ 1).setWidth 8).setWidth 64) 1 1 ++ (RS.took ⟨rest, 0⟩ 1).rest = rest
    obtain ⟨e1, e2⟩ := num_canon rest 1 h
    rw [one_cut _ 8 1 (by omega) (by omega) _ e2 (by omega) e1, (took_canon rest 1 h).2]
    exact List.take_append_drop _ _
  · replace h : (RS.took ⟨rest, 0⟩ 2).err = 0 := h
    show beTo (((numT true ⟨rest, 0⟩ 2).setWidth 16).setWidth 64) 2 2 ++ (RS.took ⟨rest, 0⟩ 2).rest = rest
    obtain ⟨e1, e2⟩ := num_canon rest 2 h
    rw [one_cut _ 16 2 (by omega) (by omega) _ e2 (by omega) e1, (took_canon rest 2 h).2]
    exact List.take_append_drop _ _
  · replace h : (RS.took ⟨rest, 0⟩ 4).err = 0 := h
    show beTo (((numT true ⟨rest, 0⟩ 4).setWidth 32).setWidth 64) 4 4 ++ (RS.took ⟨rest, 0⟩ 4).rest = rest
    obtain ⟨e1, e2⟩ := num_canon rest 4 h
    rw [one_cut _ 32 4 (by omega) (by omega) _ e2 (by omega) e1, (took_canon rest 4 h).2]
    exact List.take_append_drop _ _
  · replace h : (RS.took ⟨rest, 0⟩ 8).err = 0 := h
    show beTo (numT true ⟨rest, 0⟩ 8) 8 8 ++ (RS.took ⟨rest, 0⟩ 8).rest = rest
    obtain ⟨e1, e2⟩ := num_canon rest 8 h
    rw [e1, beTo_numB _ 8 (by omega) e2, (took_canon rest 8 h).2]
    exact List.take_append_drop _ _
  · replace h : (RS.var ⟨rest, 0⟩).err = 0 := h
    show groupsB (varT true ⟨rest, 0⟩).toNat ++ (RS.var ⟨rest, 0⟩).rest = rest
    unfold RS.var at h ⊢
    rw [if_pos rfl] at h ⊢
    by_cases hz : (headB 0 0 rest).2.2 = 0
    · rw [if_pos hz]
      have e : varT true ⟨rest, 0⟩ = (headB 0 0 rest).1 := by unfold varT opens; simp only [hz]; simp
      rw [e, head_canon rest hz]
      exact List.take_append_drop _ _
    · rw [if_neg hz] at h; exact absurd h hz
  · replace h : (RS.var ⟨rest, 0⟩).err = 0 := h
    show groupsB (zig (unzig (varT true ⟨rest, 0⟩))) ++ (RS.var ⟨rest, 0⟩).rest = rest
    rw [zig_unzig]
    unfold RS.var at h ⊢
    rw [if_pos rfl] at h ⊢
    by_cases hz : (headB 0 0 rest).2.2 = 0
    · rw [if_pos hz]
      have e : varT true ⟨rest, 0⟩ = (headB 0 0 rest).1 := by unfold varT opens; simp only [hz]; simp
      rw [e, head_canon rest hz]
      exact List.take_append_drop _ _
    · rw [if_neg hz] at h; exact absurd h hz
  · replace h : (RS.flag ⟨rest, 0⟩).err = 0 := h
    show [flagB (flagT true ⟨rest, 0⟩)] ++ (RS.flag ⟨rest, 0⟩).rest = rest
    unfold RS.flag at h ⊢
    rw [if_pos rfl] at h ⊢
    by_cases hg : 1 < (rest.headD 0#8).toNat
    · rw [if_pos hg] at h; simp at h
    · rw [if_neg hg] at h ⊢
      have ht := took_canon rest 1 h
      cases rest with
      | nil => simp at ht
      | cons b r =>
        rw [ht.2]
        have hb : b.toNat ≤ 1 := by simpa using hg
        have : flagB (flagT true ⟨b :: r, 0⟩) = b := by
          unfold flagT opens flagB
          by_cases e : b = 1#8
          · subst e; rfl
          · have e0 : b = 0#8 := by
              apply BitVec.eq_of_toNat_eq
              have : b.toNat ≠ 1 := fun h => e (BitVec.eq_of_toNat_eq h)
              simp
              omega
            subst e0
            rfl
        rw [this]
        rfl
  · replace h : (RS.raw ⟨rest, 0⟩ m).err = 0 := h
    show rawB true ⟨rest, 0⟩ m ++ (RS.raw ⟨rest, 0⟩ m).rest = rest
    unfold RS.raw at h ⊢
    unfold rawB takes opens
    by_cases hm : m < 0
    · rw [if_pos hm] at h
      unfold RS.fail at h
      rw [if_pos rfl] at h
      simp at h
    · rw [if_neg hm] at h ⊢
      have ht := took_canon rest _ h
      rw [ht.2, if_neg hm, if_pos (by simp; omega)]
      exact List.take_append_drop _ _
  · replace h : (RS.block ⟨rest, 0⟩ m).err = 0 := h
    show (groupsB (blockB true ⟨rest, 0⟩ m).length ++ blockB true ⟨rest, 0⟩ m) ++ (RS.block ⟨rest, 0⟩ m).rest = rest
    unfold RS.block at h ⊢
    unfold blockB opens
    rw [if_pos rfl] at h ⊢
    by_cases hE : blockE rest m = 0
    · rw [if_pos hE, if_pos ⟨rfl, hE⟩]
      have hcan := head_canon rest
      unfold blockE at hE
      generalize headB 0 0 rest = H at *
      obtain ⟨x, n, er⟩ := H
      simp only at hE hcan ⊢
      by_cases c1 : m < 0
      · rw [if_pos c1] at hE; simp at hE
      · rw [if_neg c1] at hE
        by_cases c2 : er = 0
        · rw [if_neg (fun h => h c2)] at hE
          by_cases c3 : m < (x.toNat : Int)
          · rw [if_pos c3] at hE; simp at hE
          · rw [if_neg c3] at hE
            by_cases c4 : (rest.length : Int) - (n : Int) < (x.toNat : Int)
            · rw [if_pos c4] at hE; simp at hE
            · have hl : ((rest.drop n).take x.toNat).length = x.toNat := by simp; omega
              rw [hl, hcan c2, List.append_assoc, List.take_append_drop, List.take_append_drop]
        · rw [if_pos c2] at hE; exact absurd hE c2
    · rw [if_neg hE] at h; exact absurd h hE
theorem read_stop (rest : List B8) (k m : Int) (h1 : 1 ≤ k) (h9 : k ≤ 9) (h : ¬ (RS.tk ⟨rest, 0⟩ k m).err = 0) : mustB k m (rest.length : Int) = false ∧ (RS.tk ⟨rest, 0⟩ k m).rest = rest := by
  rcases (by omega : k = 1 ∨ k = 2 ∨ k = 3 ∨ k = 4 ∨ k = 5 ∨ k = 6 ∨ k = 7 ∨ k = 8 ∨ k = 9) with rfl | rfl | rfl | rfl | rfl | rfl | rfl | rfl | rfl
  · have := took_stop rest 1 h
    exact ⟨decide_eq_false (by omega), this.2⟩
  · have := took_stop rest 2 h
    exact ⟨decide_eq_false (by omega), this.2⟩
  · have := took_stop rest 4 h
    exact ⟨decide_eq_false (by omega), this.2⟩
  · have := took_stop rest 8 h
    exact ⟨decide_eq_false (by omega), this.2⟩
  · refine ⟨rfl, ?_⟩
    replace h : ¬ (RS.var ⟨rest, 0⟩).err = 0 := h
    show (RS.var ⟨rest, 0⟩).rest = rest
    unfold RS.var at h ⊢
    rw [if_pos rfl] at h ⊢
    by_cases hz : (headB 0 0 rest).2.2 = 0
    · rw [if_pos hz] at h; simp at h
    · rw [if_neg hz]
  · refine ⟨rfl, ?_⟩
    replace h : ¬ (RS.var ⟨rest, 0⟩).err = 0 := h
    show (RS.var ⟨rest, 0⟩).rest = rest
    unfold RS.var at h ⊢
    rw [if_pos rfl] at h ⊢
    by_cases hz : (headB 0 0 rest).2.2 = 0
    · rw [if_pos hz] at h; simp at h
    · rw [if_neg hz]
  · refine ⟨rfl, ?_⟩
    replace h : ¬ (RS.flag ⟨rest, 0⟩).err = 0 := h
    show (RS.flag ⟨rest, 0⟩).rest = rest
    unfold RS.flag at h ⊢
    rw [if_pos rfl] at h ⊢
    by_cases hg : 1 < (rest.headD 0#8).toNat
    · rw [if_pos hg]
    · rw [if_neg hg] at h ⊢
      exact (took_stop rest 1 h).2
  · replace h : ¬ (RS.raw ⟨rest, 0⟩ m).err = 0 := h
    show (decide (0 ≤ m) && decide (m ≤ (rest.length : Int))) = false ∧ (RS.raw ⟨rest, 0⟩ m).rest = rest
    unfold RS.raw at h ⊢
    by_cases hm : m < 0
    · rw [if_pos hm]
      exact ⟨by rw [decide_eq_false (by omega)]; rfl, by unfold RS.fail; rw [if_pos rfl]⟩
    · rw [if_neg hm] at h ⊢
      have := took_stop rest _ h
      exact ⟨by rw [decide_eq_false (p := m ≤ (rest.length : Int)) (by omega)]; simp, this.2⟩
  · refine ⟨rfl, ?_⟩
    replace h : ¬ (RS.block ⟨rest, 0⟩ m).err = 0 := h
    show (RS.block ⟨rest, 0⟩ m).rest = rest
    unfold RS.block at h ⊢
    rw [if_pos rfl] at h ⊢
    by_cases hE : blockE rest m = 0
    · rw [if_pos hE] at h; simp at h
    · rw [if_neg hE]
end Go.Proofs.Ytfhoekcmkbeabaa
