
/-
  slices.Insert of one frame.
-/
import Derived.Test.YtjepmckofocdnaaXoDelete
namespace Go.Proofs.Ytjepmckofocdnaa
open Go.RowKit
set_option linter.unusedVariables false
set_option linter.unusedSimpArgs false

theorem flat_td (es : List FB) (i : Nat) : (es.flatMap FB.cells).take (i * 2) = (es.take i).flatMap FB.cells ∧ (es.flatMap FB.cells).drop (i * 2) = (es.drop i).flatMap FB.cells := by
  induction es generalizing i with
  | nil => simp
  | cons f es ih =>
    cases i with
    | zero => simp
    | succ i =>
      have e : (i + 1) * 2 = i * 2 + 1 + 1 := by omega
      have h := ih i
      rw [List.flatMap_cons, List.take_succ_cons, List.drop_succ_cons, List.flatMap_cons, e]
      simp only [FB.cells, List.cons_append, List.nil_append, List.take_succ_cons, List.drop_succ_cons]
      exact ⟨by rw [h.1], h.2⟩
def InsJ (w : World) (V : Value) (es : List FB) (x : FB) (i : Nat) (e : Ending) (w' : World) : Prop :=
  ∃ V', e = .returned V' ∧ LsF w' V' (es.take i ++ x :: es.drop i) ∧ St (fpV V) w (fpV V') w'
theorem ins_shift {w : World} {g c n i : Nat} {xs vs : List Value} (h : Own w 133 2 (.slice (some ⟨g, 0, none⟩) n c) n xs) (hi : i < n) (hc : n + 1 ≤ c) (hv : vs.length = 2) :
    ∃ ys, ys.length = 2 ∧ Own w 133 2 (.slice (some ⟨g, 0, none⟩) (n + 1) c) (n + 1) (xs ++ ys) ∧
      Own (w.setCells g ((i + 1) * 2) (xs.drop (i * 2))) 133 2 (.slice (some ⟨g, 0, none⟩) (n + 1) c) (n + 1) ((xs ++ ys).take ((i + 1) * 2) ++ xs.drop (i * 2)) ∧
      Own ((w.setCells g ((i + 1) * 2) (xs.drop (i * 2))).setCells g (i * 2) vs) 133 2 (.slice (some ⟨g, 0, none⟩) (n + 1) c) (n + 1) (xs.take (i * 2) ++ vs ++ xs.drop (i * 2)) := by
  have hxl := h.1
  obtain ⟨ys, hyl, hL⟩ := h.longer (m := n + 1) (by omega) hc
  have hyl2 : ys.length = 2 := by rw [hyl]; omega
  have hdl : (xs.drop (i * 2)).length = n * 2 - i * 2 := by rw [List.length_drop, hxl]
  have h1 := hL.cells (xs.drop (i * 2)) ((i + 1) * 2) _ _ (by rw [List.length_append, hdl]; omega)
  have hl : (xs ++ ys).length ≤ (i + 1) * 2 + (xs.drop (i * 2)).length := by rw [List.length_append, hdl]; omega
  rw [List.drop_of_length_le hl, List.append_nil] at h1
  have htl : ((xs ++ ys).take ((i + 1) * 2)).length = (i + 1) * 2 := by rw [List.length_take, List.length_append]; omega
  have h2 := h1.cells vs (i * 2) _ _ (by rw [List.length_append, htl]; omega)
  have e1 : ((xs ++ ys).take ((i + 1) * 2) ++ xs.drop (i * 2)).take (i * 2) = xs.take (i * 2) := by
    rw [List.take_append_of_le_length (by rw [htl]; omega), List.take_take, Nat.min_eq_left (by omega), List.take_append_of_le_length (by omega)]
  have e2 : ((xs ++ ys).take ((i + 1) * 2) ++ xs.drop (i * 2)).drop (i * 2 + vs.length) = xs.drop (i * 2) := by
    rw [hv, show i * 2 + 2 = (i + 1) * 2 by omega]
    exact List.drop_left' htl
  rw [e1, e2] at h2
  exact ⟨ys, hyl2, hL, h1, h2⟩
theorem infF2 : ∃ i, Try.prog.info? 133 = some i ∧ i.zero = some fz ∧ i.size = 2 ∧ i.bytes ≤ 1000 := infFr'
set_option maxRecDepth 100000 in
set_option maxHeartbeats 2000000 in
theorem insert_end (w : World) (V : Value) (es : List FB) (x : FB) (vb : Nat) (h : LsF w V es) (hl : es.length ≤ 65536) (hb : Ob w vb 133 x.cells.toArray) (hx : OwB w x.v x.b) (hd : Dj (fpV x.v) (fpL FB.v V es)) :
    Calls Try.prog 92 #[V, .int .i64 es.length, .slice (some ⟨vb, 0, none⟩) 1 1] w (InsJ w V es x es.length) := by
  obtain ⟨i0, hi0, hz0, hsz0, hby0⟩ := infFr'
  have HI := Lib.hid hi0
  have HZ := Lib.hid hz0
  have HSZ := Lib.hid hsz0
  have HBY := Lib.hid hby0
  have HH := Lib.hid h
  have HO := Lib.hid h.own
  have HX := Lib.hid hx
  have HD := Lib.hid hd
  have HRD : Hid (Src w (some ⟨vb, 0, none⟩) 1 2 x.cells) := Lib.hid ⟨rfl, hb.rd, fun u hu => by
    simp only [FB.cells, List.mem_cons, List.not_mem_nil, or_false] at hu
    rcases hu with rfl | rfl
    · rfl
    · exact hx.one⟩
  obtain ⟨va, vc, rfl, hc1, hc2, _, hvn⟩ := h.own.form
  clear h hb hx hd hi0 hz0 hsz0 hby0
  generalize hn : es.length = n at *
  have HN := Lib.hid hn
  clear hn
  have hb1 : (n : Int) ≤ (n : Int) := Int.le_refl _
  have b2 : (n : Int) ≤ (vc : Int) := by omega
  have hfin : ∀ V2 w2, Own w2 133 2 V2 (n + 1) (es.flatMap FB.cells ++ x.cells) → St (fpV (.slice va n vc)) w (fpV V2) w2 → InsJ w (.slice va n vc) es x n (.returned V2) w2 := fun V2 w2 ho hs => by
    refine ⟨V2, rfl, HH.out.ins HX.out HD.out (by rw [HN.out]; exact Nat.le_refl _) ?_ hs, hs⟩
    rw [← HN.out] at ho ⊢
    rw [List.take_length, List.drop_length, List.flatMap_nil, List.append_nil]
    exact ho
  have HF := Lib.hid hfin
  clear hfin
  cases va with
  | none =>
    obtain ⟨hn0, hv0⟩ := hvn rfl
    subst hn0
    subst hv0
    clear hvn
    go_enter Try.func92, Try.ntmps92
    go_wp2_with (at_builtin; refine wpList_app rfl (.tmp 23) (.tmp 24) 67 rfl 133 i0 fz 2 i0.bytes Try.underlying67 HI.out HZ.out HSZ.out rfl rfl (by decide) _ 0 _ rfl HO.out (some ⟨vb, 0, none⟩) 1 1 x.cells rfl HRD.out (fun h => by cases h) (by unfold maxLen; omega) (Nat.le_trans (Nat.mul_le_mul_left _ HBY.out) (by omega)) ?_; intro V2 w2 ho2 hs2 hn2; have HJ := Lib.hid (HF.out V2 w2 ho2 hs2); clear ho2 hs2 hn2)
    go_ret
    exact HJ.out
  | some y =>
    clear hvn
    by_cases hcn : vc = n
    all_goals
      have hcm := Lib.hid hcn
      try subst hcn
      go_enter Try.func92, Try.ntmps92
      go_wp2_with (at_builtin; refine wpList_app rfl (.tmp 23) (.tmp 24) 67 rfl 133 i0 fz 2 i0.bytes Try.underlying67 HI.out HZ.out HSZ.out rfl rfl (by decide) _ _ _ rfl HO.out (some ⟨vb, 0, none⟩) 1 1 x.cells rfl HRD.out (fun h => by cases h) (by unfold maxLen; omega) (Nat.le_trans (Nat.mul_le_mul_left _ HBY.out) (by omega)) ?_; intro V2 w2 ho2 hs2 hn2; have HJ := Lib.hid (HF.out V2 w2 ho2 hs2); clear ho2 hs2 hn2)
      go_ret
      exact HJ.out
end Go.Proofs.Ytjepmckofocdnaa
