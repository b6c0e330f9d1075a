
/-
  slices.Insert of one frame: there is no room.
-/
import Derived.Test.YtjepmckofocdnaaXoIns2
namespace Go.Proofs.Ytjepmckofocdnaa
open Go.RowKit
set_option linter.unusedVariables false
set_option linter.unusedSimpArgs false

theorem zcells_len (k : Nat) : (Builtin.zeroCells fz.cells k).size = k * 2 := by
  simp [Builtin.zeroCells, fz, Value.cells]
/-- a row that append has made: the olds and zeros -/
theorem made_own (w : World) (olds : List Value) (i k G : Nat) (ho : olds.length = i * 2) (hG : i + k ≤ G) (hm : G ≤ maxLen) :
    ∃ zs, zs.length = k * 2 ∧ Own (w.drew.alloc (.cells (olds.toArray ++ Builtin.zeroCells fz.cells k ++ Builtin.zeroCells fz.cells (G - (i + k))) 133)) 133 2 (.slice (some ⟨w.heap.size, 0, none⟩) (i + k) G) (i + k) (olds ++ zs) := by
  have hz := zcells_len k
  have hz2 := zcells_len (G - (i + k))
  have e1 : (i + k) * 2 = i * 2 + k * 2 := Nat.add_mul _ _ _
  refine ⟨(Builtin.zeroCells fz.cells k).toList, by simpa using hz, by simp only [List.length_append, Array.length_toList]; omega, .inr ⟨w.heap.size, G, _, rfl, Nat.zero_le _, Ob.alloc w.drew _ _, hG, hm, ?_, ?_⟩⟩
  · rw [Array.size_append, Array.size_append, hz, hz2, List.size_toArray, ho]
    omega
  · rw [Array.toList_append, Array.toList_append]
    exact List.take_left' (by simp only [List.length_append, Array.length_toList]; omega)
theorem ins_grow {w : World} {g c n i : Nat} {xs zs vs : List Value} (hx : xs.length = n * 2) (h : Own w 133 2 (.slice (some ⟨g, 0, none⟩) (n + 1) c) (n + 1) (xs.take (i * 2) ++ zs)) (hi : i < n) (hz : zs.length = (n + 1 - i) * 2) (hv : vs.length = 2) :
    ∃ L, L.length = (n + 1) * 2 ∧ Own (w.setCells g (i * 2) vs) 133 2 (.slice (some ⟨g, 0, none⟩) (n + 1) c) (n + 1) L ∧
      Own ((w.setCells g (i * 2) vs).setCells g ((i + 1) * 2) (xs.drop (i * 2))) 133 2 (.slice (some ⟨g, 0, none⟩) (n + 1) c) (n + 1) (xs.take (i * 2) ++ vs ++ xs.drop (i * 2)) := by
  have htl : (xs.take (i * 2)).length = i * 2 := by rw [List.length_take]; omega
  have e3 : (n + 1 - i) * 2 = (n + 1) * 2 - i * 2 := Nat.sub_mul _ _ _
  have h1 := h.cells vs (i * 2) _ _ (by rw [List.length_append, htl]; omega)
  rw [List.take_left' htl] at h1
  have hdl : (xs.drop (i * 2)).length = n * 2 - i * 2 := by rw [List.length_drop, hx]
  have hll := h1.1
  have h2 := h1.cells (xs.drop (i * 2)) ((i + 1) * 2) _ _ (by rw [hll, hdl]; omega)
  have e1 : (xs.take (i * 2) ++ vs ++ (xs.take (i * 2) ++ zs).drop (i * 2 + vs.length)).take ((i + 1) * 2) = xs.take (i * 2) ++ vs := List.take_left' (by rw [List.length_append, htl, hv]; omega)
  have e2 : (xs.take (i * 2) ++ vs ++ (xs.take (i * 2) ++ zs).drop (i * 2 + vs.length)).drop ((i + 1) * 2 + (xs.drop (i * 2)).length) = [] := List.drop_of_length_le (by rw [hll, hdl]; omega)
  rw [e1, e2, List.append_nil] at h2
  exact ⟨_, hll, h1, h2⟩
set_option maxRecDepth 100000 in
set_option maxHeartbeats 2000000 in
theorem insert_grow (w : World) (g c : Nat) (es : List FB) (x : FB) (vb i : Nat) (h : LsF w (.slice (some ⟨g, 0, none⟩) es.length c) es) (hl : es.length ≤ 65536) (hi : i < es.length) (hc : c < es.length + 1) (hb : Ob w vb 133 x.cells.toArray) (hx : OwB w x.v x.b) (hd : Dj (fpV x.v) (fpL FB.v (.slice (some ⟨g, 0, none⟩) es.length c) es)) :
    Calls Try.prog 92 #[.slice (some ⟨g, 0, none⟩) es.length c, .int .i64 i, .slice (some ⟨vb, 0, none⟩) 1 1] w (InsJ w (.slice (some ⟨g, 0, none⟩) es.length c) es x i) := by
  have HH := Lib.hid h
  have HX := Lib.hid hx
  have HD := Lib.hid hd
  have hxo : ∀ u ∈ x.cells, u.oneCell' = true := fun u hu => by
    simp only [FB.cells, List.mem_cons, List.not_mem_nil, or_false] at hu
    rcases hu with rfl | rfl
    · rfl
    · exact hx.one
  have hone := fb_one (fun y hy => h.el y hy)
  have hown := h.own
  obtain ⟨_, _, e0, hnc, hc2, _, _⟩ := hown.form
  cases e0
  have htd := flat_td es i
  generalize hn : es.length = n at *
  have HN := Lib.hid hn
  generalize hxs : es.flatMap FB.cells = xs at *
  have hxl : xs.length = n * 2 := hown.1
  obtain rfl : c = n := by omega
  obtain ⟨i0, hi0, hz0, hsz0, hby0⟩ := infFr'
  have hgw : g < w.heap.size := hown.in _ (fpV_at.2 rfl)
  have hvw := hb.lt
  have hik : i + (c + 1 - i) = c + 1 := by omega
  obtain ⟨G, hG⟩ : ∃ G, G = grownCap w (c + 1) c 133 := ⟨_, rfl⟩
  have hGn : c + 1 ≤ G := by rw [hG]; exact grownCap_ge w _ _ _
  have hGm : G ≤ maxLen := by rw [hG]; exact grownCap_le_maxLen w (c + 1) c 133 (by unfold maxLen; omega)
  have htl : (xs.take (i * 2)).length = i * 2 := by rw [List.length_take]; omega
  obtain ⟨zs, hzl, hM⟩ := made_own w (xs.take (i * 2)) i (c + 1 - i) G htl (by omega) hGm
  rw [hik] at hM
  obtain ⟨ROW, hROW⟩ : ∃ ROW : Array Value, ROW = (xs.take (i * 2)).toArray ++ Builtin.zeroCells fz.cells (c + 1 - i) ++ Builtin.zeroCells fz.cells (G - (c + 1)) := ⟨_, rfl⟩
  rw [← hROW] at hM
  obtain ⟨L, hLl, hA, hB⟩ := ins_grow (vs := x.cells) hxl hM hi hzl rfl
  have sN : St No w No (w.drew.alloc (.cells ROW 133)) := (St.drew No w).trans (St.alloc' No _ _)
  have HRZ : Hid (∀ ty, (Builtin.append_ #[67, 3] ty #[.slice (some ⟨g, 0, none⟩) i c, .int .i64 ((c + 1 - i : Nat) : Int)]).run Try.prog w = .ok (.slice (some ⟨w.heap.size, 0, none⟩) (c + 1) G) (w.drew.alloc (.cells ROW 133))) := Lib.hid (fun ty => by
    have hold : (Builtin.firstCells i0.size i (.slice (some ⟨g, 0, none⟩) i c)).run Try.prog w.drew = .ok (xs.take (i * 2)).toArray w.drew := by
      rw [hsz0]
      exact run_firstCells_some w.drew 2 i ⟨g, 0, none⟩ i c (xs.take (i * 2)) htl (fun j v hj => by
        rw [Addr.add_lit, Nat.zero_add]
        rw [List.getElem?_take] at hj
        split at hj
        · exact hown.isAt hj
        · cases hj)
    have h := Lib.run_append_grow_zeros w 67 3 ty 133 i0 fz .i64 .i64 Try.underlying67 Try.underlying3 hi0 hz0 (some ⟨g, 0, none⟩) i c (xs.take (i * 2)) hold (c + 1 - i) (by omega) (by omega) (by omega) (by omega) (Nat.le_trans (Nat.mul_le_mul_left _ hby0) (by omega)) (by rw [hik]; exact growslice_fits hc (Nat.le_trans (Nat.mul_le_mul_left _ hby0) (by omega)))
    rw [hik, ← hG, ← hROW] at h
    exact h)
  have hgr : g ≠ w.heap.size := by omega
  have HC1 : Hid (∀ ty dc, (Builtin.copy_ #[67, 67] ty #[.slice (some ⟨w.heap.size, i * 2, none⟩) (c + 1 - i) dc, .slice (some ⟨vb, 0, none⟩) 1 1]).run Try.prog (w.drew.alloc (.cells ROW 133)) = .ok (goInt (Nat.min 1 (c + 1 - i) : Nat)) ((w.drew.alloc (.cells ROW 133)).setCells w.heap.size (i * 2) x.cells)) := Lib.hid (fun ty dc =>
    run_copy_rows _ _ _ ty 133 2 w.heap.size (i * 2) (c + 1 - i) dc ⟨vb, 0, none⟩ 1 1 x.cells Try.underlying67 frSize (by rw [show Nat.min 1 (c + 1 - i) = 1 from Nat.min_eq_left (by omega)]; rfl)
      (fun j v hj => by
        have hbv := hb.move (sN.block vb hb.lt (fun e => e))
        rw [Addr.add_lit, Nat.zero_add]
        have hcx := hbv.cell j
        rw [show x.cells.toArray[j]? = x.cells[j]? by simp, hj] at hcx
        exact hcx)
      (fun j hj => hM.some (by rw [hM.1]; have : j < 2 := hj; omega)) (fun j hj => hM.freeAt _) hxo)
  have hdl : (xs.drop (i * 2)).length = (c - i) * 2 := by rw [List.length_drop, hxl, Nat.sub_mul]
  have HC2 : Hid (∀ ty dc sc, (Builtin.copy_ #[67, 67] ty #[.slice (some ⟨w.heap.size, (i + 1) * 2, none⟩) (c - i) dc, .slice (some ⟨g, i * 2, none⟩) (c - i) sc]).run Try.prog ((w.drew.alloc (.cells ROW 133)).setCells w.heap.size (i * 2) x.cells).drew = .ok (goInt (Nat.min (c - i) (c - i) : Nat)) (((w.drew.alloc (.cells ROW 133)).setCells w.heap.size (i * 2) x.cells).drew.setCells w.heap.size ((i + 1) * 2) (xs.drop (i * 2)))) := Lib.hid (fun ty dc sc =>
    run_copy_rows _ _ _ ty 133 2 w.heap.size ((i + 1) * 2) (c - i) dc ⟨g, i * 2, none⟩ (c - i) sc (xs.drop (i * 2)) Try.underlying67 frSize (by rw [hdl, show Nat.min (c - i) (c - i) = c - i from Nat.min_self _])
      (fun j v hj => by
        have hov := (hown.st sN (Dj.no _)).st (St.cells (F := fpB0 w.heap.size) w.heap.size rfl x.cells (i * 2) _) (fun k a b => by have e1 : k = w.heap.size := a; have e2 := fpV_at.1 b; omega)
        rw [Addr.add_lit]
        exact hov.isAt (by rwa [List.getElem?_drop] at hj))
      (fun j hj => hA.some (by rw [hLl]; omega)) (fun j hj => hA.freeAt _) (fun v hv => hone v (List.mem_of_mem_drop hv)))
  have HFI : Hid (∀ W, W.heap = (((w.drew.alloc (.cells ROW 133)).setCells w.heap.size (i * 2) x.cells).setCells w.heap.size ((i + 1) * 2) (xs.drop (i * 2))).heap → W.os = w.os → W.tape = w.tape → W.output = w.output → InsJ w (.slice (some ⟨g, 0, none⟩) c c) es x i (.returned (.slice (some ⟨w.heap.size, 0, none⟩) (c + 1) G)) W) := Lib.hid (fun W hW h1 h2 h3 => by
    have s0 : St No w No (((w.drew.alloc (.cells ROW 133)).setCells w.heap.size (i * 2) x.cells).setCells w.heap.size ((i + 1) * 2) (xs.drop (i * 2))) := (sN.own (St.cells (F := fpB0 w.heap.size) w.heap.size rfl _ _ _) (Nat.le_refl _)).own (St.cells (F := fpB0 w.heap.size) w.heap.size rfl _ _ _) (Nat.le_refl _)
    have s : St (fpV (.slice (some ⟨g, 0, none⟩) c c)) w (fpV (.slice (some ⟨w.heap.size, 0, none⟩) (c + 1) G)) W := by
      refine ⟨h1, h2, h3, by rw [hW]; exact s0.size, fun k hk hf => by rw [hW]; exact s0.block k hk (fun e => e), fun k hk => .inr (by have := fpV_at.1 hk; omega)⟩
    refine ⟨_, rfl, HH.out.ins HX.out HD.out (by rw [HN.out]; omega) ?_ s, s⟩
    rw [HN.out, ← htd.1, ← htd.2]
    exact hB.move (fun _ _ => by rw [hW]))
  have HSN := Lib.hid sN
  have hw2 : IntKind.i64.wrap ((c : Int) + 1) = (c : Int) + 1 := IntWalk.i64_in _ (by omega)
  have hw3 : IntKind.i64.wrap ((c : Int) + 1 - (i : Int)) = ((c + 1 - i : Nat) : Int) := by rw [IntWalk.i64_in _ (by omega)]; omega
  have hw1 : IntKind.i64.wrap ((i : Int) + 1) = (i : Int) + 1 := IntWalk.i64_in _ (by omega)
  have hz3 : ((i : Int) == (c : Int)) = false := by rw [beq_eq_false_iff_ne]; omega
  have hGM := hGm
  unfold maxLen at hGM
  have b1 : (0 : Int) ≤ (i : Int) + 1 := by omega
  have b2 : (i : Int) ≤ (c : Int) := by omega
  have b3 : (i : Int) ≤ (c : Int) + 1 := by omega
  have b5 : (i : Int) + 1 ≤ (c : Int) + 1 := by omega
  have b6 : ¬ (c = i) := by omega
  have b7 : ¬ (G = i) := by omega
  have b7' : ¬ (G = i + 1) := by omega
  have b8 : ((i : Int) + 1).toNat = i + 1 := by omega
  have b10 : (c : Int) < (c : Int) + 1 := by omega
  have b12 : i ≤ c := by omega
  clear h hx hd hxo hone hown htd hn hxs hA hB hb hdl hM hzl hLl hG hROW sN hi0 hz0 hsz0 hby0
  go_enter Try.func92, Try.ntmps92
  have hc1 : (Builtin.copy_ #[67, 67] 3 #[.slice (some ⟨w.heap.size, i * 2, none⟩) (c + 1 - i) (G - i), .slice (some ⟨vb, 0, none⟩) 1 1]).run Try.prog (w.alloc (.cells ROW 133)).drew = .ok (goInt (Nat.min 1 (c + 1 - i) : Nat)) ((w.alloc (.cells ROW 133)).drew.setCells w.heap.size (i * 2) x.cells) := HC1.out _ _
  go_wp2_with (at_builtin; refine Lib.wpList_append_run _ rfl (.tmp 34) (.tmp 39) 67 3 rfl _ _ rfl rfl _ _ (HRZ.out _) ?_)
  clear hc1
  try go_simp
  try go_wp2_with fail
  have b13 : c - i ≤ c - i := Nat.le_refl _
  go_region_law (refine step_copy_run rfl (.tmp 50) (.tmp 53) 67 67 rfl (.slice (some ⟨w.heap.size, (i + 1) * 2, none⟩) (c - i) (G - (i + 1))) (.slice (some ⟨g, i * 2, none⟩) (c - i) (c - i)) (by simp [Act.eval, Act.put]) (by simp [Act.eval, Act.put]) (HC2.out _ _ _) ?_)
  go_wp2
  go_ret
  have sN : St No w No ((w.drew.alloc (.cells ROW 133))) := HSN.out
  have s : St No w No (((w.drew.alloc (.cells ROW 133)).setCells w.heap.size (i * 2) x.cells).drew.setCells w.heap.size ((i + 1) * 2) (xs.drop (i * 2))) := ((sN.own (St.cells (F := fpB0 w.heap.size) w.heap.size rfl _ _ _) (Nat.le_refl _)).trans (St.drew No _)).own (St.cells (F := fpB0 w.heap.size) w.heap.size rfl _ _ _) (Nat.le_refl _)
  refine HFI.out _ ?_ s.os s.tape s.output
  rw [drew_cells]
  rfl
end Go.Proofs.Ytjepmckofocdnaa
