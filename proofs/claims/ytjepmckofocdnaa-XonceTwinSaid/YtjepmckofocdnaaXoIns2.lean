
/-
  slices.Insert of one frame: there is room.
-/
import Derived.Test.YtjepmckofocdnaaXoInsert
namespace Go.Proofs.Ytjepmckofocdnaa
open Go.RowKit
set_option linter.unusedVariables false
set_option linter.unusedSimpArgs false

set_option maxRecDepth 100000 in
set_option maxHeartbeats 2000000 in
theorem insert_shift (w : World) (g c : Nat) (es : List FB) (x : FB) (vb i : Nat) (h : LsF w (.slice (some ⟨g, 0, none⟩) es.length c) es) (hl : es.length ≤ 65536) (hi : i < es.length) (hc : es.length + 1 ≤ c) (hb : Ob w vb 133 x.cells.toArray) (hvb : vb ≠ g) (hx : OwB w x.v x.b) (hd : Dj (fpV x.v) (fpL FB.v (.slice (some ⟨g, 0, none⟩) es.length c) es)) :
    Calls Try.prog 92 #[.slice (some ⟨g, 0, none⟩) es.length c, .int .i64 i, .slice (some ⟨vb, 0, none⟩) 1 1] w (InsJ w (.slice (some ⟨g, 0, none⟩) es.length c) es x i) := by
  have HH := Lib.hid h
  have HX := Lib.hid hx
  have HD := Lib.hid hd
  have hxo : ∀ u ∈ x.cells, u.oneCell' = true := fun u hu => by
    simp only [FB.cells, List.mem_cons, List.not_mem_nil, or_false] at hu
    rcases hu with rfl | rfl
    · rfl
    · exact hx.one
  have hone := fb_one (fun y hy => h.el y hy)
  have hown := h.own
  obtain ⟨_, _, e0, _, hc2, _, _⟩ := hown.form
  cases e0
  have htd := flat_td es i
  generalize hn : es.length = n at *
  have HN := Lib.hid hn
  generalize hxs : es.flatMap FB.cells = xs at *
  have hxl : xs.length = n * 2 := hown.1
  obtain ⟨ys, hyl, hL, hA, hB⟩ := ins_shift (vs := x.cells) hown hi hc rfl
  have hsa : w.shape? vb = some (133, 2) := by unfold World.shape?; rw [hb]; rfl
  have hsb : ∃ k, w.shape? g = some (133, k) ∧ k ≠ 0 := by
    rcases hown.2 with ⟨e, _⟩ | ⟨g', cap, cur, e, _, hg, h5, _, h7, _⟩
    · cases e
    · cases e
      exact ⟨cur.size, by unfold World.shape?; rw [hg], by omega⟩
  obtain ⟨kB, hsb, hkB⟩ := hsb
  have HOV : Hid (∀ lb cb, (callFunc 107 #[.slice (some ⟨vb, 0, none⟩) 1 1, .slice (some ⟨g, (i + 1) * 2, none⟩) lb cb]).run Try.prog w = .ok (.value (.bool false)) w) := Lib.hid (fun lb cb => by
    rw [run_callFunc_extern Try.func107 (by kernel_rfl) (by kernel_rfl) (by kernel_rfl) (e := Extern.SlicesOverlaps.overlaps #[67, 67] #[4]) (by kernel_rfl),
      Lib.run_overlaps_apart w 67 4 133 Try.underlying67 2 (fun w => by obtain ⟨i, h1, _, h3, _⟩ := infFr'; simp [Go.sizeOf, typeInfo, h1, h3]) ⟨vb, 0, none⟩ ⟨g, (i + 1) * 2, none⟩ 1 1 lb cb hvb 133 133 2 kB hsa hsb hkB (hb.free 0) (hb.free 2)]
    rfl)
  have hdl : (xs.drop (i * 2)).length = (n - i) * 2 := by rw [List.length_drop, hxl, Nat.sub_mul]
  have HC1 : Hid (∀ ty dc sc, (Builtin.copy_ #[67, 67] ty #[.slice (some ⟨g, (i + 1) * 2, none⟩) (n - i) dc, .slice (some ⟨g, i * 2, none⟩) (n + 1 - i) sc]).run Try.prog w.drew = .ok (goInt (Nat.min (n + 1 - i) (n - i) : Nat)) (w.drew.setCells g ((i + 1) * 2) (xs.drop (i * 2)))) := Lib.hid (fun ty dc sc =>
    run_copy_rows w.drew _ _ ty 133 2 g ((i + 1) * 2) (n - i) dc ⟨g, i * 2, none⟩ (n + 1 - i) sc (xs.drop (i * 2)) Try.underlying67 frSize (by rw [hdl, show Nat.min (n + 1 - i) (n - i) = n - i from Nat.min_eq_right (by omega)])
      (fun j v hj => by rw [Addr.add_lit]; exact hown.isAt (by rwa [List.getElem?_drop] at hj)) (fun j hj => hL.some (by rw [List.length_append]; omega)) (fun j hj => hL.freeAt _) (fun v hv => hone v (List.mem_of_mem_drop hv)))
  have HC2 : Hid (∀ ty dc, (Builtin.copy_ #[67, 67] ty #[.slice (some ⟨g, i * 2, none⟩) (n + 1 - i) dc, .slice (some ⟨vb, 0, none⟩) 1 1]).run Try.prog (w.setCells g ((i + 1) * 2) (xs.drop (i * 2))).drew = .ok (goInt (Nat.min 1 (n + 1 - i) : Nat)) ((w.setCells g ((i + 1) * 2) (xs.drop (i * 2))).drew.setCells g (i * 2) x.cells)) := Lib.hid (fun ty dc =>
    run_copy_rows _ _ _ ty 133 2 g (i * 2) (n + 1 - i) dc ⟨vb, 0, none⟩ 1 1 x.cells Try.underlying67 frSize (by rw [show Nat.min 1 (n + 1 - i) = 1 from Nat.min_eq_left (by omega)]; rfl)
      (fun j v hj => by
        have hbv := (hb.move ((St.cells (F := fpB0 g) g rfl (xs.drop (i * 2)) ((i + 1) * 2) w).block vb hb.lt (fun e => hvb e)))
        rw [Addr.add_lit, Nat.zero_add]
        have hcx := hbv.cell j
        rw [show x.cells.toArray[j]? = x.cells[j]? by simp, hj] at hcx
        exact hcx)
      (fun j hj => hA.some (by rw [List.length_append, List.length_take, List.length_append, hdl]; have : j < 2 := hj; omega)) (fun j hj => hA.freeAt _) hxo)
  have HFI : Hid (∀ W, W.heap = ((w.setCells g ((i + 1) * 2) (xs.drop (i * 2))).setCells g (i * 2) x.cells).heap → W.os = w.os → W.tape = w.tape → W.output = w.output → InsJ w (.slice (some ⟨g, 0, none⟩) n c) es x i (.returned (.slice (some ⟨g, 0, none⟩) (n + 1) c)) W) := Lib.hid (fun W hW h1 h2 h3 => by
    have s0 : St (fpB0 g) w (fpB0 g) ((w.setCells g ((i + 1) * 2) (xs.drop (i * 2))).setCells g (i * 2) x.cells) := (St.cells (F := fpB0 g) g rfl _ _ w).trans (St.cells (F := fpB0 g) g rfl _ _ _)
    have s : St (fpV (.slice (some ⟨g, 0, none⟩) n c)) w (fpV (.slice (some ⟨g, 0, none⟩) (n + 1) c)) W := by
      refine ⟨h1, h2, h3, by rw [hW]; exact s0.size, fun k hk hf => by rw [hW]; exact s0.block k hk (fun e => hf (fpV_at.2 e)), fun k hk => .inl (fpV_at.2 (fpV_at.1 hk))⟩
    refine ⟨_, rfl, HH.out.ins HX.out HD.out (by rw [HN.out]; omega) ?_ s, s⟩
    rw [HN.out, ← htd.1, ← htd.2]
    exact hB.move (fun _ _ => by rw [hW]))
  have hw1 : IntKind.i64.wrap ((i : Int) + 1) = (i : Int) + 1 := IntWalk.i64_in _ (by omega)
  have hw2 : IntKind.i64.wrap ((n : Int) + 1) = (n : Int) + 1 := IntWalk.i64_in _ (by omega)
  have hz2 : ¬ ((i : Int) = (n : Int)) := by omega
  have hz3 : ((i : Int) == (n : Int)) = false := by rw [beq_eq_false_iff_ne]; exact hz2
  have b1 : (0 : Int) ≤ (i : Int) + 1 := by omega
  have b2 : (i : Int) ≤ (n : Int) := by omega
  have b3 : (i : Int) ≤ (n : Int) + 1 := by omega
  have b4 : (n : Int) + 1 ≤ (c : Int) := by omega
  have b5 : (i : Int) + 1 ≤ (n : Int) + 1 := by omega
  have b6 : ¬ (c = i) := by omega
  have b7 : ¬ (c = i + 1) := by omega
  have b8 : ((i : Int) + 1).toNat = i + 1 := by omega
  have b9 : ((n : Int) + 1).toNat = n + 1 := by omega
  have b10 : ¬ ((c : Int) < (n : Int) + 1) := by omega
  have b11 : decide ((c : Int) < (n : Int) + 1) = false := decide_eq_false b10
  have b12 : i ≤ n := by omega
  have b13 : (0 : Int) ≤ (n : Int) + 1 := by omega
  clear h hx hd hxo hone hown htd hn hxs hL hA hB hsa hsb hkB hb hvb hyl hdl
  go_enter Try.func92, Try.ntmps92
  go_wp2_with (simp only [HOV.out])
  go_region_law (refine step_copy_run rfl (.tmp 73) (.tmp 76) 67 67 rfl (.slice (some ⟨g, (i + 1) * 2, none⟩) (n - i) (c - (i + 1))) (.slice (some ⟨g, i * 2, none⟩) (n + 1 - i) (c - i)) (by simp [Act.eval, Act.put]) (by simp [Act.eval, Act.put]) (HC1.out _ _ _) ?_)
  rw [drew_cells]
  have hc2 := HC2.out 3 (c - i)
  go_wp2_with fail
  try rw [hc2]
  try go_simp
  try go_wp2
  go_ret
  rw [drew_cells]
  have s : St (fpB0 g) w (fpB0 g) ((w.setCells g ((i + 1) * 2) (xs.drop (i * 2))).setCells g (i * 2) x.cells).drew := ((St.cells (F := fpB0 g) g rfl _ _ w).trans (St.cells (F := fpB0 g) g rfl _ _ _)).trans (St.drew _ _)
  exact HFI.out _ rfl s.os s.tape s.output
end Go.Proofs.Ytjepmckofocdnaa
