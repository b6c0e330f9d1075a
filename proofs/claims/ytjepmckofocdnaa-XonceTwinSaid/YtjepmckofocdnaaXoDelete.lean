
/-
  slices.Delete of the first frame.
-/
import Derived.Test.YtjepmckofocdnaaXoRows
namespace Go.Proofs.Ytjepmckofocdnaa
open Go.RowKit
set_option linter.unusedVariables false
set_option linter.unusedSimpArgs false

theorem wpList_clear_run {P : Program} (w : World) {ops : Array Oper} {rest : List Oper} {o : Oper} {a : Act} {Q : Exit → Act → World → Prop} (hgd : o.guard = none) (x : Operand) (t : TypeId)
    (ho : o.op = .call { callee := .builtin .clear, args := #[x], argTypes := #[t] }) (vx : Value) (hx : a.eval x = vx) {v' : Value} {w' : World} (hr : (Builtin.clear_ #[t] o.type #[vx]).run P w = .ok v' w')
    (h : wpList P ops Q rest (a.put o.dst v') w') : wpList P ops Q (o :: rest) a w :=
  wpList_plain hgd fun _ hK => by
    unfold Oper.wp execOp
    simp only [ho, resolve, invoke, builtin, Sem.run_bind, Sem.run_pure, Result.andThen_ok, List.map_toArray, List.map_cons, List.map_nil, hx, hr]
    exact hK _ _ h
theorem wpList_copy_run {P : Program} (w : World) {ops : Array Oper} {rest : List Oper} {o : Oper} {a : Act} {Q : Exit → Act → World → Prop} (hgd : o.guard = none) (d s : Operand) (t t' : TypeId)
    (ho : o.op = .call { callee := .builtin .copy, args := #[d, s], argTypes := #[t, t'] }) (v u : Value) (hd : a.eval d = v) (hs : a.eval s = u) {v' : Value} {w' : World} (hr : (Builtin.copy_ #[t, t'] o.type #[v, u]).run P w = .ok v' w')
    (h : wpList P ops Q rest (a.put o.dst v') w') : wpList P ops Q (o :: rest) a w :=
  wpList_plain hgd fun _ hK => by
    unfold Oper.wp execOp
    simp only [ho, resolve, invoke, builtin, Sem.run_bind, Sem.run_pure, Result.andThen_ok, List.map_toArray, List.map_cons, List.map_nil, hd, hs, hr]
    exact hK _ _ h
theorem step_copy_run {P : Program} {ops : Array Oper} {o : Oper} {a : Act} {w : World} {K : Act → World → Prop} {Q : Exit → Act → World → Prop} {E : Prop} (hg : o.guard = none) (d x : Operand) (dT sT : TypeId)
    (hop : o.op = Op.call { callee := Callee.builtin Builtin.copy, args := #[d, x], argTypes := #[dT, sT] }) (v u : Value) (hd : a.eval d = v) (hx : a.eval x = u) {v' : Value} {w' : World} (hr : (Builtin.copy_ #[dT, sT] o.type #[v, u]).run P w = .ok v' w')
    (hK : K (a.put o.dst v') w') : if Region.wanted o (yielded ops a.tmps) = true then Oper.wp P o a w K Q else E := by
  have hw : Region.wanted o (yielded ops a.tmps) = true := by simp [Region.wanted, hg]
  rw [if_pos hw]
  unfold Oper.wp
  simp [execOp, hop, resolve, invoke, builtin, hd, hx, hr, Result.andThen]
  exact hK
theorem drew_cells (b : Nat) : ∀ (vs : List Value) (o : Nat) (w : World), w.drew.setCells b o vs = (w.setCells b o vs).drew
  | [], _, _ => rfl
  | v :: r, o, w => by rw [World.setCells, World.setCells, ← drew_cells b r]; rfl
def fz : Value := .agg #[.int .u64 0, .slice none 0 0]
theorem infFr : (Try.prog.info? 133).map (fun i => (i.zero, i.size, decide (i.bytes ≤ 1000))) = some (some fz, 2, true) := by kernel_rfl
theorem infFr' : ∃ i, Try.prog.info? 133 = some i ∧ i.zero = some fz ∧ i.size = 2 ∧ i.bytes ≤ 1000 := by
  have h := infFr
  cases hi : Try.prog.info? 133 with
  | none => rw [hi] at h; cases h
  | some i =>
    rw [hi] at h
    simp only [Option.map_some, Option.some.injEq, Prod.mk.injEq] at h
    exact ⟨i, rfl, h.1, h.2.1, of_decide_eq_true h.2.2⟩
theorem frSize : (Try.prog.info? 133).map (·.size) = some 2 := by kernel_rfl
theorem frZero (w : World) : (zeroValue 133).run Try.prog w = .ok fz w := by
  obtain ⟨i, h1, h2, _⟩ := infFr'
  simp [zeroValue, typeInfo, h1, h2]
theorem fb_one {es : List FB} {w : World} (h : ∀ x ∈ es, OwB w x.v x.b) : ∀ u ∈ es.flatMap FB.cells, u.oneCell' = true := by
  intro u hu
  obtain ⟨x, hx, hu⟩ := List.mem_flatMap.1 hu
  simp only [FB.cells, List.mem_cons, List.not_mem_nil, or_false] at hu
  rcases hu with rfl | rfl
  · rfl
  · exact (h x hx).one
theorem flatF_len (es : List FB) : (es.flatMap FB.cells).length = es.length * 2 := flat_len FB.cells 2 FB.cells_len es
set_option maxRecDepth 100000 in
set_option maxHeartbeats 2000000 in
theorem delete_calls (w : World) (g c n : Nat) (f : FB) (es : List FB) (hn : es.length = n) (h : LsF w (.slice (some ⟨g, 0, none⟩) (n + 1) c) (f :: es)) (hn2 : n ≤ 65536) :
    Calls Try.prog 93 #[.slice (some ⟨g, 0, none⟩) (n + 1) c, .int .i64 0, .int .i64 1] w fun e w' => e = .returned (.slice (some ⟨g, 0, none⟩) n c) ∧ LsF w' (.slice (some ⟨g, 0, none⟩) n c) es ∧ St (fpB0 g) w (fpB0 g) w' := by
  have H := Lib.hid h
  have hown := h.own
  rw [List.length_cons, hn, List.flatMap_cons] at hown
  obtain ⟨_, _, e0, hc1, hc2, _, _⟩ := hown.form
  cases e0
  have hfl : (es.flatMap FB.cells).length = n * 2 := by rw [flatF_len, hn]
  have hone := fb_one (fun x hx => h.el x (List.mem_cons_of_mem _ hx))
  have hsrc : ∀ j u, (es.flatMap FB.cells)[j]? = some u → w.cell? ⟨g, 2 + j, none⟩ = some u := fun j u hj => hown.isAt (by rw [List.getElem?_append_right (by rw [FB.cells_len]; omega), FB.cells_len, show 2 + j - 2 = j by omega]; exact hj)
  -- behind the append
  have hA := hown.cells (es.flatMap FB.cells) 0 _ _ (by rw [List.length_append, FB.cells_len]; omega)
  rw [List.take_zero, List.nil_append, Nat.zero_add] at hA
  have hal : (es.flatMap FB.cells ++ (f.cells ++ es.flatMap FB.cells).drop (es.flatMap FB.cells).length).length = n * 2 + 2 := by rw [List.length_append, List.length_drop, List.length_append, FB.cells_len]; omega
  have hB := hA.cells [.int .u64 0, .slice none 0 0] (n * 2) _ _ (by rw [hal]; exact Nat.le_refl _)
  rw [List.take_left' hfl, List.drop_of_length_le (by rw [hal]; exact Nat.le_refl _), List.append_nil] at hB
  have hC := hB.trim (m := n) (by omega)
  rw [List.take_left' hfl] at hC
  have HC := Lib.hid hC
  have HA := Lib.hid hA
  have HO := Lib.hid hown
  have hs1 : ∀ j, j < (es.flatMap FB.cells).length → (w.cell? ⟨g, 0 + 0 * 2 + j, none⟩).isSome = true ∧ w.frozen? ⟨g, 0 + 0 * 2 + j, none⟩ = false := fun j hj => by
    rw [show 0 + 0 * 2 + j = j by omega]
    exact ⟨hown.some (by rw [List.length_append, FB.cells_len]; omega), hown.freeAt _⟩
  have HS1 := Lib.hid hs1
  have HSRC := Lib.hid hsrc
  have HONE := Lib.hid hone
  have HFL := Lib.hid hfl
  obtain ⟨i0, hi0, hz0, hsz0, hby0⟩ := infFr'
  have HI0 := Lib.hid hi0
  have HZ0 := Lib.hid hsz0
  have HCL : Hid (∀ W, W.heap = (w.setCells g 0 (es.flatMap FB.cells)).heap → ∀ ty cc, (Builtin.clear_ #[67] ty #[.slice (some ⟨g, n * 2, none⟩) 1 cc]).run Try.prog W = .ok (.tuple #[]) (W.setCells g (n * 2) [.int .u64 0, .slice none 0 0])) := Lib.hid (fun W hW ty cc => by
    have hAW : Own W 133 2 _ _ _ := HA.out.move (fun k _ => by rw [hW])
    exact run_clear_row W _ 133 ty fz [.int .u64 0, .slice none 0 0] Try.underlying67 frZero (by kernel_rfl) (fun v hv => by simp at hv; rcases hv with rfl | rfl <;> rfl) g (n * 2) cc (fun j hj => hAW.some (by rw [hal]; have : j < 2 := hj; omega)) (fun j hj => hAW.freeAt _))
  have wl : IntKind.i64.wrap ((n : Int) + 1) = (n : Int) + 1 := IntWalk.i64_in _ (by omega)
  have b1 : (1 : Int) ≤ (n : Int) + 1 := by omega
  have b2 : (n : Int) + 1 ≤ (c : Int) := by omega
  have b3 : (n : Int) ≤ (n : Int) + 1 := by omega
  have b4 : (1 : Int) ≤ (c : Int) := by omega
  clear h hown hC hA hB hs1 hsrc hone hfl hi0 hz0 hsz0 hby0
  go_enter Try.func93, Try.ntmps93
  go_wp2_with fail
  by_cases hc3 : c = 1
  · have hn0 : n = 0 := by omega
    subst hn0
    subst hc3
    obtain rfl : es = [] := List.eq_nil_of_length_eq_zero hn
    go_region_law (refine step_append_room rfl (.tmp 22) (.tmp 25) 67 rfl 133 i0 2 Try.underlying67 HI0.out HZ0.out g 0 0 1 (by simp [Act.eval, Act.put]) ⟨g, 0, none⟩ 0 0 [] (by simp [Act.eval, Act.put]) rfl (fun j u hj => by simp at hj) (fun u hu => by simp at hu) (by omega) (fun j hj => by simp at hj) ?_)
    rw [drew_cells]
    have hcl := HCL.out (w.setCells g 0 []).drew rfl 0 1
    rw [Nat.zero_mul] at hcl
    go_wp2
    go_ret
    have s : St (fpB0 g) w (fpB0 g) ((w.setCells g 0 []).drew.setCells g 0 [.int .u64 0, .slice none 0 0]) := ((St.cells (F := fpB0 g) g rfl _ 0 w).trans (St.drew _ _)).trans (St.cells (F := fpB0 g) g rfl _ _ _)
    refine ⟨rfl, H.out.rest ?_ rfl s, s⟩
    rw [drew_cells]
    exact HC.out.move (fun _ _ => rfl)
  · have hc4 : ¬ (1 = c) := fun e => hc3 e.symm
    go_region_law (refine step_append_room rfl (.tmp 22) (.tmp 25) 67 rfl 133 i0 2 Try.underlying67 HI0.out HZ0.out g 0 0 c (by simp [Act.eval, Act.put]) ⟨g, 2, none⟩ n (c - 1) (es.flatMap FB.cells) (by simp [Act.eval, Act.put]) HFL.out (fun j u hj => by rw [Addr.add_lit]; exact HSRC.out j u hj) HONE.out (by omega) (fun j hj => HS1.out j hj) ?_)
    rw [drew_cells]
    have hc5 : ¬ (c = n) := by omega
    have hc6 : ¬ (n = c) := by omega
    go_wp2_with fail
    rw [HCL.out (w.setCells g 0 (es.flatMap FB.cells)).drew rfl _ _]
    go_simp
    go_wp2
    go_ret
    have s : St (fpB0 g) w (fpB0 g) ((w.setCells g 0 (es.flatMap FB.cells)).drew.setCells g (n * 2) [.int .u64 0, .slice none 0 0]) := ((St.cells (F := fpB0 g) g rfl _ 0 w).trans (St.drew _ _)).trans (St.cells (F := fpB0 g) g rfl _ _ _)
    refine ⟨rfl, H.out.rest ?_ hn s, s⟩
    rw [drew_cells]
    exact HC.out.move (fun _ _ => rfl)
end Go.Proofs.Ytjepmckofocdnaa
