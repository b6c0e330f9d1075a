
/-
  Lists of rows in memory, each row with bytes of its own; copies and frames.
-/
import Derived.Test.YtjepmckofocdnaaXoSmall
import Derived.Test.YtjepmckofocdnaaRowLists
namespace Go.Proofs.Ytjepmckofocdnaa
open Go.RowKit
set_option linter.unusedVariables false
set_option linter.unusedSimpArgs false

/-- frames that can be read -/
def Frs (w : World) (a : Option Addr) (L : List (Nat × List B8)) : Prop :=
  ∀ (i : Nat) (f : Nat × List B8), L[i]? = some f → ∃ x b c, a = some x ∧ w.cell? ((x.add (i * 2)).add 0) = some (.int .u64 (f.1 : Int)) ∧ w.cell? ((x.add (i * 2)).add 1) = some (.slice b f.2.length c) ∧ Bs w b f.2 ∧ (b = none → c = 0) ∧ f.2.length ≤ 140737488351232
theorem In.not {F : Nat → Prop} {w : World} (h : In F w) : ¬ F w.heap.size := fun hk => absurd (h _ hk) (Nat.lt_irrefl _)
/-- a cell that an append behind an allocation has left as it was -/
theorem St.keep {F G : Nat → Prop} {w w' : World} {o : Obj} {x : Addr} {v : Value} (s : St F (w.alloc o) G w') (h : w.cell? x = some v) (hn : ¬ F x.block) : w'.cell? x = some v := by
  have hl := World.block_lt_of_cell? w x h
  rw [World.cell?_of_block (w := w.alloc o) (s.block _ (by rw [World.size_alloc]; exact Nat.lt_succ_of_lt hl) hn)]
  exact (St.alloc' No w o).cellN h
/-- a copy of a queue; of frames -/
def CopJ (w : World) (L : List (List B8)) (e : Ending) (w' : World) : Prop := ∃ V qs, e = .returned V ∧ LsQ w' V qs ∧ qs.map (·.b) = L ∧ St No w (fpL PB.v V qs) w'
def FrmJ (w : World) (L : List (Nat × List B8)) (e : Ending) (w' : World) : Prop := ∃ V es, e = .returned V ∧ LsF w' V es ∧ es.map (fun f => (f.seq, f.b)) = L ∧ St No w (fpL FB.v V es) w'
theorem Lists.get {w : World} {a : Option Addr} {L : List (List B8)} (h : Lists w a L) {k : Nat} (hk : k < L.length) : ∃ x b c, a = some x ∧ w.cell? (x.add k) = some (.slice b (L[k]).length c) ∧ Bs w b L[k] ∧ (b = none → c = 0) ∧ (L[k]).length ≤ 140737488351232 := by
  obtain ⟨x, b, c, h1, h2, h3, h4, h5⟩ := h k L[k] (List.getElem?_eq_getElem hk)
  exact ⟨x, b, c, h1, h2, h3, h4, h5⟩
theorem map_take_succ {α β : Type} {f : α → β} {qs : List α} {L : List β} {k : Nat} (hk : k < L.length) (h : qs.map f = L.take k) (x : α) (hx : f x = L[k]) : (qs ++ [x]).map f = L.take (k + 1) := by
  rw [List.map_append, h, List.take_succ_eq_append_getElem hk, List.map_cons, hx]; rfl
set_option maxRecDepth 100000 in
set_option maxHeartbeats 1000000 in
theorem copies_calls (a : Option Addr) (c : Nat) (L : List (List B8)) (hl : L.length ≤ 4294967296) (w : World) (h : Lists w a L) :
    Calls Try.prog 50 #[.slice a L.length c] w (CopJ w L) := by
  have H := Lib.hid h
  clear h
  go_enter Try.func50, Try.ntmps50
  go_wp2
  go_loopw [3, 8] (fun V i wr => ∃ (k : Nat) (qs : List PB), k ≤ L.length ∧ i = .int .i64 k ∧ Hid (LsQ wr V qs) ∧ Hid (qs.map (·.b) = L.take k) ∧ Hid (St No w (fpL PB.v V qs) wr)) (fun _ i _ => L.length - (intOf i).toNat)
  case atStart => exact ⟨0, [], by omega, rfl, Lib.hid (LsG.nil _), Lib.hid rfl, Lib.hid ((St.refl No _).drop (fun k hk => (fpL_nil hk).elim))⟩
  case round =>
    obtain ⟨k, qs, hk, rfl, HQ, HE, HS⟩ := hrel
    by_cases hlt : k < L.length
    · obtain ⟨x, b, d, rfl, hcx, hbx, hbn, hbl⟩ := (H.out.st HS.out).get hlt
      have HEN : Hid (∀ v, (qs ++ [PB.mk v L[k]]).map (·.b) = L.take (k + 1)) := Lib.hid (fun v => map_take_succ hlt HE.out (PB.mk v L[k]) rfl)
      have HQL : Hid (qs.length ≤ 4294967296) := Lib.hid (by have := congrArg List.length HE.out; rw [List.length_map, List.length_take] at this; omega)
      generalize L[k] = bs at *
      have HB := Lib.hid hbx
      have HBN := Lib.hid hbn
      clear hbx hbn
      go_wp2_with fail
      refine (xclone_calls b d bs hbl HBN.out _ HB.out).mono ?_
      rintro e w1 ⟨v1, rfl, ho1, hs1⟩
      obtain ⟨a1, c1, rfl, _, _, _, _⟩ := ho1.form
      have HO1 := Lib.hid ho1
      have HS1 := Lib.hid hs1
      have HQ1 := Lib.hid (HQ.out.st hs1 (Dj.no _))
      have HDJ : Hid (Dj (fpV (.slice a1 bs.length c1)) (fpL PB.v u3 qs)) := Lib.hid (fun k a b => absurd (HQ.out.in k b) (Nat.not_lt.2 (hs1.news k a)))
      clear ho1 hs1
      go_wp2_with (at_builtin; refine wpList_appL 44 infQ Try.underlying44 (by decide) rfl (.tmp 12) (.tmp 15) rfl _ qs rfl (HQ1.out.st (St.alloc' No _ _) (Dj.no _)) ⟨.slice a1 bs.length c1, bs⟩ _ rfl (Ob.alloc _ _ _) rfl (fun u hu => by rw [List.mem_singleton.1 hu]; rfl) (HO1.out.st (St.alloc' No _ _) (Dj.no _)) HDJ.out HQL.out ?_; intro V3 w3 hg3 hs3; have HG3 := Lib.hid hg3; have HS3 := Lib.hid hs3; clear hg3 hs3)
      go_roundw
      case rel => exact ⟨k + 1, qs ++ [⟨.slice a1 bs.length c1, bs⟩], by omega, by go_num, HG3, Lib.hid (HEN.out _), Lib.hid (HS.out.trans (fpL_app (St.refl No _) (HS1.out.trans (St.alloc' (fpV (.slice a1 bs.length c1)) _ _)) HS3.out))⟩
      case measure => simp [intOf]; omega
    · obtain rfl : k = L.length := by omega
      go_wp2
      go_ret
      exact ⟨_, qs, rfl, HQ.out, by rw [HE.out, List.take_length], HS.out⟩
theorem Frs.get {w : World} {a : Option Addr} {L : List (Nat × List B8)} (h : Frs w a L) {k : Nat} (hk : k < L.length) : ∃ x b c, a = some x ∧ w.cell? ((x.add (k * 2)).add 0) = some (.int .u64 ((L[k]).1 : Int)) ∧ w.cell? ((x.add (k * 2)).add 1) = some (.slice b (L[k]).2.length c) ∧ Bs w b (L[k]).2 ∧ (b = none → c = 0) ∧ (L[k]).2.length ≤ 140737488351232 := h k L[k] (List.getElem?_eq_getElem hk)
theorem Frs.st {w w' : World} {a : Option Addr} {L : List (Nat × List B8)} {F' : Nat → Prop} (h : Frs w a L) (t : St No w F' w') : Frs w' a L := by
  intro i f hf
  obtain ⟨x, b, c, h1, h2, h3, h4, h5⟩ := h i f hf
  exact ⟨x, b, c, h1, t.cellN h2, t.cellN h3, h4.st t (Dj.no _), h5⟩
set_option maxRecDepth 100000 in
set_option maxHeartbeats 1000000 in
theorem frames_calls (a : Option Addr) (c : Nat) (L : List (Nat × List B8)) (hl : L.length ≤ 4294967296) (w : World) (h : Frs w a L) :
    Calls Try.prog 51 #[.slice a L.length c] w (FrmJ w L) := by
  have H := Lib.hid h
  clear h
  go_enter Try.func51, Try.ntmps51
  go_wp2
  go_loopw [3, 8] (fun V i wr => ∃ (k : Nat) (es : List FB), k ≤ L.length ∧ i = .int .i64 k ∧ Hid (LsF wr V es) ∧ Hid (es.map (fun f => (f.seq, f.b)) = L.take k) ∧ Hid (St No w (fpL FB.v V es) wr)) (fun _ i _ => L.length - (intOf i).toNat)
  case atStart => exact ⟨0, [], by omega, rfl, Lib.hid (LsG.nil _), Lib.hid rfl, Lib.hid ((St.refl No _).drop (fun k hk => (fpL_nil hk).elim))⟩
  case round =>
    obtain ⟨k, es, hk, rfl, HQ, HE, HS⟩ := hrel
    by_cases hlt : k < L.length
    · obtain ⟨x, b, d, rfl, hcs, hcx, hbx, hbn, hbl⟩ := (H.out.st HS.out).get hlt
      have HEN : Hid (∀ v, (es ++ [FB.mk (L[k]).1 v (L[k]).2]).map (fun f => (f.seq, f.b)) = L.take (k + 1)) := Lib.hid (fun v => map_take_succ hlt HE.out (FB.mk (L[k]).1 v (L[k]).2) rfl)
      have HQL : Hid (es.length ≤ 4294967296) := Lib.hid (by have := congrArg List.length HE.out; rw [List.length_map, List.length_take] at this; omega)
      generalize L[k] = fr at *
      obtain ⟨sq, bs⟩ := fr
      simp only at hcs hcx hbx hbl HEN
      have HB := Lib.hid hbx
      have HBN := Lib.hid hbn
      have c0 : wr.cell? (x.add (k * 2)) = some (.int .u64 (sq : Int)) := hcs
      have c1 : wr.cell? ⟨(x.add (k * 2)).block, (x.add (k * 2)).off + 1, none⟩ = some (.slice b bs.length d) := hcx
      clear hbx hbn hcs hcx
      go_wp2_with fail
      have HF0 : Hid (Ob (wr.alloc (.cells #[.int .u64 (sq : Int), .slice b bs.length d] 133)) wr.heap.size 133 #[.int .u64 (sq : Int), .slice b bs.length d]) := Lib.hid (Ob.alloc _ _ _)
      have HSA : Hid (St No wr No (wr.alloc (.cells #[.int .u64 (sq : Int), .slice b bs.length d] 133))) := Lib.hid (St.alloc' No wr _)
      clear c0 c1
      go_region_held3 (fun w' => w'.cell? ⟨wr.heap.size, 0, none⟩ = some (.int .u64 (sq : Int)) ∧ w'.cell? ⟨wr.heap.size, 1, none⟩ = some (.slice b bs.length d)) (go_keep)
        (first
          | (go_at_call 77
             refine (xclone_calls b d bs hbl HBN.out _ ?_).mono ?_
             · exact Bs.move (HB.out.st HSA.out (Dj.no _)) (fun _ _ => rfl)
             rintro e w5 ⟨v5, rfl, ho5, hs5⟩
             have hs5' := HSA.out.trans ((St.drew No _).trans hs5)
             have hob5 := HF0.out.move (((St.drew No _).trans hs5).block _ HF0.out.lt (fun e => e))
             have y0 : w5.cell? ⟨wr.heap.size, 0, none⟩ = some (.int .u64 (sq : Int)) := by rw [hob5.cell 0]; rfl
             have y1 : w5.cell? ⟨wr.heap.size, 1, none⟩ = some (.slice b bs.length d) := by rw [hob5.cell 1]; rfl
             obtain ⟨a5, c5, rfl, _, _, _, _⟩ := ho5.form
             have HQ5 := Lib.hid (HQ.out.st hs5' (Dj.no _))
             have HDJ : Hid (Dj (fpV (.slice a5 bs.length c5)) (fpL FB.v u3 es)) := Lib.hid (fun k a b => absurd (HQ.out.in k b) (Nat.not_lt.2 (hs5'.news k a)))
             have HO5 := Lib.hid ho5
             have HS5 := Lib.hid hs5'
             clear ho5 hs5 hs5' hob5)
          | (refine step_appL 67 infF Try.underlying67 (by decide) rfl (.tmp 12) (.tmp 19) rfl u3 es rfl ((HQ5.out.st (St.alloc' No w5 (.cells #[.int .u64 (sq : Int), .slice a5 bs.length c5] 133)) (Dj.no _)).hp rfl) ⟨sq, .slice a5 bs.length c5, bs⟩ w5.heap.size rfl ((Ob.alloc w5 #[.int .u64 (sq : Int), .slice a5 bs.length c5] 133).move rfl) rfl (fun u hu => by simp only [FB.cells, List.mem_cons, List.not_mem_nil, or_false] at hu; rcases hu with rfl | rfl <;> rfl) ((HO5.out.st (St.alloc' No w5 (.cells #[.int .u64 (sq : Int), .slice a5 bs.length c5] 133)) (Dj.no _)).move (fun _ _ => rfl)) HDJ.out HQL.out ?_
             intro V3 w7 hg3 hs3
             have z0 : w7.cell? ⟨wr.heap.size, 0, none⟩ = some (.int .u64 (sq : Int)) := hs3.keep y0 (HQ.out.own.in.not)
             have z1 : w7.cell? ⟨wr.heap.size, 1, none⟩ = some (.slice b bs.length d) := hs3.keep y1 (HQ.out.own.in.not)
             have HG3 := Lib.hid hg3
             have HS3 := Lib.hid hs3
             clear hg3 hs3))
      all_goals go_wp2
      all_goals go_roundw
      case rel => exact ⟨k + 1, es ++ [⟨sq, .slice a5 bs.length c5, bs⟩], by omega, by go_num, HG3, Lib.hid (HEN.out _), Lib.hid (HS.out.trans (fpL_app (St.refl No _) (HS5.out.trans (St.alloc' (fpV (.slice a5 bs.length c5)) _ _)) HS3.out))⟩
      case measure => simp [intOf]; omega
    · obtain rfl : k = L.length := by omega
      go_wp2
      go_ret
      exact ⟨_, es, rfl, HQ.out, by rw [HE.out, List.take_length], HS.out⟩
end Go.Proofs.Ytjepmckofocdnaa
