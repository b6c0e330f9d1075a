
/-
  The walk over the program's writer: Block.
-/
import Derived.Test.YtfhoekcmkbeabaaCwWriter4
namespace Go.Proofs.Ytfhoekcmkbeabaa
open Go.RowKit
set_option linter.unusedVariables false
set_option linter.unusedSimpArgs false

theorem Wr.setOut3 {w w1 : World} {p : Nat} {lim err : Int} {V V' : Value} {out' : List B8} (ho : Ob w p 112 #[.int .i64 lim, V, .int .i64 err]) (hnp : ¬ fpV V p)
    (hv : OwB w1 V' out') (st : St (fpV V) w (fpV V') w1) : Ob (w1.setCell ⟨p, 1, none⟩ V') p 112 #[.int .i64 lim, V', .int .i64 err] ∧ OwB (w1.setCell ⟨p, 1, none⟩ V') V' out' ∧ ¬ fpV V' p := by
  have hlt := ho.lt
  have hn1 : ¬ fpV V' p := fun h => (st.new p h).elim hnp (fun h => absurd hlt (Nat.not_lt.2 h))
  have ho1 : Ob w1 p 112 #[.int .i64 lim, V, .int .i64 err] := ho.move (st.block p hlt hnp)
  exact ⟨ho1.set 1 _, hv.move (fun k hk => Below.heap_setCell _ _ _ _ (fun e => hn1 (by have e2 : k = p := e; rw [← e2]; exact hk))), hn1⟩

set_option maxRecDepth 100000 in
set_option maxHeartbeats 2000000 in
theorem block_h (a : Option Addr) (c : Nat) (bs : List B8) (hac : a = none → c = 0) (hbl : bs.length ≤ 140737488351232) (w : World) (F : Nat → Prop) (v : Value) (th : Bool) (s : WS) (h : Wh w F v th s) (hb : Bs w a bs) (hd : Apart F a bs) :
    Calls Try.prog 77 #[v, .slice a bs.length c] w (LayPost w F v th s (groupsB bs.length ++ bs)) := by
  have hX : ((bs.length : Nat) : Int) = ((BitVec.ofNat 64 bs.length).toNat : Int) := by rw [BitVec.toNat_ofNat, Nat.mod_eq_of_lt (by omega)]
  have hXn : (BitVec.ofNat 64 bs.length).toNat = bs.length := by rw [BitVec.toNat_ofNat, Nat.mod_eq_of_lt (by omega)]
  have HX := Lib.hid hX
  have hgr := groups_calls (BitVec.ofNat 64 bs.length)
  rw [hXn] at hgr
  have HGR := Lib.hid hgr
  have hu := Try.underlying143
  obtain ⟨hg1, hg2⟩ := groupsB_len bs.length
  have hg3 : ((groupsB bs.length).length : Int) ≤ 10 := by omega
  clear hX hXn hgr
  have HB := Lib.hid hb
  have HD := Lib.hid hd
  have HAC := Lib.hid hac
  clear hb hd hac
  rcases h with ⟨rfl, rfl, rfl⟩ | ⟨rfl, hs, p, rfl, hw⟩
  · generalize groupsB bs.length = gs at *
    go_enter Try.func77, Try.ntmps77
    go_wp2_with fail
    refine (HGR.out w).mono ?_
    rintro e w1 ⟨⟨arr, hal, htk, rfl⟩, hs1⟩
    have HAL := Lib.hid hal
    have HS1 := Lib.hid hs1
    clear hal htk hs1
    have hi2 : (Try.prog.info? 143).map (·.size) = some (bv arr).toArray.size := by rw [grpInfo, List.size_toArray, bv_len, HAL.out]
    have HI2 := Lib.hid hi2
    clear hi2
    go_wp2_with ((refine wpList_store_row rfl 143 (.tmp 4) (.tmp 11) rfl w1.heap.size _ rfl rfl _ _ (heap_alloc_new w1 _) HI2.out (by rw [bv_size arr 10 HAL.out]; rfl) (bv_one' _) ?_))
    refine (fits_nil _ _).mono ?_
    rintro e w2 ⟨rfl, rfl⟩
    go_wp2
    go_end0
    exact LayPost.nil ((HS1.out.then ((St.alloc' No w1 (.cells (bv (List.replicate 10 0#8)).toArray 143)).toNew.trans (St.setRow (F := Nw w1) _ w1.heap.size (bv arr).toArray (by simp [Nw])))).drop (fun _ h => .inl h))
  · have HP0 := Lib.hid (WS.put_eq s (groupsB bs.length ++ bs))
    have HP1 := Lib.hid (WS.put_no s (groupsB bs.length ++ bs))
    have HW := Lib.hid hw
    have HOK := Lib.hid hs
    have hll : (groupsB bs.length ++ bs).length = (groupsB bs.length).length + bs.length := List.length_append
    have HLL := Lib.hid hll
    generalize groupsB bs.length = gs at *
    clear hw hs hll
    go_enter Try.func77, Try.ntmps77
    go_wp2_with fail
    refine (HGR.out w).mono ?_
    rintro e w1 ⟨⟨arr, hal, htk, rfl⟩, hs1⟩
    have HAL := Lib.hid hal
    have HTK := Lib.hid htk
    have HS1 := Lib.hid hs1
    clear hal htk hs1
    have hi2 : (Try.prog.info? 143).map (·.size) = some (bv arr).toArray.size := by rw [grpInfo, List.size_toArray, bv_len, HAL.out]
    have HI2 := Lib.hid hi2
    clear hi2
    go_wp2_with ((refine wpList_store_row rfl 143 (.tmp 4) (.tmp 11) rfl w1.heap.size _ rfl rfl _ _ (heap_alloc_new w1 _) HI2.out (by rw [bv_size arr 10 HAL.out]; rfl) (bv_one' _) ?_))
    have hst := HS1.out.then ((St.alloc' No w1 (.cells (bv (List.replicate 10 0#8)).toArray 143)).toNew.trans (St.setRow (F := Nw w1) _ w1.heap.size (bv arr).toArray (by simp [Nw])))
    have hob := (Ob.alloc w1 (bv (List.replicate 10 0#8)).toArray 143).setRow (bv arr).toArray
    have hle := HS1.out.size
    have hwr := HW.out.st hst (Dj.no _)
    have hbs := HB.out.st hst (Dj.no _)
    have hnf : ¬ F w1.heap.size := fun hk => by have := HW.out.in _ hk; omega
    refine (fits_calls ((gs.length : Int) + (bs.length : Int)) (by omega) _ F p s HOK.out hwr).mono ?_
    rintro e w2 (⟨he, hfit, rfl, hw2, hs2⟩ | ⟨hno, rfl, hw2, hs2⟩)
    · have HST := Lib.hid ((hst.wide (F' := F) (G' := F) (fun _ h => h.elim) (fun _ hk => .inl hk)).trans hs2)
      have HB2 := Lib.hid (hbs.stA hs2 HD.out)
      have hob2 := hob.behind hnf hs2
      have HNF := Lib.hid hnf
      have hbs2 : Bs w2 (some ⟨w1.heap.size, 0, none⟩) gs := by
        have := (hob2.rd).take gs.length
        rw [List.toList_toArray, bv_take, HTK.out] at this
        exact this
      have HG2 := Lib.hid hbs2
      have HPE := Lib.hid (HP0.out he (by rw [HLL.out]; omega))
      obtain ⟨a1, c1, k0, k1, k2, f1, f2, hv, hc1, hc2, hnone, ho, hnp, hF⟩ := hw2.open
      have HV := Lib.hid hv
      have HO := Lib.hid ho
      have HN1 := Lib.hid hnp
      have HF1 := Lib.hid hF
      have hl1 : s.out.length + gs.length ≤ 140737488355328 := by have := HOK.out.hi; omega
      obtain ⟨og, hog⟩ : ∃ og, s.out ++ gs = og := ⟨_, rfl⟩
      have hl2 : og.length + bs.length ≤ 140737488355328 := by have := HOK.out.hi; rw [← hog, List.length_append]; omega
      have HOG := Lib.hid hog
      clear hog
      have HL1 := Lib.hid hl1
      have HL2 := Lib.hid hl2
      clear he hfit hw2 hs2 hv ho hnp hF hnone hc2 k0 k2 f2 hl1 hl2 hbs2 hob2 hnf hbs hwr hob hst
      go_wp2
      go_region_law (refine step_appB rfl (.tmp 23) (.tmp 25) rfl _ s.out rfl (HV.out.move (fun _ _ => rfl)) (some ⟨w1.heap.size, 0, none⟩) gs.length 10 gs rfl rfl (HG2.out.move (fun _ _ => rfl)) (fun h => by cases h) HL1.out ?_; intro v' w3 ho3 hs3 hn3; rw [HOG.out] at ho3; have HO3 := Lib.hid ho3; have HS3 := Lib.hid hs3; clear ho3 hs3 hn3; have hob3 := (HO.out.drew).behind HN1.out HS3.out; have k1' := hob3.cell 1; have f1' := hob3.free 1; simp only [List.getElem?_toArray, List.getElem?_cons_zero, List.getElem?_cons_succ] at k1'; obtain ⟨a', c', rfl, _, _, _, _⟩ := HO3.out.form; clear hob3)
      all_goals
        obtain ⟨hob4, hv4, hn4⟩ := Wr.setOut3 (HO.out.drew) HN1.out HO3.out HS3.out
        have hst4 := (Wr.setOut (s := s) (HO.out.drew) HN1.out HF1.out HO3.out HS3.out).2
        have HB4 := Lib.hid ((HB2.out.drew).stA hst4 HD.out)
        have HO4 := Lib.hid hob4
        have HV4 := Lib.hid hv4
        have HN4 := Lib.hid hn4
        have HST4 := Lib.hid hst4
        clear hob4 hv4 hn4 hst4
        go_wp2_with (at_builtin; refine wpList_appB rfl (.tmp 33) (.tmp 34) rfl _ og rfl HV4.out a bs.length c bs rfl rfl HB4.out HAC.out HL2.out ?_; intro v'' w5 ho5 hs5 hn5; have HO5 := Lib.hid ho5; have HS5 := Lib.hid hs5; clear ho5 hs5 hn5; have hob := HO4.out.behind HN4.out HS5.out; have k1' := hob.cell 1; have f1' := hob.free 1; simp only [List.getElem?_toArray, List.getElem?_cons_zero, List.getElem?_cons_succ] at k1'; obtain ⟨a'', c'', rfl, _, _, _, _⟩ := HO5.out.form; clear hob)
        go_end0
        have hfin := Wr.setOut (F := fun k => k = p ∨ fpV (.slice a' og.length c') k) (s := { s with out := og }) HO4.out HN4.out (fun k => Iff.rfl) HO5.out HS5.out
        rw [List.length_append] at hfin
        refine PutPost.lay HOK.out ⟨rfl, ?_⟩
        rw [HPE.out, ← List.append_assoc, HOG.out]
        exact ⟨_, hfin.1, HST.out.trans ((St.drew F w2).trans (HST4.out.trans hfin.2))⟩
    · have HPE := Lib.hid (HP1.out (by rw [HLL.out]; intro h; exact hno ⟨h.1, by have := h.2; omega⟩))
      have HST := Lib.hid ((hst.wide (F' := F) (G' := F) (fun _ h => h.elim) (fun _ hk => .inl hk)).trans hs2)
      have HW2 := Lib.hid hw2
      clear hno hw2 hs2 hbs hwr hob hst hnf
      go_wp2
      go_end0
      refine PutPost.lay HOK.out ⟨rfl, F, ?_, HST.out⟩
      rw [HPE.out]
      exact HW2.out

end Go.Proofs.Ytfhoekcmkbeabaa
