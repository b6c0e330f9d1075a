
/-
  The walk over the program's Frames.
-/
import Derived.Test.YtfhoekcmkbeabaaCwBodies
import Derived.OwnWalk
namespace Go.Proofs.Ytfhoekcmkbeabaa
open Go.RowKit
set_option linter.unusedVariables false
set_option linter.unusedSimpArgs false

def FramesPost (w : World) (bs : List B8) (e : Ending) (w' : World) : Prop :=
  ∃ V D, e = .returned (.tuple #[V, .int .i64 ((framesB bs.length bs).2.1 : Int), .int .i64 (framesB bs.length bs).2.2]) ∧ Bods w' V D (framesB bs.length bs).1 ∧ St No w No w'
/-- what a round of the loop knows: the bodies so far, where it stands -/
structure FrAt (bs : List B8) (bods : List (List B8)) (k f : Nat) : Prop where
  le : k ≤ bs.length
  fuel : bs.length ≤ k + f
  few : bods.length ≤ k
  same : framesB bs.length bs = (bods ++ (framesB f (bs.drop k)).1, k + (framesB f (bs.drop k)).2.1, (framesB f (bs.drop k)).2.2)
theorem FrAt.start (bs : List B8) : FrAt bs [] 0 bs.length := ⟨Nat.zero_le _, by omega, Nat.le_refl _, by simp⟩
theorem FrAt.next {bs : List B8} {bods : List (List B8)} {k f : Nat} (h : FrAt bs bods k f) (hk : k < bs.length) (h0 : wholeE (bs.drop k) = 0) :
    FrAt bs (bods ++ [wholeO (bs.drop k)]) (k + (8 + (wholeO (bs.drop k)).length)) (f - 1) := by
  have hl := wholeE_len h0
  rw [List.length_drop] at hl
  have hf : f ≠ 0 := by have := h.fuel; omega
  obtain ⟨f, rfl⟩ := Nat.exists_eq_succ_of_ne_zero hf
  refine ⟨by omega, by have := h.fuel; omega, by have := h.few; simp; omega, ?_⟩
  rw [h.same]
  have hne : bs.drop k ≠ [] := by intro he; have := congrArg List.length he; simp at this; omega
  have e : framesB (f + 1) (bs.drop k) = (wholeO (bs.drop k) :: (framesB f ((bs.drop k).drop (8 + (wholeO (bs.drop k)).length))).1, 8 + (wholeO (bs.drop k)).length + (framesB f ((bs.drop k).drop (8 + (wholeO (bs.drop k)).length))).2.1, (framesB f ((bs.drop k).drop (8 + (wholeO (bs.drop k)).length))).2.2) := by
    show (if bs.drop k = [] then _ else _) = _
    rw [if_neg hne, if_pos h0]
  rw [e, List.drop_drop]
  simp only [Nat.succ_sub_one, List.append_assoc, List.singleton_append, Nat.add_assoc]
theorem FrAt.done {bs : List B8} {bods : List (List B8)} {k f : Nat} (h : FrAt bs bods k f) (hk : k = bs.length) : framesB bs.length bs = (bods, k, 0) := by
  rw [h.same, List.drop_eq_nil_of_le (by omega)]
  cases f <;> simp [framesB]
theorem FrAt.stop {bs : List B8} {bods : List (List B8)} {k f : Nat} (h : FrAt bs bods k f) (hk : k < bs.length) (h0 : ¬ wholeE (bs.drop k) = 0) : framesB bs.length bs = (bods, k, wholeE (bs.drop k)) := by
  have hf : f ≠ 0 := by have := h.fuel; omega
  obtain ⟨f, rfl⟩ := Nat.exists_eq_succ_of_ne_zero hf
  have hne : bs.drop k ≠ [] := by intro he; have := congrArg List.length he; simp at this; omega
  rw [h.same]
  have e : framesB (f + 1) (bs.drop k) = ([], 0, wholeE (bs.drop k)) := by
    show (if bs.drop k = [] then _ else _) = _
    rw [if_neg hne, if_neg h0]
  rw [e]
  simp

set_option maxRecDepth 100000 in
set_option maxHeartbeats 2000000 in
theorem frames_calls (a : Option Addr) (c : Nat) (bs : List B8) (hn : bs.length ≤ 4294967296) (w : World) (hb : Bs w a bs) :
    Calls Try.prog 40 #[.slice a bs.length c] w (FramesPost w bs) := by
  have HB := Lib.hid hb
  clear hb
  go_enter Try.func40, Try.ntmps40
  go_wp2_with (first
    | (at_make; refine wpList_makeB rfl (.tmp 11) (.tmp 11) rfl .i64 .i64 (bs.length : Int) (bs.length : Int) bs.length bs.length rfl rfl rfl rfl (Nat.le_refl _) (by omega) ?_; intro w1 ho1 hob1 hs1; have HO1 := Lib.hid ho1; have HS1 := Lib.hid hs1; clear ho1 hob1 hs1)
    | (refine wpList_copyB rfl (.tmp 13) (.tmp 14) rfl w.heap.size bs.length bs.length (List.replicate bs.length 0#8) rfl HO1.out (by simp) a bs.length c bs rfl rfl (HB.out.st HS1.out (Dj.no _)) (by simp) ?_; intro w2 ho2 hs2; have HO2 := Lib.hid ho2; have HS2 := Lib.hid hs2; clear ho2 hs2))
  have HBB : Hid (Bs w2 (some ⟨w.heap.size, 0, none⟩) bs) := Lib.hid (by
    have := HO2.out
    rw [List.drop_eq_nil_of_le (by simp), List.append_nil] at this
    exact this.bs)
  have HST : Hid (St No w No w2) := Lib.hid (((HS1.out.trans (HS2.out.wide (F' := fpV (.slice (some ⟨w.heap.size, 0, none⟩) bs.length bs.length)) (fun k hk => by subst hk; simp [fpV, Value.ownBlock]) (fun _ h => .inr h)))).drop (fun _ h => h.elim))
  have HSZ : Hid (w.heap.size < w2.heap.size) := Lib.hid (HO2.out.in _ (by simp [fpV, Value.ownBlock]))
  clear HO1 HS1 HO2 HS2 HB
  go_loopw [6, 7] (fun V i wr => ∃ k f : Nat, ∃ bods : List (List B8), i = .int .i64 k ∧ Hid (FrAt bs bods k f) ∧ Hid (Bods wr V (fun k => k = w.heap.size) bods) ∧ Hid (Bs wr (some ⟨w.heap.size, 0, none⟩) bs) ∧ Hid (St No w (fpV V) wr) ∧ Hid (w.heap.size < wr.heap.size)) (fun _ i _ => bs.length - (intOf i).toNat)
  case atStart => exact ⟨0, bs.length, [], rfl, Lib.hid (FrAt.start bs), Lib.hid (Bods.nil _ _), HBB, Lib.hid (HST.out.drop (fun k hk => by simp [fpV, Value.ownBlock] at hk)), HSZ⟩
  case round =>
    clear HBB HST HSZ
    obtain ⟨k, f, bods, rfl, HFR, HBO, HBB, HST, HSZ⟩ := hrel
    have hk := HFR.out.le
    by_cases hlt : k < bs.length
    · have hdl : (bs.drop k).length = bs.length - k := by simp
      have hwc := whole_calls (some ⟨w.heap.size, k, none⟩) (bs.length - k) (bs.drop k) (by omega) (by omega) (by unfold maxLen; omega) (fun h => by cases h) wr (fun j => j = w.heap.size) (by rintro j ⟨x, hx, rfl⟩; cases hx; rfl) (by rintro j rfl; exact HSZ.out)
        (by
          have h := HBB.out.drop k
          have e : (some ⟨w.heap.size, 0, none⟩ : Option Addr).map (fun x => x.add k) = some ⟨w.heap.size, k, none⟩ := by
            simp only [Option.map_some, Addr.add]
            split <;> simp_all
          rw [e] at h
          exact h)
      rw [hdl] at hwc
      unfold WholePost at hwc
      have HWC := Lib.hid hwc
      have HNEXT := Lib.hid (HFR.out.next hlt)
      have HSTOP := Lib.hid (HFR.out.stop hlt)
      have HWL := Lib.hid (wholeE_len (bs := bs.drop k))
      have hfew := HFR.out.few
      clear hwc hdl
      generalize wholeO (bs.drop k) = body at *
      generalize wholeE (bs.drop k) = E at *
      go_wp2_with fail
      refine HWC.out.mono ?_
      rintro e w3 ⟨hs3, b, rfl, hb, hbD, hbn⟩
      have HS3 := Lib.hid hs3
      have HB3 := Lib.hid hb
      have HBD := Lib.hid hbD
      have HBN := Lib.hid hbn
      have HBO3 : Hid (Bods w3 u6 (fun k => k = w.heap.size) bods) := Lib.hid (HBO.out.st hs3 (Dj.no _) (Dj.no _))
      clear hs3 hb hbD hbn
      by_cases hE : E = 0
      · subst hE
        have HN2 := Lib.hid (HNEXT.out rfl)
        have hwl := HWL.out rfl
        rw [List.length_drop] at hwl
        go_wp2_with (at_builtin; go_loud (refine wpList_appS rfl (.tmp 32) (.tmp 34) rfl u6 (fun k => k = w.heap.size) bods rfl (HBO3.out.st (St.alloc' No w3 _) (Dj.no _) (Dj.no _)) (by rintro j rfl; have := HS3.out.size; have := HSZ.out; simp; omega) w3.heap.size b body.length body rfl (Ob.alloc w3 _ _) (HB3.out.st (St.alloc' No w3 _) (Dj.no _)) HBD.out HBN.out (by omega) ?_); intro V' w4 ho4 hs4; have HO4 := Lib.hid ho4; have HS4 := Lib.hid hs4; clear ho4 hs4)
        refine ⟨⟨k + (8 + body.length), f - 1, bods ++ [body], by simp, HN2, HO4, Lib.hid ?_, Lib.hid ?_, Lib.hid ?_⟩, by simp [intOf]; omega⟩
        · exact ((HBB.out.st HS3.out (Dj.no _)).st (St.alloc' No w3 _) (Dj.no _)).st HS4.out (by
            obtain ⟨_, _, _, _, hd⟩ := HBO3.out
            rintro j hj ⟨x, hx, rfl⟩
            cases hx
            exact hd _ hj rfl)
        · exact HST.out.trans (((HS3.out.wide (F' := fpV u6) (fun _ h => h.elim) (fun k hk => .inl hk)).trans (St.alloc' (fpV u6) w3 _)).trans HS4.out)
        · have h1 := HS4.out.size
          have h2 := HS3.out.size
          have h3 := HSZ.out
          simp at h1
          omega
      · have hEb : (E != 0) = true := by rw [bne_iff_ne]; exact hE
        have HST2 := Lib.hid (HSTOP.out hE)
        clear hE
        go_wp2
        go_ret3
        exact ⟨u6, _, by rw [HST2.out]; rfl, by rw [HST2.out]; exact HBO3.out, (HST.out.drop (fun _ h => h.elim)).trans HS3.out⟩
    · obtain rfl : k = bs.length := by omega
      have HD := Lib.hid (HFR.out.done rfl)
      go_wp2
      go_ret3
      exact ⟨u6, _, by rw [HD.out]; rfl, by rw [HD.out]; exact HBO.out, HST.out.drop (fun _ h => h.elim)⟩
end Go.Proofs.Ytfhoekcmkbeabaa
