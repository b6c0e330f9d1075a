
/-
  Lists of bodies that were handed in: do they fit, and their frames.
-/
import Derived.Test.YtfhoekcmkbeabaaCwBodies
import Derived.Test.YtfhoekcmkbeabaaCwLists
import Derived.Test.YtfhoekcmkbeabaaCwSteps
import Derived.Test.YtfhoekcmkbeabaaCwTorn
import Derived.Test.YtfhoekcmkbeabaaRowLists
namespace Go.Proofs.Ytfhoekcmkbeabaa
open Go.RowKit
set_option linter.unusedVariables false
set_option linter.unusedSimpArgs false

theorem flatB_sum (L : List (List B8)) : (flatB L).length = sumLen L := by
  induction L with
  | nil => rfl
  | cons b l ih => simp [flatB, sumLen, frameB_len, ih]; omega
theorem sum_many (L : List (List B8)) : L.length ≤ sumLen L := by rw [← flatB_sum]; exact flat_many L
theorem flat_succ (L : List (List B8)) (k : Nat) (b : List B8) (h : L[k]? = some b) : flatB (L.take (k + 1)) = flatB (L.take k) ++ frameB b := by
  rw [List.take_add_one, h, flatB_app]
  simp [flatB]
/-- where each frame ends -/
def endsV (L : List (List B8)) (k : Nat) : List Value := (List.range k).map fun i => .int .i64 ((flatB (L.take (i + 1))).length : Int)
theorem endsV_len (L : List (List B8)) (k : Nat) : (endsV L k).length = k := by simp [endsV]
theorem endsV_succ (L : List (List B8)) (k : Nat) : endsV L (k + 1) = endsV L k ++ [.int .i64 ((flatB (L.take (k + 1))).length : Int)] := by simp [endsV, List.range_succ]
theorem endsV_at (L : List (List B8)) (k i : Nat) (h : i < k) : (endsV L k)[i]? = some (.int .i64 ((flatB (L.take (i + 1))).length : Int)) := by simp [endsV, h]
theorem Lists.at {w : World} {a : Option Addr} {L : List (List B8)} (h : Lists w a L) {k : Nat} (hk : k < L.length) : ∃ x b c xs, L[k]? = some xs ∧ a = some x ∧ w.cell? (x.add k) = some (.slice b xs.length c) ∧ Bs w b xs ∧ (b = none → c = 0) ∧ xs.length ≤ 140737488351232 := by
  obtain ⟨x, b, c, h1, h2, h3, h4, h5⟩ := h k L[k] (List.getElem?_eq_getElem hk)
  exact ⟨x, b, c, _, List.getElem?_eq_getElem hk, h1, h2, h3, h4, h5⟩
/-- may all bodies be framed? -/
def fitsB (L : List (List B8)) : Bool := L.all fun b => decide (b.length ≤ 16777208)
theorem fitsB_iff (L : List (List B8)) : fitsB L = true ↔ ∀ b ∈ L, b.length ≤ 16777208 := by simp [fitsB]

set_option maxRecDepth 100000 in
set_option maxHeartbeats 1000000 in
theorem bodsFit_calls (a : Option Addr) (c : Nat) (L : List (List B8)) (hL : L.length ≤ 140737488351232) (w : World) (h : Lists w a L) :
    Calls Try.prog 42 #[.slice a L.length c] w fun e w' => e = .returned (.bool (fitsB L)) ∧ Dr w w' := by
  have HL := Lib.hid h
  clear h
  go_enter Try.func42, Try.ntmps42
  go_wp2
  go_loopw [3] (fun i wr => ∃ k : Nat, k ≤ L.length ∧ i = .int .i64 k ∧ Hid (∀ j b, j < k → L[j]? = some b → b.length ≤ 16777208) ∧ Hid (Dr w wr)) (fun i _ => L.length - (intOf i).toNat)
  case atStart => exact ⟨0, by omega, rfl, Lib.hid (fun j b hj => by omega), Lib.hid (Dr.refl _)⟩
  case round =>
    obtain ⟨k, hk, rfl, HK, HDR⟩ := hrel
    by_cases hlt : k < L.length
    · obtain ⟨x, b, d, xs, hxs, rfl, hc, hb, hbn, hxl⟩ := (HL.out.st (HDR.out.st No)).at hlt
      have HXS := Lib.hid hxs
      have hlt2 : (k : Int) < (L.length : Int) := by omega
      clear hxs hb hbn
      by_cases hs : xs.length ≤ 16777208
      · go_wp2
        refine ⟨⟨k + 1, by omega, by go_num, Lib.hid ?_, Lib.hid HDR.out⟩, by simp [intOf]; omega⟩
        intro j b hj hb
        by_cases hjk : j = k
        · subst hjk
          rw [HXS.out] at hb
          cases hb
          exact hs
        · exact HK.out j b (by omega) hb
      · go_wp2
        go_ret
        refine ⟨?_, HDR.out⟩
        have : fitsB L = false := by
          rw [Bool.eq_false_iff]
          intro hf
          exact hs ((fitsB_iff L).1 hf xs (List.mem_of_getElem? HXS.out))
        rw [this]; rfl
    · obtain rfl : k = L.length := by omega
      go_wp2
      go_ret
      refine ⟨?_, HDR.out⟩
      have : fitsB L = true := (fitsB_iff L).2 (fun b hb => by
        obtain ⟨j, hj, e⟩ := List.mem_iff_getElem.1 hb
        exact HK.out j b hj (by rw [List.getElem?_eq_getElem hj, e]))
      rw [this]; rfl

def FramedPost (w : World) (L : List (List B8)) (e : Ending) (w' : World) : Prop :=
  ∃ Va Ve, e = .returned (.tuple #[Va, Ve, .bool true]) ∧ OwB w' Va (flatB L) ∧ Own w' 3 1 Ve L.length (endsV L L.length) ∧ St No w No w' ∧ ∃ a1 c1 a2 c2, Va = .slice a1 (flatB L).length c1 ∧ Ve = .slice a2 L.length c2 ∧ (a1 = none → c1 = 0)
theorem intinfo : (Try.prog.info? 3).map (fun i => (i.zero, i.size, i.bytes)) = some (some (.int .i64 0), 1, 8) := by kernel_rfl

set_option maxRecDepth 100000 in
set_option maxHeartbeats 4000000 in
theorem framed_calls (a : Option Addr) (c : Nat) (L : List (List B8)) (hs : sumLen L ≤ 9437184) (hf : fitsB L = true) (w : World) (h : Lists w a L) :
    Calls Try.prog 43 #[.slice a L.length c] w (FramedPost w L) := by
  have HL := Lib.hid h
  have HF := Lib.hid ((fitsB_iff L).1 hf)
  have HSM := Lib.hid (flatB_sum L)
  have hm := sum_many L
  have HTK := Lib.hid (flat_take_len L)
  clear h hf
  obtain ⟨i0, hi0, hz0, hsz0, hby0⟩ := info_parts intinfo
  have HI := Lib.hid (And.intro hi0 (And.intro hz0 (And.intro hsz0 hby0)))
  clear hi0 hz0 hsz0 hby0
  go_enter Try.func43, Try.ntmps43
  go_wp2
  go_loopw [5, 6, 7] (fun Va Ve i wr => ∃ k : Nat, k ≤ L.length ∧ i = .int .i64 k ∧ Hid (OwB wr Va (flatB (L.take k))) ∧ Hid (Own wr 3 1 Ve k (endsV L k)) ∧ Hid (St No w (fun j => fpV Va j ∨ fpV Ve j) wr) ∧ Hid (Dj (fpV Va) (fpV Ve))) (fun _ _ i _ => L.length - (intOf i).toNat)
  case atStart => exact ⟨0, by omega, rfl, Lib.hid (OwB.nil _), Lib.hid (Own.nil _ _ _), Lib.hid ((St.refl No w).drop (by rintro k (hk | hk) <;> simp [fpV, Value.ownBlock] at hk)), Lib.hid (by intro k hk; simp [fpV, Value.ownBlock] at hk)⟩
  case round =>
    obtain ⟨k, hk, rfl, HOA, HOE, HST, HDJ⟩ := hrel
    obtain ⟨aa, ca, rfl, hca1, hca2, hca3, hca4⟩ := HOA.out.form
    obtain ⟨ae, ce, rfl, hce1, hce2, hce3, hce4⟩ := HOE.out.form
    have HC4 := Lib.hid hca4
    clear hca1 hca2 hca3 hca4 hce1 hce2 hce3 hce4
    by_cases hlt : k < L.length
    · obtain ⟨x, b, d, xs, hxs, rfl, hc, hb, hbn, hxl⟩ := (HL.out.st (HST.out.drop (G' := No) (fun _ h => h.elim))).at hlt
      have hfx : xs.length ≤ 16777208 := HF.out xs (List.mem_of_getElem? hxs)
      have HFS := Lib.hid (flat_succ L k xs hxs)
      have hft := HTK.out (k + 1)
      rw [flat_succ L k xs hxs, HSM.out, List.length_append, frameB_len] at hft
      have hFC := frame_calls b d xs hxl hbn wr hb
      unfold FramePost frameE frameO at hFC
      rw [if_pos hfx, if_pos hfx] at hFC
      have HFC := Lib.hid hFC
      have HFL := Lib.hid (frameB_len xs)
      have HXS := Lib.hid hxs
      have hlt2 : (k : Int) < (L.length : Int) := by omega
      have HES := Lib.hid (endsV_succ L k)
      have HTL : Hid ((flatB (L.take (k + 1))).length = (flatB (L.take k)).length + (8 + xs.length)) := Lib.hid (by rw [flat_succ L k xs hxs, List.length_append, frameB_len])
      clear hxs hb hFC
      generalize frameB xs = fx at *
      generalize hnx : flatB (L.take (k + 1)) = nx at *
      generalize flatB (L.take k) = pre at *
      generalize endsV L k = ev at *
      generalize hev : endsV L (k + 1) = ev1 at *
      have HNX := Lib.hid hnx
      have HEV := Lib.hid hev
      clear hnx hev
      go_wp2_with fail
      refine HFC.out.mono ?_
      rintro e w2 ⟨v2, rfl, ho2, hs2⟩
      obtain ⟨a2, c2, rfl, _, _, hfp2, hn2⟩ := ho2.form
      have HN2 := Lib.hid hn2
      have HS2 := Lib.hid hs2
      have HB2 : Hid (Bs w2 a2 fx) := Lib.hid ho2.bs
      have HA2 : Hid (OwB w2 (.slice aa pre.length ca) pre) := Lib.hid (HOA.out.st hs2 (Dj.no _))
      have HE2 : Hid (Own w2 3 1 (.slice ae k ce) k ev) := Lib.hid (HOE.out.st hs2 (Dj.no _))
      have HC2 : Hid (w2.cell? (x.add k) = some (.slice b xs.length d)) := Lib.hid (by
        have hl := World.block_lt_of_cell? wr _ hc
        rw [World.cell?_of_block (w := wr)]
        · exact hc
        · exact hs2.block _ hl (fun hf => hf))
      have hc2 := HC2.out
      rw [HFL.out]
      clear hn2 hfp2 ho2 hs2 hc
      go_wp2_with (first
        | (go_at_call 32; refine (num_calls 0 _).mono ?_; rintro e w4 ⟨rfl, rfl⟩)
        | (at_builtin; refine wpList_appB rfl (.tmp 38) (.tmp 39) rfl _ pre rfl HA2.out a2 (8 + xs.length) c2 fx rfl HFL.out.symm HB2.out (fun h => (HN2.out h).2) (by rw [HFL.out]; omega) ?_; intro v3 w3 ho3 hs3 hn3; rw [← HFS.out] at ho3; obtain ⟨a3, c3, rfl, _, _, _, hn3x⟩ := ho3.form; have HO3 := Lib.hid ho3; have HS3 := Lib.hid hs3; clear ho3 hs3 hn3 hn3x)
        | (at_builtin; go_loud (refine wpList_app rfl (.tmp 41) (.tmp 44) 68 rfl 3 i0 (.int .i64 0) 1 8 Try.underlying68 HI.out.1 HI.out.2.1 HI.out.2.2.1 HI.out.2.2.2 rfl (by decide) (.slice ae k ce) k ev rfl ((HE2.out.st HS3.out HDJ.out).st (St.alloc' No w3 _) (Dj.no _)) (some ⟨w3.heap.size, 0, none⟩) 1 1 [.int .i64 (nx.length : Int)] rfl ⟨rfl, (Ob.alloc w3 _ _).rd, fun u hu => by simp at hu; subst hu; rfl⟩ (fun h => by cases h) (by unfold maxLen; omega) (by omega) ?_); intro v5 w5 ho5 hs5 hn5; have HO5 := Lib.hid ho5; have HS5 := Lib.hid hs5; clear ho5 hs5 hn5))
      have HJ3 : Hid (Dj (fpV (.slice ae k ce)) (fpV (.slice a3 nx.length c3))) := Lib.hid (by
        intro j he h3
        rcases HS3.out.new j h3 with h | h
        · exact HDJ.out j h he
        · exact absurd (HE2.out.in j he) (Nat.not_lt.2 h))
      refine ⟨⟨k + 1, by omega, by go_num, Lib.hid (by rw [HNX.out]; exact (HO3.out.st (St.alloc' No w3 _) (Dj.no _)).st HS5.out HJ3.out), Lib.hid ?_, Lib.hid ?_, Lib.hid ?_⟩, by simp [intOf]; omega⟩
      · rw [HEV.out, HES.out]; exact HO5.out
      · have t2 := HS2.out.wide (F' := fun j => fpV (.slice aa pre.length ca) j ∨ fpV (.slice ae k ce) j) (G' := fun j => fpV (.slice aa pre.length ca) j ∨ fpV (.slice ae k ce) j) (fun _ h => h.elim) (fun k hk => .inl hk)
        have t3 := HS3.out.wide (F' := fun j => fpV (.slice aa pre.length ca) j ∨ fpV (.slice ae k ce) j) (G' := fun j => fpV (.slice a3 nx.length c3) j ∨ fpV (.slice ae k ce) j) (fun _ h => .inl h) (fun k hk => hk.elim .inr (fun h => .inl (.inr h)))
        have t4 := HS5.out.wide (F' := fun j => fpV (.slice a3 nx.length c3) j ∨ fpV (.slice ae k ce) j) (G' := fun j => fpV (.slice a3 nx.length c3) j ∨ fpV v5 j) (fun _ h => .inr h) (fun k hk => hk.elim (fun h => .inl (.inl h)) .inr)
        exact (((HST.out.trans t2).trans t3).trans (St.alloc' _ w3 _)).trans t4
      · intro j h3 h5
        rcases HS5.out.new j h5 with h | h
        · exact HJ3.out j h h3
        · have := HO3.out.in j h3
          simp at h
          omega
    · obtain rfl : k = L.length := by omega
      have HTL := Lib.hid (List.take_length (l := L))
      go_wp2
      go_ret3
      exact ⟨_, _, rfl, by have := HOA.out; rw [HTL.out] at this ⊢; exact this, HOE.out, HST.out.drop (fun _ h => h.elim), aa, ca, ae, ce, by rw [HTL.out]; rfl, rfl, fun h => (HC4.out h).2⟩
end Go.Proofs.Ytfhoekcmkbeabaa
