
/-
  FragOldest, walked: it returns true.
-/
import Derived.Test.YtoeafacamapofaaJnOld
import Derived.Test.YtoeafacamapofaaJnRest
import Derived.Test.YtoeafacamapofaaJnNew
import Derived.Test.YtoeafacamapofaaLyDrop
import Derived.Test.YtoeafacamapofaaWFragSizes
namespace Go.Proofs.Ytoeafacamapofaa
open Go.RowKit
set_option linter.unusedVariables false
set_option linter.unusedSimpArgs false

def ivn (L : List Nat) : List Value := L.map fun (n : Nat) => .int .i64 (n : Int)
theorem ivn_len (L : List Nat) : (ivn L).length = L.length := by simp [ivn]
/-- the slots behind i of the first loop's rounds -/
def stA (base : BitVec 64) (sl i : Nat) : List PS := (if i ≤ sl then List.range i else List.range' 1 sl).map (slotO base)
theorem range_cons (n : Nat) (h : 1 ≤ n) : List.range n = 0 :: List.range' 1 (n - 1) := by
  obtain ⟨m, rfl⟩ : ∃ m, n = m + 1 := ⟨n - 1, by omega⟩
  rw [List.range_eq_range', List.range'_succ]
  rfl
theorem stA_step {base : BitVec 64} {sl i : Nat} (h1 : 1 ≤ sl) (h16 : sl ≤ 16) (hi : i ≤ sl) : takeP sl (stA base sl i) 3 (dgO base i (i % 2)) = ⟨[], false, 0, stA base sl (i + 1)⟩ := by
  unfold stA
  rw [if_pos hi]
  by_cases h : i < sl
  · rw [if_pos (by omega), old_room (fun j hj => by have := List.mem_range.1 hj; omega) (by omega) (by simpa using h), List.range_succ]
  · obtain rfl : i = sl := by omega
    rw [if_neg (by omega), range_cons i h1, old_full]
    · congr 2
      have := List.range'_append (s := 1) (m := i - 1) (n := 1) (step := 1)
      rw [show i - 1 + 1 = i by omega] at this
      rw [← this]
      simp
      omega
    · intro k hk
      rw [← range_cons i h1] at hk
      have := List.mem_range.1 hk
      omega
    · rw [← range_cons i h1]
      exact List.nodup_range
    · omega
    · simp
      omega
def TwoPost (W : World) (base : BitVec 64) (i : Nat) (e : Ending) (w' : World) : Prop :=
  ∃ g c, e = .returned (.slice (some ⟨g, 0, none⟩) 2 c) ∧ (∀ p, p < 2 → ∃ ap cp, w'.cell? ⟨g, p, none⟩ = some (.slice ap (dgO base i p).length cp) ∧ Bs w' ap (dgO base i p) ∧ (dgO base i p).length ≤ cp ∧ cp ≤ maxLen) ∧ St No W No w'
theorem two_old (base : BitVec 64) (i : Nat) (W : World) : Calls Try.prog 58 #[.int .u64 ((idO base i).toNat : Int), .int .u8 7] W (TwoPost W base i) := by
  refine Calls.mono (two4_calls (idO base i) 7#8 W) ?_
  rintro e w' ⟨V, vs, rfl, hg, hs⟩
  have hsp : splitB (twoP (idO base i) 7#8 60) (idO base i) 64 = splitL (pkO base i) (idO base i) 2 := by
    have hl := pkO_len base i
    have hfit : fitsN (pkO base i).length 64 = true := by rw [hl]; rfl
    obtain ⟨m, hm, m1, m2, m3, m4, m5, m6⟩ := fits_yes (id := idO base i) hfit
    obtain rfl : m = 64 := by omega
    have hC : countN (pkO base i).length 64 = 2 := by rw [hl]; rfl
    rw [hC] at m6
    exact m6
  rw [hsp] at hg
  obtain ⟨a, c, rfl⟩ := hg.form
  rw [splitL_len] at hg ⊢
  obtain ⟨g, rfl⟩ : ∃ g, a = some ⟨g, 0, none⟩ := by
    rcases hg.own.2 with ⟨h, _⟩ | ⟨g, cap, cur, h, _⟩
    · simp at h
    · simp at h
      exact ⟨g, h.1⟩
  refine ⟨g, c, rfl, fun p hp => ?_, hs.drop (fun _ h => h.elim)⟩
  obtain ⟨v, hv, how⟩ := hg.get p (by rw [splitL_len]; exact hp)
  have hd : (splitL (pkO base i) (idO base i) 2)[p]'(by rw [splitL_len]; exact hp) = dgO base i p := by
    have h1 := splitL_get (pkO base i) (idO base i) 2 p hp
    rw [List.getElem?_eq_getElem (by rw [splitL_len]; exact hp)] at h1
    exact Option.some.inj h1
  rw [hd] at how
  obtain ⟨ap, cp, rfl, q1, q2, _, _⟩ := how.form
  exact ⟨ap, cp, hg.own.cellAt p _ hv, how.bs, q1, q2⟩
theorem idO_val (base : BitVec 64) (i : Nat) (hi : i < 65536) : IntKind.u64.wrap ((base.toNat : Int) + (i : Int)) = ((idO base i).toNat : Int) := by
  unfold idO
  rw [BitVec.toNat_add, BitVec.toNat_ofNat, wrap_u64]
  omega
theorem two_oldw (base : BitVec 64) (i : Nat) (hi : i < 65536) (W : World) : Calls Try.prog 58 #[.int .u64 (IntKind.u64.wrap ((base.toNat : Int) + (i : Int))), .int .u8 7] W (TwoPost W base i) := by
  rw [idO_val base i hi]
  exact two_old base i W
theorem Own.block' {w : World} {e size : Nat} {a : Option Addr} {n c : Nat} {xs : List Value} (h : Own w e size (.slice a n c) n xs) (hn : 0 < n) : ∃ g, a = some ⟨g, 0, none⟩ := by
  rcases h.2 with ⟨h, _⟩ | ⟨g, cap, cur, h, _⟩
  · simp at h; omega
  · simp at h; exact ⟨g, h.1⟩
theorem ivn_one (L : List Nat) : ∀ u ∈ ivn L, u.oneCell' = true := by
  intro u hu
  obtain ⟨n, _, rfl⟩ := List.mem_map.1 hu
  rfl
theorem Own.cast1 {w : World} {e : Nat} {v : Value} {n m : Nat} {xs ys : List Value} (h : Own w e 1 v n xs) (hx : xs = ys) (hm : ys.length = m) : Own w e 1 v m ys := by
  subst hx
  have h1 := h.1
  rw [Nat.mul_one] at h1
  have : n = m := by rw [← hm, h1]
  rw [← this]
  exact h
theorem pkO_first (base : BitVec 64) (i : Nat) (h : 0 < (pkO base i).length) (hi : i < 65536 := by omega) : (((pkO base i)[0]).toNat : Int) = (7 + IntKind.u64.wrap ((base.toNat : Int) + (i : Int))) % 256 := by
  rw [wrap_u64]
  have e : (pkO base i)[0] = 7#8 + BitVec.ofNat 8 0 + (idO base i).setWidth 8 := by simp [pkO, twoP]
  rw [e]
  unfold idO
  simp [BitVec.toNat_add, BitVec.toNat_setWidth, BitVec.toNat_ofNat]
  try omega
theorem OwI.empty (w : World) : Own (w.alloc (.cells #[] 3)) 3 1 (.slice (some ⟨w.heap.size, 0, none⟩) 0 0) 0 [] := by
  have h := Ob.alloc w #[] 3
  exact ⟨rfl, .inr ⟨w.heap.size, 0, #[], rfl, Nat.zero_le _, h, by simp, by unfold maxLen; omega, by simp, by simp⟩⟩
set_option maxRecDepth 100000 in
set_option maxHeartbeats 4000000 in
theorem fragOldest_walk (slots : Int) (base : BitVec 64) (oa : Option Addr) (oc : Nat) (os : List Int) (hos : os.length ≤ 35184372088832) (hwf : ∀ i ∈ os, -9223372036854775808 ≤ i ∧ i ≤ 9223372036854775807) (w : World) (hi : Is w oa os) :
    Calls Try.prog 14 #[.int .i64 slots, .int .u64 (base.toNat : Int), .slice oa os.length oc] w fun e w' => e = .returned (.bool true) ∧ Below w.heap.size w w' := by
  by_cases hok : newOk slots 9 = true
  · have hok2 := of_decide_eq_true hok
    obtain ⟨sl, rfl⟩ := Int.eq_ofNat_of_zero_le (show 0 ≤ slots by omega)
    have HNW := Lib.hid (new_calls sl 9 w)
    have hs1 : 1 ≤ sl := by omega
    have hs16 : sl ≤ 16 := by omega
    have HI := Lib.hid hi
    have HWF := Lib.hid hwf
    clear hok hok2 hi hwf
    have b1 : decide ((sl : Int) < 1) = false := decide_eq_false (by omega)
    have b2 : decide (16 < (sl : Int)) = false := decide_eq_false (by omega)
    obtain ⟨ti, hti, hz, hsz, hby⟩ := info_parts intInfo
    have HTI := Lib.hid hti
    have HZ := Lib.hid hz
    have HSZ := Lib.hid hsz
    have HBY := Lib.hid hby
    clear hti hz hsz hby
    go_enter Try.func14, Try.ntmps14
    go_wp2_with fail
    refine HNW.out.mono ?_
    rintro e w1 (⟨_, pj, F, rfl, hj1, hs1'⟩ | ⟨h, _⟩)
    rotate_left
    · exact absurd (of_decide_eq_false h) (by omega)
    have HJ1 := Lib.hid hj1
    have HS1 := Lib.hid hs1'
    clear hj1 hs1'
    go_wp2_with fail
    go_loopw [11, 12] (fun x t wr => ∃ (i : Nat) (V : Value) (F : Nat → Prop), i ≤ sl + 1 ∧ t = .int .i64 i ∧ x = V ∧ Hid (Own wr 3 1 V (i - 1) (ivn (List.range' 1 (i - 1)))) ∧ Hid (∀ q, fpV V q → w.heap.size ≤ q ∧ ¬ F q) ∧ Hid (Jn wr F pj sl 9 (stA base sl i)) ∧ Hid (Lo w.heap.size F) ∧ Hid (St No w (Nw w) wr)) (fun _ t _ => sl + 1 - (intOf t).toNat)
    case atStart =>
      exact ⟨0, _, F, by omega, rfl, rfl, Lib.hid (Own.nil _ _ _), Lib.hid (fun q hq => by simp [fpV, Value.ownBlock] at hq), HJ1, Lib.hid (fun q hq => (HS1.out.new q hq).elim (fun h => h.elim) (fun h => h)), Lib.hid HS1.out.toNew⟩
    case round =>
      obtain ⟨i, V, F1, hi1, rfl, hxv, HO, HV, HJ, HLO, HS⟩ := hrel
      have hxv' := hxv.symm
      subst hxv'
      clear hxv
      by_cases hlt : i ≤ sl
      · have hli : (i : Int) ≤ (sl : Int) := by omega
        have HTW := Lib.hid (fun W => two_oldw base i (by omega) W)
        have HST := Lib.hid (stA_step (base := base) hs1 hs16 hlt)
        have HDL := Lib.hid (dgO_facts base i (i % 2) (by omega)).2.2.2
        obtain ⟨p, hp⟩ : ∃ p, i % 2 = p := ⟨_, rfl⟩
        rw [hp] at HST HDL
        have hp2 : p < 2 := by omega
        have hrem : (i : Int).tmod 2 = (p : Int) := by rw [Int.tmod_eq_emod_of_nonneg (by omega)]; omega
        have hpi : (p : Int) < 2 := by omega
        clear hp
        have hll : (stA base sl i).length ≤ 4096 := by unfold stA; rw [List.length_map]; split <;> simp <;> omega
        have HLL := Lib.hid hll
        clear hll
        go_wp2_with fail
        refine (HTW.out _).mono ?_
        rintro e w2 ⟨g, c, rfl, hcells, hs2⟩
        obtain ⟨ap, cp, hcp, hbp, hlp, hmp⟩ := hcells p hp2
        have HTK := Lib.hid (jtake_calls ap cp (dgO base i p) (by have := HDL.out; omega) hlp hmp w2 hbp 3 (by omega) F1 pj sl 9 _ HLL.out (HJ.out.st hs2 (Dj.no _)))
        rw [HST.out] at HTK
        have HS2 := Lib.hid (HS.out.then hs2)
        have HO2 := Lib.hid (HO.out.st hs2 (Dj.no _))
        clear hcells hs2 hbp
        go_wp2_with fail
        refine HTK.out.mono ?_
        rintro e w3 ⟨V3, F3, rfl, ho3, hj3, hs3, hd3⟩
        obtain ⟨a3, c3, rfl, _, _, _, _⟩ := ho3.form
        have z2 := HS2.out.size
        have HS3 : Hid (St No w (Nw w) w3) := Lib.hid (HS2.out.thenN hs3 (fun q hq => HLO.out q hq))
        have HLO3 : Hid (Lo w.heap.size F3) := Lib.hid (fun q hq => (hs3.new q (.inl hq)).elim (HLO.out q) (fun hl => by omega))
        have HJ3 := Lib.hid hj3
        have HO3 := Lib.hid (HO2.out.st hs3 (fun q hq hv => (HV.out q hv).2 hq))
        have HV3 : Hid (∀ q, fpV V q → w.heap.size ≤ q ∧ ¬ F3 q) := Lib.hid (fun q hq => ⟨(HV.out q hq).1, fun hf => (hs3.new q (.inl hf)).elim (HV.out q hq).2 (fun hl => by have := HO2.out.in q hq; omega)⟩)
        clear ho3 hj3 hs3 hd3
        by_cases hi0 : i = 0
        · subst hi0
          go_wp2
          exact ⟨⟨1, V, F3, by omega, by simp, rfl, HO3, HV3, HJ3, HLO3, HS3⟩, by simp [intOf]⟩
        · have hip : (0 : Int) < (i : Int) := by omega
          have hnl : i - 1 ≤ 16 := by omega
          obtain ⟨na, nc, rfl, _, _, _, _⟩ := HO3.out.form
          go_wp2_with (at_builtin; refine wpList_app rfl (.tmp 92) (.tmp 94) 22 rfl 3 ti _ 1 8 Try.underlying22 HTI.out HZ.out HSZ.out HBY.out rfl (by decide) _ (i - 1) (ivn (List.range' 1 (i - 1))) rfl (HO3.out.st (St.alloc' No w3 _) (Dj.no _)) (some ⟨w3.heap.size, 0, none⟩) 1 1 [.int .i64 (i : Int)] rfl ⟨rfl, rd_row (heap_alloc_new w3 _), by simp; rfl⟩ (fun h => by cases h) (by unfold maxLen; omega) (by omega) ?_; intro v4 w4 ho4 hs4 hn4; have HO4 := Lib.hid ho4; have HS4 := Lib.hid hs4; clear ho4 hs4 hn4)
          refine ⟨⟨i + 1, v4, F3, by omega, by simp, rfl, Lib.hid ?_, Lib.hid ?_, Lib.hid ?_, HLO3, Lib.hid ?_⟩, by simp [intOf]; omega⟩
          · have e : ivn (List.range' 1 (i + 1 - 1)) = ivn (List.range' 1 (i - 1)) ++ [.int .i64 (i : Int)] := by
              have h1 := List.range'_append (s := 1) (m := i - 1) (n := 1) (step := 1)
              rw [show i - 1 + 1 = i by omega] at h1
              rw [show i + 1 - 1 = i by omega, ← h1]
              simp [ivn]
              omega
            rw [e, show i + 1 - 1 = i - 1 + 1 by omega]
            exact HO4.out
          · intro q hq
            have z3 := HS3.out.size
            rcases HS4.out.new q hq with h | h
            · exact HV3.out q h
            · simp at h
              exact ⟨by omega, fun hf => by have := HJ3.out.in q hf; omega⟩
          · exact (HJ3.out.st (St.alloc' No w3 _) (Dj.no _)).st HS4.out (fun q hv hf => (HV3.out q hv).2 hf)
          · exact (HS3.out.then (new1 w3 _)).thenN HS4.out (fun q hq => (HV3.out q hq).1)
      · obtain rfl : i = sl + 1 := by omega
        have HST0 : Hid (stA base sl (sl + 1) = (List.range' 1 sl).map (slotO base)) := Lib.hid (by unfold stA; rw [if_neg (by omega)])
        rw [HST0.out] at HJ
        have HOA : Hid (Own wr 3 1 V sl (ivn (List.range' 1 sl))) := Lib.hid (by have := HO.out; rw [show sl + 1 - 1 = sl by omega] at this; exact this)
        go_wp2_with fail
        go_loopw [11, 17] (fun x t wq => ∃ (k : Nat) (V : Value) (L : List Nat) (F : Nat → Prop), k + L.length = sl ∧ 1 ≤ L.length ∧ t = .int .i64 k ∧ x = V ∧ Hid L.Nodup ∧ Hid (∀ j ∈ L, 1 ≤ j ∧ j ≤ sl) ∧ Hid (Own wq 3 1 V L.length (ivn L)) ∧ Hid (∀ q, fpV V q → w.heap.size ≤ q ∧ ¬ F q) ∧ Hid (Jn wq F pj sl 9 (L.map (slotO base))) ∧ Hid (Lo w.heap.size F) ∧ Hid (St No w (Nw w) wq)) (fun _ t _ => sl - (intOf t).toNat)
        case atStart =>
          exact ⟨0, V, List.range' 1 sl, F1, by simp, by simp; omega, rfl, rfl, Lib.hid List.nodup_range', Lib.hid (fun j hj => by have := List.mem_range'_1.1 hj; omega), by rw [List.length_range']; exact HOA, HV, HJ, HLO, HS⟩
        case round =>
          obtain ⟨k, V2, L, F2, hkL, hL1, rfl, hxv, HLN, HLB, HO, HV, HJ, HLO, HS⟩ := hrel
          have hxv' := hxv.symm
          subst hxv'
          clear hxv
          have HST0 : Hid (St No w No wr) := Lib.hid (HS.out.drop (fun _ h => h.elim))
          obtain ⟨la, c, rfl, hlc0, _, _, _⟩ := HO.out.form
          obtain ⟨gl, rfl⟩ := Own.block' HO.out (by omega)
          by_cases hgt : 1 < L.length
          · have hgi : (1 : Int) < (L.length : Int) := by omega
            by_cases hko : k < os.length
            · have hki : (k : Int) < (os.length : Int) := by omega
              obtain ⟨ya, rfl, hoc⟩ := HI.out.at k hko
              have hiw := HWF.out _ (List.getElem_mem hko)
              generalize os[k] = oj at *
              have hpr := posI_range (x := oj) (n := (L.length : Int)) (by omega)
              have HPOS := Lib.hid (fun W => pos_calls oj L.length (by omega) (by omega) hiw W)
              obtain ⟨t, ht⟩ := Int.eq_ofNat_of_zero_le hpr.1
              rw [ht] at hpr HPOS
              have htl : t < L.length := by omega
              have hws : wr.cell? (ya.add k) = some (.int .i64 oj) := HST0.out.cellNo' hoc
              clear hoc hpr ht hiw
              obtain ⟨i, hiL⟩ : ∃ i, L[t]'(by omega) = i := ⟨_, rfl⟩
              have hmem : i ∈ L := by rw [← hiL]; exact List.getElem_mem _
              have hib := HLB.out i hmem
              have HLT := Lib.hid (old_last (base := base) (sl := sl) (i := i) (L := L) (fun j hj => by have := HLB.out j hj; omega) hmem)
              have hfl := filter_at HLN.out t (by omega)
              rw [hiL] at hfl
              rw [hfl] at HLT
              have HTW := Lib.hid (fun W => two_oldw base i (by omega) W)
              have HDL := Lib.hid (dgO_facts base i (1 - i % 2) (by omega)).2.2.2
              have HL2 : Hid (L.take t ++ L.drop (t + 1)).Nodup := Lib.hid (by rw [← hfl]; exact HLN.out.filter _)
              have HB2 : Hid (∀ j ∈ L.take t ++ L.drop (t + 1), 1 ≤ j ∧ j ≤ sl) := Lib.hid (fun j hj => HLB.out j (by rw [← hfl] at hj; exact (List.mem_filter.1 hj).1))
              have HLE : Hid ((L.take t ++ L.drop (t + 1)).length + 1 = L.length) := Lib.hid (by rw [List.length_append, List.length_take, List.length_drop]; omega)
              have HIV : Hid (ivn (L.take t) ++ ivn (L.drop (t + 1)) = ivn (L.take t ++ L.drop (t + 1))) := Lib.hid (by simp [ivn])
              obtain ⟨p, hp⟩ : ∃ p, i % 2 = p := ⟨_, rfl⟩
              rw [hp] at HLT HDL
              have hp2 : p < 2 := by omega
              have hrem : (i : Int).tmod 2 = (p : Int) := by rw [Int.tmod_eq_emod_of_nonneg (by omega)]; omega
              obtain ⟨p', hp'⟩ : ∃ p', 1 - p = p' := ⟨_, rfl⟩
              rw [hp'] at HLT HDL
              have hp2' : p' < 2 := by omega
              have hsub : (1 : Int) - (p : Int) = (p' : Int) := by omega
              have hpi : (p' : Int) < 2 := by omega
              have ct := HO.out.cellAt t (.int .i64 (i : Int)) (by unfold ivn; rw [List.getElem?_map, List.getElem?_eq_getElem (show t < L.length by omega), hiL]; rfl)
              have HRT : Hid (Rd wr (some ⟨gl, 0, none⟩) (ivn (L.take t))) := Lib.hid (by have := HO.out.rd.take t; unfold ivn at this ⊢; rw [← List.map_take] at this; exact this)
              have HRD : Hid (∀ (j : Nat) (v : Value), (ivn (L.drop (t + 1)))[j]? = some v → wr.cell? ⟨gl, t + 1 + j, none⟩ = some v) := Lib.hid (fun j v hv => HO.out.cellAt (t + 1 + j) v (by unfold ivn at hv ⊢; rw [List.map_drop, List.getElem?_drop] at hv; exact hv))
              have htL : t + 1 ≤ L.length := by omega
              have hlc : L.length ≤ c := hlc0
              have hti2 : (t : Int) < (L.length : Int) := by omega
              have hti3 : (t : Int) + 1 ≤ (L.length : Int) := by omega
              have hti4 : (t : Int) ≤ (c : Int) := by omega
              have hgl := HO.out.in gl (by simp [fpV, Value.ownBlock])
              have q1 : gl ≠ wr.heap.size := by omega
              have hsum : IntKind.i64.wrap ((t : Int) + 1) = (t : Int) + 1 := by rw [IntKind.wrap_i64]; omega
              clear hp hp' hfl hmem hiL
              by_cases hcc : c = t + 1
              · have hccN : t + 1 = c := hcc.symm
                have hccI : (t : Int) + 1 = (c : Int) := by omega
                have hc3 : (c : Int) ≤ (L.length : Int) := by omega
                have hsum2 : IntKind.i64.wrap (c : Int) = (c : Int) := by rw [IntKind.wrap_i64]; omega
                clear hcc hsum hti3 htL hlc
                go_wp2_with (go_at_call 54; refine (HPOS.out _).mono ?_; rintro e w9 ⟨rfl, rfl⟩)
                go_region_held3 (fun w' => True) (exact trivial)
                  (first
                    | (refine step_app rfl (.tmp 116) (.tmp 119) 22 rfl 3 ti _ 1 8 Try.underlying22 HTI.out HZ.out HSZ.out HBY.out rfl (by decide) (.slice (some ⟨wr.heap.size, 0, none⟩) 0 0) 0 [] rfl ((OwI.empty wr).move (fun _ _ => rfl)) (some ⟨gl, 0, none⟩) t _ (ivn (L.take t)) rfl ⟨by rw [ivn_len, List.length_take]; omega, HRT.out.move (fun k hk => by obtain ⟨x, e, h⟩ := hk; cases e; subst h; exact Below.heap_alloc wr _ _ hgl), ivn_one _⟩ (fun h => by cases h) (by unfold maxLen; omega) (by omega) ?_
                       intro v1 w5 ho5 hs5 hn5
                       have hb5 : w5.heap[gl]? = wr.heap[gl]? := (hs5.block gl (Nat.lt_of_lt_of_le hgl (by simp)) (fun hv => by simp [fpV, Value.ownBlock] at hv; omega)).trans (Below.heap_alloc wr _ _ hgl)
                       have hs5' := St.grow0 (w := wr.drew) ⟨hs5.os, hs5.tape, hs5.output, hs5.size, hs5.block, hs5.new⟩
                       have HO5 := Lib.hid ho5
                       have HS5 : Hid (St No wr (fpV v1) w5) := Lib.hid ⟨hs5'.os, hs5'.tape, hs5'.output, hs5'.size, hs5'.block, hs5'.new⟩
                       have HB5 := Lib.hid hb5
                       clear ho5 hs5 hs5' hn5 hb5)
                    | (refine step_app rfl (.tmp 120) (.tmp 124) 22 rfl 3 ti _ 1 8 Try.underlying22 HTI.out HZ.out HSZ.out HBY.out rfl (by decide) v1 _ _ rfl HO5.out (some ⟨gl, 0, none⟩) _ _ (ivn (L.drop (t + 1))) (by first | rfl | simp) ⟨by rw [ivn_len, List.length_drop]; omega, (fun j v hv => by exfalso; have := (List.getElem?_eq_some_iff.1 hv).1; rw [ivn_len, List.length_drop] at this; omega), ivn_one _⟩ (fun h => by cases h) (by unfold maxLen; omega) (by omega) ?_
                       intro v2 w6 ho6 hs6 hn6
                       have HO6 := Lib.hid ho6
                       have HS6 := Lib.hid hs6
                       clear ho6 hs6 hn6))
                have HOL : Hid (Own w6 3 1 v2 (L.take t ++ L.drop (t + 1)).length (ivn (L.take t ++ L.drop (t + 1)))) := Lib.hid (HO6.out.cast1 (by rw [List.nil_append]; exact HIV.out) (ivn_len _))
                have z0 := HS.out.size
                have z5 := HS5.out.size
                have HS6w : Hid (St No w (Nw w) w6) := Lib.hid ((HS.out.then HS5.out).thenN HS6.out (fun q hq => (HS5.out.new q hq).elim (fun h => h.elim) (fun h => by omega)))
                have HV6 : Hid (∀ q, fpV v2 q → w.heap.size ≤ q ∧ ¬ F2 q) := Lib.hid (fun q hq => by
                  have hF := HJ.out.in q
                  have h1 : wr.heap.size ≤ q := (HS6.out.new q hq).elim (fun h => (HS5.out.new q h).elim (fun h => h.elim) (fun h => h)) (fun h => by omega)
                  exact ⟨by omega, fun hf => by have := hF hf; omega⟩)
                have HJ6 : Hid (Jn w6 F2 pj sl 9 (L.map (slotO base))) := Lib.hid ((HJ.out.st HS5.out (Dj.no _)).st HS6.out (fun q hq hf => (HS5.out.new q hq).elim (fun h => h.elim) (fun h => by have := HJ.out.in q hf; omega)))
                have HLL : Hid ((L.map (slotO base)).length ≤ 4096) := Lib.hid (by rw [List.length_map]; omega)
                generalize L.take t ++ L.drop (t + 1) = L' at *
                have hpl := pkO_len base i
                clear HO6 HS5 HS6 HO5 HB5 HRT HRD HIV ct z5
                go_wp2_with fail
                refine (HTW.out _).mono ?_
                rintro e w7 ⟨g7, c7, rfl, hcells, hs7⟩
                obtain ⟨ap, cp, hcp, hbp, hlp, hmp⟩ := hcells p' hp2'
                have HTK := Lib.hid (jtake_calls ap cp (dgO base i p') (by have := HDL.out; omega) hlp hmp w7 hbp 3 (by omega) F2 pj sl 9 _ HLL.out (HJ6.out.st hs7 (Dj.no _)))
                rw [HLT.out] at HTK
                have HS7 := Lib.hid (HS6w.out.then hs7)
                have HO7 := Lib.hid (HOL.out.st hs7 (Dj.no _))
                clear hcells hs7 hbp
                go_wp2_with fail
                refine HTK.out.mono ?_
                rintro e w8 ⟨V8, F8, rfl, ho8, hj8, hs8, hd8⟩
                obtain ⟨a8, c8, rfl, _, _, _, _⟩ := ho8.form
                dsimp only at ho8 ⊢
                obtain ⟨g8, rfl⟩ := Own.block' ho8 (by omega)
                have hb0 := ho8.cellAt 0 _ (bv_get (pkO base i) 0 (by omega))
                have hbv := pkO_first base i (by omega)
                generalize (pkO base i)[0]'(by omega) = b0 at *
                have z7 := HS7.out.size
                have HS8 : Hid (St No w (Nw w) w8) := Lib.hid (HS7.out.thenN hs8 (fun q hq => HLO.out q hq))
                have HLO8 : Hid (Lo w.heap.size F8) := Lib.hid (fun q hq => (hs8.new q (.inl hq)).elim (HLO.out q) (fun hl => by omega))
                have HJ8 := Lib.hid hj8
                have HO8 := Lib.hid (HO7.out.st hs8 (fun q hq hv => (HV6.out q hv).2 hq))
                have HV8 : Hid (∀ q, fpV v2 q → w.heap.size ≤ q ∧ ¬ F8 q) := Lib.hid (fun q hq => ⟨(HV6.out q hq).1, fun hf => (hs8.new q (.inl hf)).elim (HV6.out q hq).2 (fun hl => by have := HO7.out.in q hq; omega)⟩)
                clear ho8 hj8 hs8 hd8
                go_wp2
                have hle := HLE.out
                go_roundw
                case rel => (repeat apply Exists.intro); exact ⟨⟨k + 1, v2, L', F8, by omega, by omega, by simp, rfl, HL2, HB2, HO8, HV8, HJ8, HLO8, HS8⟩, rfl⟩
                case measure => simp [intOf]; omega
              · have hcn : ¬ c = t + 1 := hcc
                have hcnI : ¬ (c : Int) = (t : Int) + 1 := by omega
                have hcnJ : ¬ t + 1 = c := by omega
                have hlcI : (L.length : Int) ≤ (c : Int) := by omega
                have hcI2 : (t : Int) + 1 ≤ (c : Int) := by omega
                have hp0 : (0 : Int) ≤ (t : Int) + 1 := by omega
                go_wp2_with (go_at_call 54; refine (HPOS.out _).mono ?_; rintro e w9 ⟨rfl, rfl⟩)
                go_region_held3 (fun w' => True) (exact trivial)
                  (first
                    | (refine step_app rfl (.tmp 116) (.tmp 119) 22 rfl 3 ti _ 1 8 Try.underlying22 HTI.out HZ.out HSZ.out HBY.out rfl (by decide) (.slice (some ⟨wr.heap.size, 0, none⟩) 0 0) 0 [] rfl ((OwI.empty wr).move (fun _ _ => rfl)) (some ⟨gl, 0, none⟩) t _ (ivn (L.take t)) rfl ⟨by rw [ivn_len, List.length_take]; omega, HRT.out.move (fun k hk => by obtain ⟨x, e, h⟩ := hk; cases e; subst h; exact Below.heap_alloc wr _ _ hgl), ivn_one _⟩ (fun h => by cases h) (by unfold maxLen; omega) (by omega) ?_
                       intro v1 w5 ho5 hs5 hn5
                       have hb5 : w5.heap[gl]? = wr.heap[gl]? := (hs5.block gl (Nat.lt_of_lt_of_le hgl (by simp)) (fun hv => by simp [fpV, Value.ownBlock] at hv; omega)).trans (Below.heap_alloc wr _ _ hgl)
                       have hs5' := St.grow0 (w := wr.drew) ⟨hs5.os, hs5.tape, hs5.output, hs5.size, hs5.block, hs5.new⟩
                       have HO5 := Lib.hid ho5
                       have HS5 : Hid (St No wr (fpV v1) w5) := Lib.hid ⟨hs5'.os, hs5'.tape, hs5'.output, hs5'.size, hs5'.block, hs5'.new⟩
                       have HB5 := Lib.hid hb5
                       clear ho5 hs5 hs5' hn5 hb5)
                    | (refine step_app rfl (.tmp 120) (.tmp 124) 22 rfl 3 ti _ 1 8 Try.underlying22 HTI.out HZ.out HSZ.out HBY.out rfl (by decide) v1 _ _ rfl HO5.out (some ⟨gl, t + 1, none⟩) _ _ (ivn (L.drop (t + 1))) (by first | rfl | simp) ⟨by rw [ivn_len, List.length_drop]; omega, (fun j v hv => ⟨_, rfl, by have h := HRD.out j v hv; have e : (⟨gl, t + 1, none⟩ : Addr).add j = ⟨gl, t + 1 + j, none⟩ := (by unfold Addr.add; split <;> simp_all); rw [e]; exact (World.cell?_of_block HB5.out).trans h⟩), ivn_one _⟩ (fun h => by cases h) (by unfold maxLen; omega) (by omega) ?_
                       intro v2 w6 ho6 hs6 hn6
                       have HO6 := Lib.hid ho6
                       have HS6 := Lib.hid hs6
                       clear ho6 hs6 hn6))
                have HOL : Hid (Own w6 3 1 v2 (L.take t ++ L.drop (t + 1)).length (ivn (L.take t ++ L.drop (t + 1)))) := Lib.hid (HO6.out.cast1 (by rw [List.nil_append]; exact HIV.out) (ivn_len _))
                have z0 := HS.out.size
                have z5 := HS5.out.size
                have HS6w : Hid (St No w (Nw w) w6) := Lib.hid ((HS.out.then HS5.out).thenN HS6.out (fun q hq => (HS5.out.new q hq).elim (fun h => h.elim) (fun h => by omega)))
                have HV6 : Hid (∀ q, fpV v2 q → w.heap.size ≤ q ∧ ¬ F2 q) := Lib.hid (fun q hq => by
                  have hF := HJ.out.in q
                  have h1 : wr.heap.size ≤ q := (HS6.out.new q hq).elim (fun h => (HS5.out.new q h).elim (fun h => h.elim) (fun h => h)) (fun h => by omega)
                  exact ⟨by omega, fun hf => by have := hF hf; omega⟩)
                have HJ6 : Hid (Jn w6 F2 pj sl 9 (L.map (slotO base))) := Lib.hid ((HJ.out.st HS5.out (Dj.no _)).st HS6.out (fun q hq hf => (HS5.out.new q hq).elim (fun h => h.elim) (fun h => by have := HJ.out.in q hf; omega)))
                have HLL : Hid ((L.map (slotO base)).length ≤ 4096) := Lib.hid (by rw [List.length_map]; omega)
                generalize L.take t ++ L.drop (t + 1) = L' at *
                have hpl := pkO_len base i
                clear HO6 HS5 HS6 HO5 HB5 HRT HRD HIV ct z5
                go_wp2_with fail
                refine (HTW.out _).mono ?_
                rintro e w7 ⟨g7, c7, rfl, hcells, hs7⟩
                obtain ⟨ap, cp, hcp, hbp, hlp, hmp⟩ := hcells p' hp2'
                have HTK := Lib.hid (jtake_calls ap cp (dgO base i p') (by have := HDL.out; omega) hlp hmp w7 hbp 3 (by omega) F2 pj sl 9 _ HLL.out (HJ6.out.st hs7 (Dj.no _)))
                rw [HLT.out] at HTK
                have HS7 := Lib.hid (HS6w.out.then hs7)
                have HO7 := Lib.hid (HOL.out.st hs7 (Dj.no _))
                clear hcells hs7 hbp
                go_wp2_with fail
                refine HTK.out.mono ?_
                rintro e w8 ⟨V8, F8, rfl, ho8, hj8, hs8, hd8⟩
                obtain ⟨a8, c8, rfl, _, _, _, _⟩ := ho8.form
                dsimp only at ho8 ⊢
                obtain ⟨g8, rfl⟩ := Own.block' ho8 (by omega)
                have hb0 := ho8.cellAt 0 _ (bv_get (pkO base i) 0 (by omega))
                have hbv := pkO_first base i (by omega)
                generalize (pkO base i)[0]'(by omega) = b0 at *
                have z7 := HS7.out.size
                have HS8 : Hid (St No w (Nw w) w8) := Lib.hid (HS7.out.thenN hs8 (fun q hq => HLO.out q hq))
                have HLO8 : Hid (Lo w.heap.size F8) := Lib.hid (fun q hq => (hs8.new q (.inl hq)).elim (HLO.out q) (fun hl => by omega))
                have HJ8 := Lib.hid hj8
                have HO8 := Lib.hid (HO7.out.st hs8 (fun q hq hv => (HV6.out q hv).2 hq))
                have HV8 : Hid (∀ q, fpV v2 q → w.heap.size ≤ q ∧ ¬ F8 q) := Lib.hid (fun q hq => ⟨(HV6.out q hq).1, fun hf => (hs8.new q (.inl hf)).elim (HV6.out q hq).2 (fun hl => by have := HO7.out.in q hq; omega)⟩)
                clear ho8 hj8 hs8 hd8
                go_wp2
                have hle := HLE.out
                go_roundw
                case rel => (repeat apply Exists.intro); exact ⟨⟨k + 1, v2, L', F8, by omega, by omega, by simp, rfl, HL2, HB2, HO8, HV8, HJ8, HLO8, HS8⟩, rfl⟩
                case measure => simp [intOf]; omega
            · have hki : ¬ (k : Int) < (os.length : Int) := by omega
              obtain ⟨i, hiL⟩ : ∃ i, L[0]'(by omega) = i := ⟨_, rfl⟩
              have hmem : i ∈ L := by rw [← hiL]; exact List.getElem_mem _
              have hib := HLB.out i hmem
              have HLT := Lib.hid (old_last (base := base) (sl := sl) (i := i) (L := L) (fun j hj => by have := HLB.out j hj; omega) hmem)
              have hfl := filter_at HLN.out 0 (by omega)
              rw [hiL] at hfl
              rw [hfl] at HLT
              have HTW := Lib.hid (fun W => two_oldw base i (by omega) W)
              have HDL := Lib.hid (dgO_facts base i (1 - i % 2) (by omega)).2.2.2
              have HL2 : Hid (L.take 0 ++ L.drop 1).Nodup := Lib.hid (by rw [← hfl]; exact HLN.out.filter _)
              have HB2 : Hid (∀ j ∈ L.take 0 ++ L.drop 1, 1 ≤ j ∧ j ≤ sl) := Lib.hid (fun j hj => HLB.out j (by rw [← hfl] at hj; exact (List.mem_filter.1 hj).1))
              have HLE : Hid ((L.take 0 ++ L.drop 1).length + 1 = L.length) := Lib.hid (by rw [List.length_append, List.length_take, List.length_drop]; omega)
              have HIV : Hid (ivn (L.take 0) ++ ivn (L.drop 1) = ivn (L.take 0 ++ L.drop 1)) := Lib.hid (by simp [ivn])
              obtain ⟨p, hp⟩ : ∃ p, i % 2 = p := ⟨_, rfl⟩
              rw [hp] at HLT HDL
              have hp2 : p < 2 := by omega
              have hrem : (i : Int).tmod 2 = (p : Int) := by rw [Int.tmod_eq_emod_of_nonneg (by omega)]; omega
              obtain ⟨p', hp'⟩ : ∃ p', 1 - p = p' := ⟨_, rfl⟩
              rw [hp'] at HLT HDL
              have hp2' : p' < 2 := by omega
              have hsub : (1 : Int) - (p : Int) = (p' : Int) := by omega
              have hpi : (p' : Int) < 2 := by omega
              have ct := HO.out.cellAt 0 (.int .i64 (i : Int)) (by unfold ivn; rw [List.getElem?_map, List.getElem?_eq_getElem (show 0 < L.length by omega), hiL]; rfl)
              have HRT : Hid (Rd wr (some ⟨gl, 0, none⟩) (ivn (L.take 0))) := Lib.hid (by have := HO.out.rd.take 0; unfold ivn at this ⊢; rw [← List.map_take] at this; exact this)
              have HRD : Hid (∀ (j : Nat) (v : Value), (ivn (L.drop 1))[j]? = some v → wr.cell? ⟨gl, 1 + j, none⟩ = some v) := Lib.hid (fun j v hv => HO.out.cellAt (1 + j) v (by unfold ivn at hv ⊢; rw [List.map_drop, List.getElem?_drop] at hv; exact hv))
              have htL : 1 ≤ L.length := by omega
              have hlc : L.length ≤ c := hlc0
              have hti2 : 0 < (L.length : Int) := by omega
              have hti3 : 1 ≤ (L.length : Int) := by omega
              have hti4 : 0 ≤ (c : Int) := by omega
              have hgl := HO.out.in gl (by simp [fpV, Value.ownBlock])
              have q1 : gl ≠ wr.heap.size := by omega
              have hsum : IntKind.i64.wrap 1 = 1 := by rw [IntKind.wrap_i64]; omega
              clear hp hp' hfl hmem hiL
              have hcn : ¬ c = 1 := by omega
              have hcnI : ¬ (c : Int) = 1 := by omega
              have hcnJ : ¬ 1 = c := by omega
              have hlcI : (L.length : Int) ≤ (c : Int) := by omega
              have hcI2 : 1 ≤ (c : Int) := by omega
              have hp0 : (0 : Int) ≤ 1 := by omega
              go_wp2_with fail
              go_region_held3 (fun w' => True) (exact trivial)
                (first
                  | (refine step_app rfl (.tmp 116) (.tmp 119) 22 rfl 3 ti _ 1 8 Try.underlying22 HTI.out HZ.out HSZ.out HBY.out rfl (by decide) (.slice (some ⟨wr.heap.size, 0, none⟩) 0 0) 0 [] rfl ((OwI.empty wr).move (fun _ _ => rfl)) (some ⟨gl, 0, none⟩) 0 _ (ivn (L.take 0)) rfl ⟨by rw [ivn_len, List.length_take]; omega, HRT.out.move (fun k hk => by obtain ⟨x, e, h⟩ := hk; cases e; subst h; exact Below.heap_alloc wr _ _ hgl), ivn_one _⟩ (fun h => by cases h) (by unfold maxLen; omega) (by omega) ?_
                     intro v1 w5 ho5 hs5 hn5
                     have hb5 : w5.heap[gl]? = wr.heap[gl]? := (hs5.block gl (Nat.lt_of_lt_of_le hgl (by simp)) (fun hv => by simp [fpV, Value.ownBlock] at hv; omega)).trans (Below.heap_alloc wr _ _ hgl)
                     have hs5' := St.grow0 (w := wr.drew) ⟨hs5.os, hs5.tape, hs5.output, hs5.size, hs5.block, hs5.new⟩
                     have HO5 := Lib.hid ho5
                     have HS5 : Hid (St No wr (fpV v1) w5) := Lib.hid ⟨hs5'.os, hs5'.tape, hs5'.output, hs5'.size, hs5'.block, hs5'.new⟩
                     have HB5 := Lib.hid hb5
                     clear ho5 hs5 hs5' hn5 hb5)
                  | (refine step_app rfl (.tmp 120) (.tmp 124) 22 rfl 3 ti _ 1 8 Try.underlying22 HTI.out HZ.out HSZ.out HBY.out rfl (by decide) v1 _ _ rfl HO5.out (some ⟨gl, 1, none⟩) _ _ (ivn (L.drop 1)) (by first | rfl | simp) ⟨by rw [ivn_len, List.length_drop]; omega, (fun j v hv => ⟨_, rfl, by have h := HRD.out j v hv; have e : (⟨gl, 1, none⟩ : Addr).add j = ⟨gl, 1 + j, none⟩ := (by unfold Addr.add; split <;> simp_all); rw [e]; exact (World.cell?_of_block HB5.out).trans h⟩), ivn_one _⟩ (fun h => by cases h) (by unfold maxLen; omega) (by omega) ?_
                     intro v2 w6 ho6 hs6 hn6
                     have HO6 := Lib.hid ho6
                     have HS6 := Lib.hid hs6
                     clear ho6 hs6 hn6))
              have HOL : Hid (Own w6 3 1 v2 (L.take 0 ++ L.drop 1).length (ivn (L.take 0 ++ L.drop 1))) := Lib.hid (HO6.out.cast1 (by rw [List.nil_append]; exact HIV.out) (ivn_len _))
              have z0 := HS.out.size
              have z5 := HS5.out.size
              have HS6w : Hid (St No w (Nw w) w6) := Lib.hid ((HS.out.then HS5.out).thenN HS6.out (fun q hq => (HS5.out.new q hq).elim (fun h => h.elim) (fun h => by omega)))
              have HV6 : Hid (∀ q, fpV v2 q → w.heap.size ≤ q ∧ ¬ F2 q) := Lib.hid (fun q hq => by
                have hF := HJ.out.in q
                have h1 : wr.heap.size ≤ q := (HS6.out.new q hq).elim (fun h => (HS5.out.new q h).elim (fun h => h.elim) (fun h => h)) (fun h => by omega)
                exact ⟨by omega, fun hf => by have := hF hf; omega⟩)
              have HJ6 : Hid (Jn w6 F2 pj sl 9 (L.map (slotO base))) := Lib.hid ((HJ.out.st HS5.out (Dj.no _)).st HS6.out (fun q hq hf => (HS5.out.new q hq).elim (fun h => h.elim) (fun h => by have := HJ.out.in q hf; omega)))
              have HLL : Hid ((L.map (slotO base)).length ≤ 4096) := Lib.hid (by rw [List.length_map]; omega)
              generalize L.take 0 ++ L.drop 1 = L' at *
              have hpl := pkO_len base i
              clear HO6 HS5 HS6 HO5 HB5 HRT HRD HIV ct z5
              go_wp2_with fail
              refine (HTW.out _).mono ?_
              rintro e w7 ⟨g7, c7, rfl, hcells, hs7⟩
              obtain ⟨ap, cp, hcp, hbp, hlp, hmp⟩ := hcells p' hp2'
              have HTK := Lib.hid (jtake_calls ap cp (dgO base i p') (by have := HDL.out; omega) hlp hmp w7 hbp 3 (by omega) F2 pj sl 9 _ HLL.out (HJ6.out.st hs7 (Dj.no _)))
              rw [HLT.out] at HTK
              have HS7 := Lib.hid (HS6w.out.then hs7)
              have HO7 := Lib.hid (HOL.out.st hs7 (Dj.no _))
              clear hcells hs7 hbp
              go_wp2_with fail
              refine HTK.out.mono ?_
              rintro e w8 ⟨V8, F8, rfl, ho8, hj8, hs8, hd8⟩
              obtain ⟨a8, c8, rfl, _, _, _, _⟩ := ho8.form
              dsimp only at ho8 ⊢
              obtain ⟨g8, rfl⟩ := Own.block' ho8 (by omega)
              have hb0 := ho8.cellAt 0 _ (bv_get (pkO base i) 0 (by omega))
              have hbv := pkO_first base i (by omega)
              generalize (pkO base i)[0]'(by omega) = b0 at *
              have z7 := HS7.out.size
              have HS8 : Hid (St No w (Nw w) w8) := Lib.hid (HS7.out.thenN hs8 (fun q hq => HLO.out q hq))
              have HLO8 : Hid (Lo w.heap.size F8) := Lib.hid (fun q hq => (hs8.new q (.inl hq)).elim (HLO.out q) (fun hl => by omega))
              have HJ8 := Lib.hid hj8
              have HO8 := Lib.hid (HO7.out.st hs8 (fun q hq hv => (HV6.out q hv).2 hq))
              have HV8 : Hid (∀ q, fpV v2 q → w.heap.size ≤ q ∧ ¬ F8 q) := Lib.hid (fun q hq => ⟨(HV6.out q hq).1, fun hf => (hs8.new q (.inl hf)).elim (HV6.out q hq).2 (fun hl => by have := HO7.out.in q hq; omega)⟩)
              clear ho8 hj8 hs8 hd8
              go_wp2
              have hle := HLE.out
              go_roundw
              case rel => (repeat apply Exists.intro); exact ⟨⟨k + 1, v2, L', F8, by omega, by omega, by simp, rfl, HL2, HB2, HO8, HV8, HJ8, HLO8, HS8⟩, rfl⟩
              case measure => simp [intOf]; omega
          · obtain ⟨i0, rfl⟩ : ∃ i0, L = [i0] := List.length_eq_one_iff.1 (by omega)
            have hi0 := HLB.out i0 (by simp)
            have hoe := old_end (base := base) (sl := sl) (i0 := i0) hs1 (by omega) (by omega)
            have HTW0 : Hid (∀ W, Calls Try.prog 58 #[.int .u64 (base.toNat : Int), .int .u8 7] W (TwoPost W base 0)) := Lib.hid (fun W => by have h := two_old base 0 W; rw [show idO base 0 = base by simp [idO]] at h; exact h)
            have HTWi : Hid (∀ W, Calls Try.prog 58 #[.int .u64 (IntKind.u64.wrap ((base.toNat : Int) + IntKind.u64.wrap (i0 : Int))), .int .u8 7] W (TwoPost W base i0)) := Lib.hid (fun W => by rw [show IntKind.u64.wrap (i0 : Int) = (i0 : Int) by rw [wrap_u64]; omega]; exact two_oldw base i0 (by omega) W)
            have HD0 := Lib.hid (dgO_facts base 0 1 (by omega)).2.2.2
            have ct := HO.out.cellAt 0 (.int .i64 (i0 : Int)) rfl
            obtain ⟨p, hp⟩ : ∃ p, i0 % 2 = p := ⟨_, rfl⟩
            have hp2 : p < 2 := by omega
            have hrem : (i0 : Int).tmod 2 = (p : Int) := by rw [Int.tmod_eq_emod_of_nonneg (by omega)]; omega
            obtain ⟨p', hp'⟩ : ∃ p', 1 - p = p' := ⟨_, rfl⟩
            have hp2' : p' < 2 := by omega
            have hsub : (1 : Int) - (p : Int) = (p' : Int) := by omega
            have hpi : (p' : Int) < 2 := by omega
            have HDi := Lib.hid (dgO_facts base i0 p' hp2').2.2.2
            have hsum : IntKind.i64.wrap ((1 : Int) - (p : Int)) = (p' : Int) := by rw [IntKind.wrap_i64]; omega
            have hremw : IntKind.i64.wrap ((i0 : Int).tmod 2) = (p : Int) := by rw [hrem, IntKind.wrap_i64]; omega
            have hrw2 : IntKind.i64.wrap (p : Int) = (p : Int) := by rw [IntKind.wrap_i64]; omega
            have hrw3 : IntKind.i64.wrap (p' : Int) = (p' : Int) := by rw [IntKind.wrap_i64]; omega
            have HLEN : Hid ((([i0] : List Nat).map (slotO base)).length ≤ 4096) := Lib.hid (by simp)
            have hgl := HO.out.in gl (by simp [fpV, Value.ownBlock])
            have HGF : Hid (¬ F2 gl) := Lib.hid ((HV.out gl (by simp [fpV, Value.ownBlock])).2)
            have HJL : Hid (Jn wr F2 pj sl 9 [slotO base i0]) := HJ
            clear hp hp' HV HJ
            dsimp only [List.length_cons, List.length_nil]
            go_wp2_with fail
            refine (HTW0.out _).mono ?_
            rintro e w2 ⟨g2, c2, rfl, hcells, hs2⟩
            obtain ⟨ap, cp, hcp, hbp, hlp, hmp⟩ := hcells 1 (by omega)
            have HTK := Lib.hid (jtake_calls ap cp (dgO base 0 1) (by have := HD0.out; omega) hlp hmp w2 hbp 3 (by omega) F2 pj sl 9 [slotO base i0] (by simp) (HJL.out.st hs2 (Dj.no _)))
            generalize takeP sl [slotO base i0] 3 (dgO base 0 1) = tp at *
            obtain ⟨tout, twh, ter, tss⟩ := tp
            obtain ⟨rfl, rfl, hlen, hkeep, hlast⟩ := hoe
            simp only at hlen hkeep
            have HS2 : Hid (St No w (Nw w) w2) := Lib.hid (HS.out.then hs2)
            have hgl2 : gl < w2.heap.size := Nat.lt_of_lt_of_le hgl hs2.size
            have ct2 : w2.cell? ⟨gl, 0, none⟩ = some (.int .i64 (i0 : Int)) := (World.cell?_of_block (hs2.block gl hgl (fun e => e))).trans ct
            have HLAST := Lib.hid hlast
            obtain ⟨N, hN⟩ : ∃ N : Nat, (if sl = 1 then 1 else 2) = N := ⟨_, rfl⟩
            rw [hN] at hlen
            have HN := Lib.hid hN
            clear hN
            have HTL : Hid (tss.length ≤ 65536) := Lib.hid (by rw [hlen, ← HN.out]; split <;> omega)
            have HNUM : Hid ((tss.length : Int) - ((keepP (fun y => decide (y.1 = 3)) tss).length : Int) = (N : Int)) := Lib.hid (by rw [hkeep, hlen]; simp)
            have HKEEP := Lib.hid hkeep
            clear hcells hs2 hbp hlen hkeep hlast ct
            go_wp2_with fail
            refine HTK.out.mono ?_
            rintro e w3 ⟨V3, F3, rfl, ho3, hj3, hs3, hd3⟩
            obtain ⟨a3, c3, rfl, _, _, _, _⟩ := ho3.form
            have z2 := HS2.out.size
            have HS3 : Hid (St No w (Nw w) w3) := Lib.hid (HS2.out.thenN hs3 (fun q hq => HLO.out q hq))
            have HLO3 : Hid (Lo w.heap.size F3) := Lib.hid (fun q hq => (hs3.new q (.inl hq)).elim (HLO.out q) (fun hl => by omega))
            have hgl3 : gl < w3.heap.size := Nat.lt_of_lt_of_le hgl2 hs3.size
            have HGF3 : Hid (¬ F3 gl) := Lib.hid (fun hf => (hs3.new gl (.inl hf)).elim HGF.out (fun hl => by omega))
            have ct3 : w3.cell? ⟨gl, 0, none⟩ = some (.int .i64 (i0 : Int)) := (World.cell?_of_block (hs3.block gl hgl2 HGF.out)).trans ct2
            have HFO := Lib.hid (forget_calls w3 3 F3 pj sl 9 tss HTL.out hj3)
            clear ho3 hj3 hs3 hd3 ct2 hgl2
            unfold ForgetJ at HFO
            rw [HNUM.out, HKEEP.out] at HFO
            dsimp only
            go_wp2_with fail
            refine HFO.out.mono ?_
            rintro e w4 (⟨h, _⟩ | ⟨_, rfl, F4, hj4, hs4⟩)
            · exact absurd h (by omega)
            have z3 := HS3.out.size
            have HS4 : Hid (St No w (Nw w) w4) := Lib.hid (HS3.out.thenN hs4 (fun q hq => HLO3.out q hq))
            have HLO4 : Hid (Lo w.heap.size F4) := Lib.hid (fun q hq => (hs4.new q hq).elim (HLO3.out q) (fun hl => by omega))
            have hgl4 : gl < w4.heap.size := Nat.lt_of_lt_of_le hgl3 hs4.size
            have HGF4 : Hid (¬ F4 gl) := Lib.hid (fun hf => (hs4.new gl hf).elim HGF3.out (fun hl => by omega))
            have ct4 : w4.cell? ⟨gl, 0, none⟩ = some (.int .i64 (i0 : Int)) := (World.cell?_of_block (hs4.block gl hgl3 HGF3.out)).trans ct3
            have HJ4 := Lib.hid hj4
            clear hj4 hs4 ct3 hgl3
            go_wp2_with fail
            go_region_with
              (first
                | (go_at_call 58
                   refine (HTWi.out _).mono ?_
                   rintro e w5 ⟨g5, c5, rfl, hcells5, hs5⟩
                   obtain ⟨a5, k5, hc5, hb5, hl5, hm5⟩ := hcells5 p' hp2'
                   have hs5' := (St.drew No w4).trans hs5
                   have ct5 : w5.cell? ⟨gl, 0, none⟩ = some (.int .i64 (i0 : Int)) := (World.cell?_of_block (hs5'.block gl hgl4 (fun e => e))).trans ct4
                   have HTK5 := Lib.hid (jtake_calls a5 k5 (dgO base i0 p') (by have := HDi.out; omega) hl5 hm5 w5 hb5 3 (by omega) F4 pj sl 9 [] (by simp) (HJ4.out.st hs5' (Dj.no _)))
                   have hwf := HLAST.out i0 p' hp2'
                   have HS5 := Lib.hid (HS4.out.then hs5')
                   have hgl5 : gl < w5.heap.size := Nat.lt_of_lt_of_le hgl4 hs5'.size
                   clear hcells5 hs5 hs5' hb5
                   generalize takeP sl [] 3 (dgO base i0 p') = tq at *
                   obtain ⟨qout, qwh, qer, qss⟩ := tq
                   obtain rfl : qwh = false := hwf)
                | (go_at_call 55
                   refine HTK5.out.mono ?_
                   rintro e w6 ⟨V6, F6, rfl, ho6, hj6, hs6, hd6⟩
                   have ct6 : w6.cell? ⟨gl, 0, none⟩ = some (.int .i64 (i0 : Int)) := (World.cell?_of_block (hs6.block gl hgl5 HGF4.out)).trans ct5
                   have HS6 : Hid (St No w (Nw w) w6) := Lib.hid (HS5.out.thenN hs6 (fun q hq => HLO4.out q hq))
                   clear ho6 hj6 hs6 hd6))
            all_goals
              by_cases hsl1 : sl = 1
              · have hN := HN.out
                rw [if_pos hsl1] at hN
                subst hN
                subst hsl1
                go_wp2
                go_ret
                exact ⟨rfl, (HS6.out.drop (G' := No) (fun _ h => h.elim)).below⟩
              · have hN := HN.out
                rw [if_neg hsl1] at hN
                subst hN
                have hsI : ((sl : Int) == 1) = false := beq_eq_false_iff_ne.2 (by omega)
                go_wp2
                go_ret
                exact ⟨rfl, (HS6.out.drop (G' := No) (fun _ h => h.elim)).below⟩
  · have hno : newOk slots 9 = false := by simpa using hok
    have hno2 := of_decide_eq_false hno
    have HNW := Lib.hid (new_calls slots 9 w)
    clear hok
    by_cases h1 : slots < 1
    · go_enter Try.func14, Try.ntmps14
      go_wp2_with fail
      refine HNW.out.mono ?_
      rintro e w1 (⟨h, _⟩ | ⟨_, rfl, rfl⟩)
      · rw [hno] at h; cases h
      go_wp2
      go_ret
      exact ⟨rfl, (St.refl No _).below⟩
    · have h2 : 16 < slots := by omega
      go_enter Try.func14, Try.ntmps14
      go_wp2_with fail
      refine HNW.out.mono ?_
      rintro e w1 (⟨h, _⟩ | ⟨_, rfl, rfl⟩)
      · rw [hno] at h; cases h
      go_wp2
      go_ret
      exact ⟨rfl, (St.refl No _).below⟩
end Go.Proofs.Ytoeafacamapofaa
