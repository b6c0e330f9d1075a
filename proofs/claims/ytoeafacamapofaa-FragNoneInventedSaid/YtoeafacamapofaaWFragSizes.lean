
/-
  FragSizes, walked: it returns true.
-/
import Derived.Test.YtoeafacamapofaaFgProg2
import Derived.Test.YtoeafacamapofaaFgStr
import Derived.Test.YtoeafacamapofaaFgLook3
import Derived.Test.YtoeafacamapofaaFgPlain
namespace Go.Proofs.Ytoeafacamapofaa
open Go.RowKit
set_option linter.unusedVariables false
set_option linter.unusedSimpArgs false

def fitsN (len : Nat) (mtu : Int) : Bool := decide (1 ≤ len ∧ len ≤ 4096 ∧ 64 ≤ mtu ∧ mtu ≤ 1024)
set_option maxRecDepth 100000 in
theorem fits4_calls (a : Option Addr) (n c : Nat) (hn : n ≤ 140737488351232) (mtu : Int) (w : World) :
    Calls Try.prog 45 #[.slice a n c, .int .i64 mtu] w fun e w' => e = .returned (.bool (fitsN n mtu)) ∧ w = w' := by
  by_cases s1 : 1 ≤ n
  · have t1 : decide (1 ≤ (n : Int)) = true := decide_eq_true (by omega)
    have t1' : decide (1 ≤ n) = true := decide_eq_true (by omega)
    have t1'' : decide (0 < n) = true := decide_eq_true (by omega)
    by_cases s2 : n ≤ 4096
    · have t2 : decide ((n : Int) ≤ 4096) = true := decide_eq_true (by omega)
      have t2' : decide (n ≤ 4096) = true := decide_eq_true (by omega)
      by_cases s3 : 64 ≤ mtu
      · have t3 : decide (64 ≤ mtu) = true := decide_eq_true (by omega)
        by_cases s4 : mtu ≤ 1024
        · have t4 : decide (mtu ≤ 1024) = true := decide_eq_true (by omega)
          have HF : Hid (fitsN n mtu = true) := Lib.hid (decide_eq_true ⟨s1, s2, s3, s4⟩)
          clear s1 s2 s3 s4
          go_enter Try.func45, Try.ntmps45
          go_wp2
          go_ret
          exact ⟨by rw [HF.out]; rfl, rfl⟩
        · have t4 : decide (mtu ≤ 1024) = false := decide_eq_false (by omega)
          have HF : Hid (fitsN n mtu = false) := Lib.hid (decide_eq_false (fun h => s4 h.2.2.2))
          clear s1 s2 s3 s4
          go_enter Try.func45, Try.ntmps45
          go_wp2
          go_ret
          exact ⟨by rw [HF.out]; rfl, rfl⟩
      · have t3 : decide (64 ≤ mtu) = false := decide_eq_false (by omega)
        have HF : Hid (fitsN n mtu = false) := Lib.hid (decide_eq_false (fun h => s3 h.2.2.1))
        clear s1 s2 s3
        go_enter Try.func45, Try.ntmps45
        go_wp2
        go_ret
        exact ⟨by rw [HF.out]; rfl, rfl⟩
    · have t2 : decide ((n : Int) ≤ 4096) = false := decide_eq_false (by omega)
      have t2' : decide (n ≤ 4096) = false := decide_eq_false (by omega)
      have HF : Hid (fitsN n mtu = false) := Lib.hid (decide_eq_false (fun h => s2 h.2.1))
      clear s1 s2
      go_enter Try.func45, Try.ntmps45
      go_wp2
      go_ret
      exact ⟨by rw [HF.out]; rfl, rfl⟩
  · have t1 : decide (1 ≤ (n : Int)) = false := decide_eq_false (by omega)
    have t1' : decide (1 ≤ n) = false := decide_eq_false (by omega)
    have t1'' : decide (0 < n) = false := decide_eq_false (by omega)
    have HF : Hid (fitsN n mtu = false) := Lib.hid (decide_eq_false (fun h => s1 h.1))
    clear s1
    go_enter Try.func45, Try.ntmps45
    go_wp2
    go_ret
    exact ⟨by rw [HF.out]; rfl, rfl⟩
theorem fits_no {xs : List B8} {id : BitVec 64} {mtu : Int} (h : fitsN xs.length mtu = false) : (splitE xs.length mtu = 40 ∨ splitE xs.length mtu = 41) ∧ splitB xs id mtu = [] := by
  have h2 : ¬ (1 ≤ xs.length ∧ xs.length ≤ 4096 ∧ 64 ≤ mtu ∧ mtu ≤ 1024) := of_decide_eq_false h
  have h3 : splitE xs.length mtu = 40 ∨ splitE xs.length mtu = 41 := by
    unfold splitE
    split
    · exact .inl rfl
    · split
      · exact .inr rfl
      · exfalso; omega
  refine ⟨h3, ?_⟩
  unfold splitB
  rw [if_neg]
  omega
theorem fits_yes {xs : List B8} {id : BitVec 64} {mtu : Int} (h : fitsN xs.length mtu = true) : ∃ m : Nat, mtu = (m : Int) ∧ 64 ≤ m ∧ m ≤ 1024 ∧ 1 ≤ xs.length ∧ xs.length ≤ 4096 ∧ splitE xs.length mtu = 0 ∧ splitB xs id mtu = splitL xs id (countN xs.length m) := by
  obtain ⟨h1, h2, h3, h4⟩ := of_decide_eq_true h
  have hE : splitE xs.length mtu = 0 := by
    unfold splitE
    rw [if_neg (by omega), if_neg (by omega)]
  refine ⟨mtu.toNat, by omega, by omega, by omega, h1, h2, hE, ?_⟩
  unfold splitB
  rw [if_pos hE]
theorem splitL_get (xs : List B8) (id : BitVec 64) (C k : Nat) (h : k < C) : (splitL xs id C)[k]? = some (dgram (fragB xs id C k)) := by
  unfold splitL
  rw [List.getElem?_map, List.getElem?_range h]
  rfl

theorem St.cellNo {w w' : World} {G : Nat → Prop} {x : Addr} {v : Value} (s : St No w G w') (h : w.cell? x = some v) : w'.cell? x = some v := by
  rw [World.cell?_of_block (w := w) (s.block _ (World.block_lt_of_cell? w _ h) (fun h => h))]
  exact h
set_option maxRecDepth 100000 in
set_option maxHeartbeats 4000000 in
theorem fragSizes_walk (a : Option Addr) (c : Nat) (xs : List B8) (hl : xs.length ≤ 140737488351232) (id : BitVec 64) (mtu : Int) (w : World) (ha : Bs w a xs) :
    Calls Try.prog 7 #[.slice a xs.length c, .int .u64 (id.toNat : Int), .int .i64 mtu] w fun e w' => e = .returned (.bool true) ∧ Below w.heap.size w w' := by
  have HA := Lib.hid ha
  clear ha
  go_enter Try.func7, Try.ntmps7
  go_wp2_with fail
  refine (clone4_calls a c xs hl w HA.out).mono ?_
  rintro e w1 ⟨v1, rfl, ho1, hs1⟩
  obtain ⟨a1, c1, rfl, q1, q2, _, q4⟩ := ho1.form
  have HO1 := Lib.hid ho1
  have HS1 : Hid (St No w No w1) := Lib.hid (hs1.drop (fun _ h => h.elim))
  have HQ4 : Hid (a1 = none → c1 = 0) := Lib.hid (fun h => (q4 h).2)
  have HQ2 := Lib.hid q2
  clear ho1 hs1 q4 q2
  go_wp2_with fail
  refine (split_calls a1 c1 xs hl q1 HQ2.out HQ4.out id mtu w1 HO1.out.bs).mono ?_
  rintro e w2 ⟨V2, vs2, rfl, hg2, hs2⟩
  obtain ⟨a2, c2, rfl⟩ := hg2.form
  have HG2 := Lib.hid hg2
  have HS2 : Hid (St No w No w2) := Lib.hid (HS1.out.trans (hs2.drop (fun _ h => h.elim)))
  clear hg2 hs2 q1
  have HFI := Lib.hid (fits4_calls a xs.length c hl mtu w2)
  cases hfit : fitsN xs.length mtu with
  | false =>
    rw [hfit] at HFI
    obtain ⟨her, hds⟩ := fits_no (id := id) hfit
    rw [hds] at HG2 ⊢
    have HER := Lib.hid her
    clear her hds hfit
    generalize splitE xs.length mtu = er at *
    rcases HER.out with rfl | rfl
    · go_wp2_with (go_at_call 45; refine HFI.out.mono ?_; rintro e w3 ⟨rfl, rfl⟩)
      go_ret
      exact ⟨rfl, HS2.out.below⟩
    · go_wp2_with (go_at_call 45; refine HFI.out.mono ?_; rintro e w3 ⟨rfl, rfl⟩)
      go_ret
      exact ⟨rfl, HS2.out.below⟩
  | true =>
    rw [hfit] at HFI
    obtain ⟨m, rfl, b1, b2, b3, b4, hse, hds⟩ := fits_yes (id := id) hfit
    have hsf := split_facts b1 b2 b3 b4
    have HFR : Hid (∀ k, k < countN xs.length m → shapedN xs.length (countN xs.length m) k (partB xs (countN xs.length m) k).length ∧ 1 ≤ (partB xs (countN xs.length m) k).length ∧ (partB xs (countN xs.length m) k).length ≤ m - 18) := Lib.hid (fun k hk => fragB_shaped (id := id) b1 b2 b3 b4 hk)
    have HCL : Hid ((countN xs.length m - 1) * (m - 18) < xs.length) := Lib.hid ((ceil_lt (by omega)).1 (by show countN xs.length m - 1 < countN xs.length m; omega))
    rw [hse, hds]
    rw [hds] at HG2
    generalize hC : countN xs.length m = C at *
    have hnl := splitL_len xs id C
    have HLG : Hid (∀ k, k < C → (splitL xs id C)[k]? = some (dgram (fragB xs id C k))) := Lib.hid (fun k h => splitL_get xs id C k h)
    generalize splitL xs id C = ds at *
    rw [hnl] at HG2 ⊢
    have HNL := Lib.hid hnl
    have HPA : Hid (∀ k, xs.take (k * sizeN xs.length C) ++ partB xs C k = xs.take ((k + 1) * sizeN xs.length C)) := Lib.hid (fun k => parts_app xs C k)
    have HSF := Lib.hid hsf
    have c1' := hsf.1
    have c2' := hsf.2.1
    generalize sizeN xs.length C = S at *
    clear hse hds hfit hC hsf hnl
    have hM : (C - 1) * (m - 18) ≤ 90 * 1024 := Nat.mul_le_mul (by omega) (by omega)
    have hw1 : IntKind.i64.wrap (((C : Int) - 1) * ((m : Int) - 18)) = (((C - 1) * (m - 18) : Nat) : Int) := by
      have e : (((C - 1) * (m - 18) : Nat) : Int) = ((C : Int) - 1) * ((m : Int) - 18) := by rw [Int.natCast_mul, Int.natCast_sub (by omega), Int.natCast_sub (by omega)]; rfl
      rw [IntKind.wrap_i64, ← e]; omega
    have hMl := HCL.out
    generalize (C - 1) * (m - 18) = M at *
    have t1 : decide ((C : Int) < 1) = false := decide_eq_false (by omega)
    have t1' : decide (C < 1) = false := decide_eq_false (by omega)
    have t2 : decide ((xs.length : Int) ≤ (M : Int)) = false := decide_eq_false (by omega)
    have t2' : decide (xs.length ≤ M) = false := decide_eq_false (by omega)
    clear hMl
    go_wp2_with (go_at_call 45; refine HFI.out.mono ?_; rintro e w3 ⟨rfl, rfl⟩)
    go_loopw [10, 11, 12, 13] (fun V i _ _ wr => ∃ k : Nat, k ≤ C ∧ i = .int .i64 k ∧ Hid (OwB wr V (xs.take (k * S))) ∧ Hid (∀ k, fpV V k → w2.heap.size ≤ k) ∧ Hid (Grams wr (.slice a2 C c2) vs2 ds) ∧ Hid (St No w No wr) ∧ Hid (w2.heap.size ≤ wr.heap.size)) (fun _ i _ _ _ => C - (intOf i).toNat)
    case atStart => exact ⟨0, by omega, rfl, Lib.hid (by rw [Nat.zero_mul, List.take_zero]; exact OwB.nil _), Lib.hid (fun k hk => by simp [fpV, Value.ownBlock] at hk), HG2, HS2, Lib.hid (Nat.le_refl _)⟩
    case round =>
      obtain ⟨k, hk, rfl, HOV, HNV, HGR, HWR, HZR⟩ := hrel
      have hGin := HG2.out.in
      have HGIN := Lib.hid hGin
      clear hGin
      by_cases hlt : k < C
      · have hdk := HLG.out k hlt
        obtain ⟨hsh, hp1, hp2⟩ := HFR.out k hlt
        have hlook := dgram_look (fragB xs id C k) hsh hp1 (by show (partB xs C k).length ≤ _; omega)
        have hdl : (dgram (fragB xs id C k)).length = 18 + (partB xs C k).length := dgram_len _
        have hkl : k < ds.length := by rw [HNL.out]; exact hlt
        obtain ⟨v4, hv4, hov⟩ := HGR.out.get k hkl
        have hdk2 : ds[k] = dgram (fragB xs id C k) := by
          rw [List.getElem?_eq_getElem hkl] at hdk
          exact Option.some.inj hdk
        rw [hdk2] at hov
        have hown := HGR.out.own
        rw [HNL.out] at hown
        obtain ⟨y2, rfl, hc2⟩ := hown.atG k (by rw [HGR.out.len]; exact hkl)
        rw [List.getElem?_eq_getElem (by rw [HGR.out.len]; exact hkl)] at hv4
        rw [Option.some.inj hv4] at hc2
        obtain ⟨b4', d4, e4, hb4, _⟩ := hov.any
        subst e4
        have hpa := HPA.out k
        have HPK := Lib.hid hpa
        have HLK : Hid (lookE (dgram (fragB xs id C k)) = 0 ∧ lookF (dgram (fragB xs id C k)) = fragB xs id C k) := Lib.hid hlook
        generalize hdg : dgram (fragB xs id C k) = dg at *
        have HFP : Hid ((fragB xs id C k).part = partB xs C k) := Lib.hid rfl
        unfold fragB at HLK
        generalize hpt : partB xs C k = pt at *
        have HB4 := Lib.hid hb4
        have HTK := Lib.hid (show (xs.take (k * S)).length ≤ 4096 by rw [List.length_take]; omega)
        have HDL := Lib.hid hdl
        have hdl2 : dg.length ≤ 1024 := by omega
        clear hdk hsh hlook hkl hv4 hov hdk2 hown hpa hb4 hdg hpt HFP hdl
        go_wp2_with fail
        refine (clone4_calls b4' d4 dg (by omega) _ HB4.out).mono ?_
        rintro e w4 ⟨v5, rfl, ho5, hs5⟩
        obtain ⟨a5, c5, rfl, r1, r2, _, _⟩ := ho5.form
        have HO5 := Lib.hid ho5
        have HS5 : Hid (St No _ No w4) := Lib.hid (hs5.drop (fun _ h => h.elim))
        have HR2 := Lib.hid r2
        clear ho5 hs5 r2
        go_wp2_with fail
        refine (look_calls a5 c5 dg (by omega) r1 HR2.out w4 HO5.out.bs).mono ?_
        rw [HLK.out.1, HLK.out.2]
        rintro e w5 ⟨V6, rfl, ho6, hs6⟩
        dsimp only at ho6 ⊢
        obtain ⟨a6, c6, rfl, _, _, _, hn6⟩ := ho6.form
        have HN6 : Hid (a6 = none → c6 = 0) := Lib.hid (fun h => (hn6 h).2)
        have hc5 := St.cellNo (HS5.out.trans hs6) hc2
        have HO6 := Lib.hid (ho6.newB (.cells #[.int .u64 (id.toNat : Int), .int .i64 (k : Int), .int .i64 (C : Int), .int .i64 (xs.length : Int), .slice a6 pt.length c6] 70))
        have HS6 : Hid (St No wr No (w5.alloc (.cells #[.int .u64 (id.toNat : Int), .int .i64 (k : Int), .int .i64 (C : Int), .int .i64 (xs.length : Int), .slice a6 pt.length c6] 70))) := Lib.hid ((HS5.out.trans (hs6.drop (G' := No) (fun _ h => h.elim))).trans (St.alloc' No _ _))
        have hc6 := St.cellNo HS6.out hc2
        have HO7 := Lib.hid (Ob.alloc w5 #[.int .u64 (id.toNat : Int), .int .i64 (k : Int), .int .i64 (C : Int), .int .i64 (xs.length : Int), .slice a6 pt.length c6] 70)
        have g1 : decide ((m : Int) < (dg.length : Int)) = false := decide_eq_false (by have := HDL.out; omega)
        have g1' : decide (m < dg.length) = false := decide_eq_false (by have := HDL.out; omega)
        have g2 : ((dg.length : Int) != (pt.length : Int) + 18) = false := by rw [bne_eq_false_iff_eq]; have := HDL.out; omega
        have hptl : pt.length ≤ 1024 := by omega
        clear ho6 hn6 hs6 hc5 hc2
        go_wp2
        have kp0 : (w5.alloc (.cells #[.int .u64 (id.toNat : Int), .int .i64 (k : Int), .int .i64 (C : Int), .int .i64 (xs.length : Int), .slice a6 pt.length c6] 70)).cell? ⟨w5.heap.size, 0, none⟩ = some (.int .u64 (id.toNat : Int)) := by rw [HO7.out.cell 0]; rfl
        have kp1 : (w5.alloc (.cells #[.int .u64 (id.toNat : Int), .int .i64 (k : Int), .int .i64 (C : Int), .int .i64 (xs.length : Int), .slice a6 pt.length c6] 70)).cell? ⟨w5.heap.size, 1, none⟩ = some (.int .i64 (k : Int)) := by rw [HO7.out.cell 1]; rfl
        have kp2 : (w5.alloc (.cells #[.int .u64 (id.toNat : Int), .int .i64 (k : Int), .int .i64 (C : Int), .int .i64 (xs.length : Int), .slice a6 pt.length c6] 70)).cell? ⟨w5.heap.size, 2, none⟩ = some (.int .i64 (C : Int)) := by rw [HO7.out.cell 2]; rfl
        have kp3 : (w5.alloc (.cells #[.int .u64 (id.toNat : Int), .int .i64 (k : Int), .int .i64 (C : Int), .int .i64 (xs.length : Int), .slice a6 pt.length c6] 70)).cell? ⟨w5.heap.size, 3, none⟩ = some (.int .i64 (xs.length : Int)) := by rw [HO7.out.cell 3]; rfl
        have kp4 : (w5.alloc (.cells #[.int .u64 (id.toNat : Int), .int .i64 (k : Int), .int .i64 (C : Int), .int .i64 (xs.length : Int), .slice a6 pt.length c6] 70)).cell? ⟨w5.heap.size, 4, none⟩ = some (.slice a6 pt.length c6) := by rw [HO7.out.cell 4]; rfl
        generalize (w5.alloc (.cells #[.int .u64 (id.toNat : Int), .int .i64 (k : Int), .int .i64 (C : Int), .int .i64 (xs.length : Int), .slice a6 pt.length c6] 70)) = w6 at *
        generalize w5.heap.size = p12 at *
        go_quiet (fail)
        have HOV7 : Hid (OwB (w6.drewN nq) u10 (xs.take (k * S))) := Lib.hid ((HOV.out.st HS6.out (Dj.no _)).st (St.drewN No w6 nq) (Dj.no _))
        have HO67 : Hid (Bs (w6.drewN nq) a6 pt) := Lib.hid (HO6.out.bs.drewN nq)
        have HG7 : Hid (Grams (w6.drewN nq) (.slice (some y2) C c2) vs2 ds) := Lib.hid ((HGR.out.st HS6.out (Dj.no _)).st (St.drewN No w6 nq) (Dj.no _))
        have HW7 : Hid (St No w No (w6.drewN nq)) := Lib.hid ((HWR.out.trans HS6.out).trans (St.drewN No w6 nq))
        have HZ7 : Hid (w2.heap.size ≤ (w6.drewN nq).heap.size) := Lib.hid (Nat.le_trans HZR.out HS6.out.size)
        go_wp2_with (at_builtin; refine wpList_appB rfl (.tmp 118) (.tmp 120) rfl _ (xs.take (k * S)) rfl HOV7.out a6 pt.length c6 pt rfl rfl HO67.out HN6.out (by have := HTK.out; omega) ?_; intro v8 w8 ho8 hs8 _; have HO8 := Lib.hid ho8; have HS8 := Lib.hid hs8; clear ho8 hs8)
        go_roundw
        case rel =>
          refine ⟨k + 1, by omega, by go_num, Lib.hid (by rw [← HPK.out]; exact HO8.out), Lib.hid (fun j hj => (HS8.out.new j hj).elim (HNV.out j) (fun h => Nat.le_trans HZ7.out h)), Lib.hid (HG7.out.st HS8.out (fun j h1 h2 => absurd (HGIN.out j h2) (Nat.not_lt.2 (HNV.out j h1)))), Lib.hid ?_, Lib.hid (Nat.le_trans HZ7.out HS8.out.size)⟩
          exact (HW7.out.toNew.trans (HS8.out.wide (F' := Nw w) (fun j hj => Nat.le_trans HS2.out.size (HNV.out j hj)) (fun j hj => .inr hj))).drop (fun _ h => h.elim)
        case measure => simp [intOf]; omega
      · obtain rfl : k = C := by omega
        have hov := HOV.out
        rw [List.take_of_length_le HSF.out.2.2.2.2.2] at hov
        obtain ⟨a9, c9, rfl, hb9, _⟩ := hov.any
        have hv1 := conv_bs (w := wr) (c := c9) hb9
        have hv2 := conv_bs (w := wr) (c := c) (HA.out.st HWR.out (Dj.no _))
        clear hov hb9
        go_wp2
        go_ret
        exact ⟨by simp, HWR.out.below⟩
end Go.Proofs.Ytoeafacamapofaa
