
/-
  FragLooks, walked: it returns true.
-/
import Derived.Test.YtoeafacamapofaaFgStr
import Derived.Test.YtoeafacamapofaaFgLook3
import Derived.Test.YtoeafacamapofaaFgLookR4
namespace Go.Proofs.Ytoeafacamapofaa
open Go.RowKit
set_option linter.unusedVariables false
set_option linter.unusedSimpArgs false

theorem St.cellL {w w' : World} {G : Nat → Prop} {x : Addr} {v : Value} (s : St No w G w') (h : w.cell? x = some v) : w'.cell? x = some v := by
  rw [World.cell?_of_block (w := w) (s.block _ (World.block_lt_of_cell? w _ h) (fun h => h))]
  exact h
set_option maxRecDepth 100000 in
set_option maxHeartbeats 4000000 in
theorem looks_calls (a : Option Addr) (c : Nat) (xs : List B8) (hl : xs.length ≤ 140737488351300) (w : World) (ha : Bs w a xs) :
    Calls Try.prog 30 #[.slice a xs.length c] w fun e w' => e = .returned (.bool true) ∧ St No w No w' := by
  have HA := Lib.hid ha
  clear ha
  go_enter Try.func30, Try.ntmps30
  go_wp2_with fail
  refine (clone4w_calls a c xs hl w HA.out).mono ?_
  rintro e w1 ⟨v1, rfl, ho1, hs1⟩
  obtain ⟨a1, c1, rfl, q1, q2, _, _⟩ := ho1.form
  have HO1 := Lib.hid ho1
  have HQ2 := Lib.hid q2
  have HS1 : Hid (St No w No w1) := Lib.hid (hs1.drop (fun _ h => h.elim))
  clear ho1 hs1 q2
  go_wp2_with fail
  refine (refLook_calls a1 c1 xs hl q1 HQ2.out w1 HO1.out.bs).mono ?_
  have HLK : Hid (∀ a5 c5 W, xs.length ≤ c5 → c5 ≤ maxLen → Bs W a5 xs → Calls Try.prog 46 #[.slice a5 xs.length c5] W (FOut W (lookF xs) (lookE xs))) := Lib.hid (fun a5 c5 W h1 h2 h3 => look_calls a5 c5 xs hl h1 h2 W h3)
  generalize lookF xs = f at *
  generalize lookE xs = er at *
  obtain ⟨id, I, C, T, part⟩ := f
  rintro e w2 ⟨V2, rfl, ho2, hs2⟩
  dsimp only at ho2 HLK ⊢
  obtain ⟨a2, c2, rfl, _, _, _, _⟩ := ho2.form
  have HX2 := Lib.hid (ho2.newB (.cells #[.int .u64 (id.toNat : Int), .int .i64 (I : Int), .int .i64 (C : Int), .int .i64 (T : Int), .slice a2 part.length c2] 73))
  have HO2 := Lib.hid (Ob.alloc w2 #[.int .u64 (id.toNat : Int), .int .i64 (I : Int), .int .i64 (C : Int), .int .i64 (T : Int), .slice a2 part.length c2] 73)
  have HS2 : Hid (St No w No (w2.alloc (.cells #[.int .u64 (id.toNat : Int), .int .i64 (I : Int), .int .i64 (C : Int), .int .i64 (T : Int), .slice a2 part.length c2] 73))) := Lib.hid ((HS1.out.trans (hs2.drop (G' := No) (fun _ h => h.elim))).trans (St.alloc' No _ _))
  clear ho2 hs2 q1
  go_wp2_with fail
  generalize (w2.alloc (.cells #[.int .u64 (id.toNat : Int), .int .i64 (I : Int), .int .i64 (C : Int), .int .i64 (T : Int), .slice a2 part.length c2] 73)) = w3 at *
  generalize w2.heap.size = px at *
  refine (roomyw_calls a c xs hl w3 (HA.out.st HS2.out (Dj.no _))).mono ?_
  rintro e w4 ⟨g, c4, rfl, hc1, hc2, hr4, hg4, hs4⟩
  have HR4 := Lib.hid hr4
  have HS4 := Lib.hid hs4
  have HC2 := Lib.hid hc2
  have HGN : Hid (w.heap.size ≤ g) := Lib.hid (Nat.le_trans HS2.out.size hg4)
  have HGP : Hid (¬ fpV (.slice (some ⟨g, 0, none⟩) xs.length c4) px) := Lib.hid (fun h => by simp [fpV, Value.ownBlock] at h; have := HO2.out.lt; omega)
  have HGX : Hid (Dj (fpV (.slice (some ⟨g, 0, none⟩) xs.length c4)) (fpV (.slice a2 part.length c2))) := Lib.hid (fun k h1 h2 => by simp [fpV, Value.ownBlock] at h1; have := HX2.out.in k h2; omega)
  unfold maxLen at hc2
  clear hr4 hg4 hs4
  go_wp2_with fail
  refine (HLK.out (some ⟨g, 0, none⟩) c4 w4 (by omega) HC2.out HR4.out.own.bs).mono ?_
  rintro e w5 ⟨V5, rfl, ho5, hs5⟩
  dsimp only at ho5 ⊢
  obtain ⟨a5, c5, rfl, _, _, _, _⟩ := ho5.form
  have HY5 := Lib.hid (ho5.newB (.cells #[.int .u64 (id.toNat : Int), .int .i64 (I : Int), .int .i64 (C : Int), .int .i64 (T : Int), .slice a5 part.length c5] 70))
  have HO5 := Lib.hid (Ob.alloc w5 #[.int .u64 (id.toNat : Int), .int .i64 (I : Int), .int .i64 (C : Int), .int .i64 (T : Int), .slice a5 part.length c5] 70)
  have HS5 : Hid (St No w4 No (w5.alloc (.cells #[.int .u64 (id.toNat : Int), .int .i64 (I : Int), .int .i64 (C : Int), .int .i64 (T : Int), .slice a5 part.length c5] 70))) := Lib.hid ((hs5.drop (G' := No) (fun _ h => h.elim)).trans (St.alloc' No _ _))
  have HGY : Hid (Dj (fpV (.slice (some ⟨g, 0, none⟩) xs.length c4)) (fpV (.slice a5 part.length c5))) := Lib.hid (HR4.out.own.in.dj_new hs5).symm
  have HGQ : Hid (¬ fpV (.slice (some ⟨g, 0, none⟩) xs.length c4) w5.heap.size) := Lib.hid (fun h => by have := HR4.out.own.in _ h; have := hs5.size; omega)
  clear ho5 hs5
  go_wp2_with fail
  generalize (w5.alloc (.cells #[.int .u64 (id.toNat : Int), .int .i64 (I : Int), .int .i64 (C : Int), .int .i64 (T : Int), .slice a5 part.length c5] 70)) = w6 at *
  generalize w5.heap.size = py at *
  have HR6 := Lib.hid (HR4.out.st HS5.out (fun h => h))
  have HW6 := Lib.hid ((HS2.out.trans HS4.out).trans HS5.out)
  have HRK := Lib.hid (roomKeptw_calls g c4 xs hl hc1 HC2.out w6 HR6.out)
  have hv1 := conv_bs (w := w6) (c := c4) HR6.out.own.bs
  have hv2 := conv_bs (w := w6) (c := c) (HA.out.st HW6.out (Dj.no _))
  have hne : (er != er) = false := by simp
  have hq1 : ((strB xs).toList == (strB xs).toList) = true := by simp
  refine HRK.out.mono ?_
  rintro e w7 ⟨rfl, rfl⟩
  go_wp2_with (go_at_call 36; refine (num4_calls er _).mono ?_; rintro e w7 ⟨rfl, rfl⟩)
  refine (spoilw_calls (.slice (some ⟨g, 0, none⟩) xs.length c4) xs hl 34#8 w6 HR6.out.own).mono ?_
  rintro e w7 ⟨rfl, F7, hs7⟩
  have kx := (HO2.out.move ((HS4.out.trans HS5.out).block _ HO2.out.lt (fun h => h))).move (hs7.block _ (Nat.lt_of_lt_of_le HO2.out.lt (Nat.le_trans HS4.out.size HS5.out.size)) HGP.out)
  have ky := HO5.out.move (hs7.block _ HO5.out.lt HGQ.out)
  have kx0 : w7.cell? ⟨px, 0, none⟩ = some (.int .u64 (id.toNat : Int)) := by rw [kx.cell 0]; rfl
  have kx1 : w7.cell? ⟨px, 1, none⟩ = some (.int .i64 (I : Int)) := by rw [kx.cell 1]; rfl
  have kx2 : w7.cell? ⟨px, 2, none⟩ = some (.int .i64 (C : Int)) := by rw [kx.cell 2]; rfl
  have kx3 : w7.cell? ⟨px, 3, none⟩ = some (.int .i64 (T : Int)) := by rw [kx.cell 3]; rfl
  have kx4 : w7.cell? ⟨px, 4, none⟩ = some (.slice a2 part.length c2) := by rw [kx.cell 4]; rfl
  have ky0 : w7.cell? ⟨py, 0, none⟩ = some (.int .u64 (id.toNat : Int)) := by rw [ky.cell 0]; rfl
  have ky1 : w7.cell? ⟨py, 1, none⟩ = some (.int .i64 (I : Int)) := by rw [ky.cell 1]; rfl
  have ky2 : w7.cell? ⟨py, 2, none⟩ = some (.int .i64 (C : Int)) := by rw [ky.cell 2]; rfl
  have ky3 : w7.cell? ⟨py, 3, none⟩ = some (.int .i64 (T : Int)) := by rw [ky.cell 3]; rfl
  have ky4 : w7.cell? ⟨py, 4, none⟩ = some (.slice a5 part.length c5) := by rw [ky.cell 4]; rfl
  have hvx := conv_bs (c := c2) (((HX2.out.st (HS4.out.trans HS5.out) (Dj.no _)).st hs7 HGX.out).bs)
  have hvy := conv_bs (c := c5) ((HY5.out.st hs7 HGY.out).bs)
  have hq2 : ((strB part).toList == (strB part).toList) = true := by simp
  have HEND : Hid (St No w No w7) := Lib.hid ((HW6.out.toNew.trans (hs7.wide (F' := Nw w) (fun k hk => by simp [fpV, Value.ownBlock] at hk; subst hk; exact HGN.out) (fun k hk => .inr hk))).drop (fun _ h => h.elim))
  clear hs7 kx ky hv1 hv2 HRK
  go_wp2
  go_ret
  exact ⟨rfl, HEND.out⟩

theorem markedB_len (xs : List B8) : (markedB xs).length = xs.length + 6 := by unfold markedB; rw [sealB_len]; simp
set_option maxRecDepth 100000 in
set_option maxHeartbeats 4000000 in
theorem fragLooks_walk (a : Option Addr) (c : Nat) (xs : List B8) (hl : xs.length ≤ 140737488351232) (w : World) (ha : Bs w a xs) :
    Calls Try.prog 4 #[.slice a xs.length c] w fun e w' => e = .returned (.bool true) ∧ Below w.heap.size w w' := by
  have HA := Lib.hid ha
  clear ha
  go_enter Try.func4, Try.ntmps4
  go_wp2_with fail
  refine (clone4_calls a c xs hl w HA.out).mono ?_
  rintro e w1 ⟨v1, rfl, ho1, hs1⟩
  have HO1 := Lib.hid ho1
  have HS1 := Lib.hid hs1
  clear ho1 hs1
  go_wp2_with fail
  refine (sealed_calls v1 xs (by omega) w1 HO1.out).mono ?_
  rintro e w2 ⟨v2, rfl, ho2, hs2⟩
  obtain ⟨a2, c2, rfl, hb2, _⟩ := ho2.any
  have HB2 := Lib.hid hb2
  have HS2 : Hid (St No w No w2) := Lib.hid ((HS1.out.trans hs2).drop (fun _ h => h.elim))
  clear ho2 hb2 hs2
  go_wp2_with fail
  refine (clone4_calls a c xs hl w2 (HA.out.st HS2.out (Dj.no _))).mono ?_
  rintro e w3 ⟨v3, rfl, ho3, hs3⟩
  obtain ⟨a3, c3, rfl, hb3, hn3⟩ := ho3.any
  have HB3 := Lib.hid hb3
  have HN3 := Lib.hid hn3
  have HS3 : Hid (St No w2 No w3) := Lib.hid (hs3.drop (fun _ h => h.elim))
  clear ho3 hb3 hs3 hn3
  go_wp2_with fail
  refine (marked4_calls a3 c3 xs hl HN3.out w3 HB3.out).mono ?_
  rintro e w4 ⟨v4, rfl, ho4, hs4⟩
  obtain ⟨a4, c4, rfl, hb4, _⟩ := ho4.any
  have HB4 := Lib.hid hb4
  have HS4 : Hid (St No w2 No w4) := Lib.hid (HS3.out.trans (hs4.drop (fun _ h => h.elim)))
  clear ho4 hb4 hs4
  have HOL := Lib.hid (Ob.alloc w4 #[.slice a xs.length c, .slice a2 (sealB xs).length c2, .slice a4 (markedB xs).length c4] 25)
  have HS5 : Hid (St No w No (w4.alloc (.cells #[.slice a xs.length c, .slice a2 (sealB xs).length c2, .slice a4 (markedB xs).length c4] 25))) := Lib.hid ((HS2.out.trans HS4.out).trans (St.alloc' No _ _))
  have HEL : Hid (∀ k, k < 3 → ∃ b ds d, (w4.alloc (.cells #[.slice a xs.length c, .slice a2 (sealB xs).length c2, .slice a4 (markedB xs).length c4] 25)).cell? ⟨w4.heap.size, k, none⟩ = some (.slice b (List.length ds) d) ∧ Bs (w4.alloc (.cells #[.slice a xs.length c, .slice a2 (sealB xs).length c2, .slice a4 (markedB xs).length c4] 25)) b ds ∧ List.length ds ≤ 140737488351300) := Lib.hid (fun k hk => by
    have h3 : k = 0 ∨ k = 1 ∨ k = 2 := by omega
    rcases h3 with rfl | rfl | rfl
    · exact ⟨a, xs, c, by rw [HOL.out.cell 0]; rfl, HA.out.st HS5.out (Dj.no _), by omega⟩
    · exact ⟨a2, sealB xs, c2, by rw [HOL.out.cell 1]; rfl, (HB2.out.st HS4.out (Dj.no _)).st (St.alloc' No _ _) (Dj.no _), by rw [sealB_len]; omega⟩
    · exact ⟨a4, markedB xs, c4, by rw [HOL.out.cell 2]; rfl, HB4.out.st (St.alloc' No _ _) (Dj.no _), by rw [markedB_len]; omega⟩)
  generalize (sealB xs).length = n2 at *
  generalize (markedB xs).length = n4 at *
  go_wp2
  generalize (w4.alloc (.cells #[.slice a xs.length c, .slice a2 n2 c2, .slice a4 n4 c4] 25)) = w5 at *
  generalize w4.heap.size = gB at *
  go_loopw [4, 5] (fun i _ wr => ∃ k : Nat, k ≤ 3 ∧ i = .int .i64 k ∧ Hid (St No w5 No wr)) (fun i _ _ => 3 - (intOf i).toNat)
  case atStart => exact ⟨0, by omega, rfl, Lib.hid (St.refl _ _)⟩
  case round =>
    obtain ⟨k, hk, rfl, HS⟩ := hrel
    by_cases hlt : k < 3
    · obtain ⟨b, ds, d, hc, hb, hdl⟩ := HEL.out k hlt
      have hcr := St.cellL HS.out hc
      have HBR := Lib.hid (hb.st HS.out (Dj.no _))
      clear hc hb
      go_wp2_with fail
      refine (looks_calls b d ds hdl _ HBR.out).mono ?_
      rintro e w6 ⟨rfl, hs6⟩
      have HS6 := Lib.hid (HS.out.trans hs6)
      clear hs6
      go_wp2
      go_roundw
      case rel => exact ⟨k + 1, by omega, by go_num, HS6⟩
      case measure => simp [intOf]; omega
    · obtain rfl : k = 3 := by omega
      go_wp2
      go_ret
      exact ⟨rfl, (HS5.out.trans HS.out).below⟩
end Go.Proofs.Ytoeafacamapofaa
