
/-
  The walks over Frame, the program's and the reference's.
-/
import Derived.Test.YtfhoekcmkbeabaaCwWriter5
import Derived.Test.YtfhoekcmkbeabaaCwRefB
import Derived.Test.YtfhoekcmkbeabaaCwReg
import Derived.Test.YtfhoekcmkbeabaaCwLay
namespace Go.Proofs.Ytfhoekcmkbeabaa
open Go.RowKit
set_option linter.unusedVariables false
set_option linter.unusedSimpArgs false

def sizeB (n : Nat) : List B8 := beTo (BitVec.ofNat 64 n) 4 4
/-- the frame of a body -/
def frameB (bs : List B8) : List B8 := sizeB bs.length ++ beTo ((crcB (sizeB bs.length ++ bs)).setWidth 64) 4 4 ++ bs
def frameE (bs : List B8) : Int := if bs.length ≤ 16777208 then 0 else 28
def frameO (bs : List B8) : List B8 := if bs.length ≤ 16777208 then frameB bs else []
def FramePost (w : World) (bs : List B8) (e : Ending) (w' : World) : Prop := ∃ v, e = .returned (.tuple #[v, .int .i64 (frameE bs)]) ∧ OwB w' v (frameO bs) ∧ St No w (fpV v) w'
theorem FramePost.big {w w' : World} {bs : List B8} {e : Ending} (h : ¬ bs.length ≤ 16777208) (he : e = .returned (.tuple #[.slice none 0 0, .int .i64 28])) (s : St No w No w') : FramePost w bs e w' :=
  ⟨.slice none 0 0, by rw [he]; unfold frameE; rw [if_neg h], by unfold frameO; rw [if_neg h]; exact Own.nil _ _ _, s.drop (fun k hk => by simp [fpV, Value.ownBlock] at hk)⟩
theorem Bs.there {w : World} {a : Option Addr} {xs : List B8} (h : Bs w a xs) : xs = [] ∨ ∀ k, fpA a k → k < w.heap.size := by
  cases xs with
  | nil => exact .inl rfl
  | cons b bs =>
    obtain ⟨x, rfl, hx⟩ := h.at 0 (by simp)
    have hl := World.block_lt_of_cell? w _ hx
    rw [addr_block] at hl
    refine .inr ?_
    rintro k ⟨y, hy, rfl⟩
    cases hy
    exact hl
theorem WS.put_fit {s : WS} {bs : List B8} (he : s.err = 0) (h : (bs.length : Int) + (s.out.length : Int) ≤ s.lim) : s.put bs = ⟨s.lim, s.out ++ bs, 0⟩ := by
  unfold WS.put
  rw [if_pos he, if_neg (by omega)]
  cases s
  simp only at he
  subst he
  rfl

theorem apart_lo {a : Option Addr} {bs : List B8} {B : Nat} {F : Nat → Prop} (h : bs = [] ∨ ∀ k, fpA a k → k < B) (hF : Lo B F) : Apart F a bs :=
  h.imp id (fun h k hk h2 => absurd (h k h2) (Nat.not_lt.2 (hF k hk)))
theorem putT_fit (lim : Int) (out bs : List B8) (h : (bs.length : Int) + (out.length : Int) ≤ lim) : putT true ⟨lim, out, 0⟩ bs = ⟨lim, out ++ bs, 0⟩ := by
  unfold putT
  rw [if_pos rfl]
  exact WS.put_fit (s := ⟨lim, out, 0⟩) rfl h
theorem crcMore_append (xs ys : List B8) : crcMoreB (crcB xs) ys = crcB (xs ++ ys) := by
  unfold crcB crcMoreB
  rw [List.foldl_append]
  simp
theorem digits_x (x : BitVec 64) (X : Int) (hX : X = (x.toNat : Int)) (n : Nat) (hn : n ≤ 8) (w : World) :
    Calls Try.prog 81 #[.int .u64 X, .int .i64 (n : Int)] w fun e w' => ∃ v, e = .returned v ∧ OwB w' v (beTo x n n) ∧ St No w (fpV v) w' := by
  subst hX
  exact digits_calls x n hn w
set_option maxRecDepth 100000 in
set_option maxHeartbeats 1000000 in
theorem refFrame_calls (a : Option Addr) (c : Nat) (bs : List B8) (hn : bs.length ≤ 140737488351232) (w : World) (hb : Bs w a bs) :
    Calls Try.prog 39 #[.slice a bs.length c] w (FramePost w bs) := by
  have HB := Lib.hid hb
  clear hb
  by_cases hle : bs.length ≤ 16777208
  · have HLE := Lib.hid hle
    have hX : IntKind.u64.wrap ((bs.length : Nat) : Int) = ((BitVec.ofNat 64 bs.length).toNat : Int) := by rw [BitVec.toNat_ofNat, Nat.mod_eq_of_lt (by omega), wrap_u64]; omega
    have hX2 : ((bs.length : Nat) : Int) = ((BitVec.ofNat 64 bs.length).toNat : Int) := by rw [BitVec.toNat_ofNat, Nat.mod_eq_of_lt (by omega)]
    have HX := Lib.hid hX
    have HX2 := Lib.hid hX2
    clear hX hX2
    have HSL : Hid ((sizeB bs.length).length = 4) := Lib.hid (beTo_len _ _ _)
    have HSB : Hid (beTo (BitVec.ofNat 64 bs.length) 4 4 = sizeB bs.length) := Lib.hid rfl
    generalize BitVec.ofNat 64 bs.length = x at *
    go_enter Try.func39, Try.ntmps39
    go_wp2_with fail
    refine (digits_x x _ (by first | exact HX2.out | exact HX.out) 4 (by omega) w).mono ?_
    rintro e w1 ⟨v1, rfl, ho1, hs1⟩
    rw [HSB.out] at ho1
    generalize hsz : sizeB bs.length = sz at *
    have HSZ := Lib.hid hsz
    clear hsz
    obtain ⟨a1, c1, rfl, _, _, _, _⟩ := ho1.form
    have HO1 := Lib.hid ho1
    have HS1 := Lib.hid hs1
    have HB1 : Hid (Bs w1 a bs) := Lib.hid (HB.out.st hs1 (Dj.no _))
    clear ho1 hs1
    go_wp2_with fail
    refine (join2_calls a1 c1 sz a c bs (by have := HSL.out; omega) w1 HO1.out.bs HB1.out).mono ?_
    rintro e w2 ⟨v2, rfl, ho2, hs2⟩
    have HZL : Hid ((sz ++ bs).length ≤ 140737488355328) := Lib.hid (by have := HSL.out; simp; omega)
    have HFB : Hid (frameB bs = sz ++ beTo ((crcB (sz ++ bs)).setWidth 64) 4 4 ++ bs) := Lib.hid (by unfold frameB; rw [HSZ.out])
    generalize sz ++ bs = zs at ho2 HZL HFB
    obtain ⟨a2, c2, rfl, _, _, _, _⟩ := ho2.form
    have HO2 := Lib.hid ho2
    have HS2 := Lib.hid hs2
    have HB2 : Hid (Bs w2 a bs) := Lib.hid (HB1.out.st hs2 (Dj.no _))
    have HZ2 : Hid (Bs w2 a1 sz) := Lib.hid (HO1.out.bs.st hs2 (Dj.no _))
    clear ho2 hs2
    go_wp2_with fail
    refine (refCrc_calls a2 c2 zs HZL.out w2 HO2.out.bs).mono ?_
    rintro e w3 ⟨rfl, rfl⟩
    generalize crcB zs = cr at *
    have HCX := Lib.hid (u32_64 cr)
    have hcr := cr.isLt
    go_wp2_with fail
    refine (digits_x (cr.setWidth 64) _ HCX.out 4 (by omega) w2).mono ?_
    rintro e w4 ⟨v4, rfl, ho4, hs4⟩
    obtain ⟨a4, c4, rfl, _, _, _, _⟩ := ho4.form
    have HO4 := Lib.hid ho4
    have HS4 := Lib.hid hs4
    have HL4 : Hid ((beTo (cr.setWidth 64) 4 4).length = 4) := Lib.hid (beTo_len _ _ _)
    generalize beTo (cr.setWidth 64) 4 4 = sm at *
    have HB4 : Hid (Bs w4 a bs) := Lib.hid (HB2.out.st hs4 (Dj.no _))
    have HZ4 : Hid (Bs w4 a1 sz) := Lib.hid (HZ2.out.st hs4 (Dj.no _))
    clear ho4 hs4
    go_wp2_with fail
    refine (join2_calls a1 c1 sz a4 c4 sm (by have := HSL.out; have := HL4.out; omega) w4 HZ4.out HO4.out.bs).mono ?_
    rintro e w5 ⟨v5, rfl, ho5, hs5⟩
    have HYL : Hid ((sz ++ sm).length + bs.length ≤ 140737488355328) := Lib.hid (by have := HSL.out; have := HL4.out; simp; omega)
    generalize sz ++ sm = ys at ho5 HYL HFB
    obtain ⟨a5, c5, rfl, _, _, _, _⟩ := ho5.form
    have HO5 := Lib.hid ho5
    have HS5 := Lib.hid hs5
    have HB5 : Hid (Bs w5 a bs) := Lib.hid (HB4.out.st hs5 (Dj.no _))
    clear ho5 hs5
    go_wp2_with fail
    refine (join2_calls a5 c5 ys a c bs HYL.out w5 HO5.out.bs HB5.out).mono ?_
    rintro e w6 ⟨v6, rfl, ho6, hs6⟩
    have HO6 := Lib.hid ho6
    have HS6 := Lib.hid hs6
    clear ho6 hs6
    go_wp2
    go_ret2
    refine ⟨v6, ?_, ?_, ?_⟩
    · unfold frameE; rw [if_pos HLE.out]; rfl
    · unfold frameO; rw [if_pos HLE.out, HFB.out]; exact HO6.out
    · exact (((((HS1.out.then HS2.out).drop (G' := No) (fun _ h => h.elim)).then HS4.out).drop (G' := No) (fun _ h => h.elim)).then HS5.out |>.drop (G' := No) (fun _ h => h.elim)).trans HS6.out
  · have HLE := Lib.hid hle
    go_enter Try.func39, Try.ntmps39
    go_wp2
    go_ret2
    exact FramePost.big HLE.out rfl (St.refl _ _)

set_option maxRecDepth 100000 in
set_option maxHeartbeats 1000000 in
theorem frame_calls (a : Option Addr) (c : Nat) (bs : List B8) (hn : bs.length ≤ 140737488351232) (hac : a = none → c = 0) (w : World) (hb : Bs w a bs) :
    Calls Try.prog 38 #[.slice a bs.length c] w (FramePost w bs) := by
  by_cases hle : bs.length ≤ 16777208
  · have HLE := Lib.hid hle
    have HAC := Lib.hid hac
    have hs0 : St No w (fun k => k = w.heap.size ∨ fpV (.slice none 0 0) k) (w.alloc (.cells #[.int .i64 (8 + (bs.length : Int)), .slice none 0 0, .int .i64 0] 112)) :=
      (St.alloc No w _).drop (fun k hk => .inr (by rcases hk with rfl | hk; exact .inr rfl; simp [fpV, Value.ownBlock] at hk))
    go_enter Try.func38, Try.ntmps38
    go_wp2_with fail
    have hw0 : Wr (w.alloc (.cells #[.int .i64 (8 + (bs.length : Int)), .slice none 0 0, .int .i64 0] 112)) (fun k => k = w.heap.size ∨ fpV (.slice none 0 0) k) w.heap.size ⟨8 + (bs.length : Int), [], 0⟩ :=
      ⟨_, Ob.alloc w _ _, Own.nil _ _ _, by simp [fpV, Value.ownBlock], fun k => Iff.rfl⟩
    have hok0 : WS.ok ⟨8 + (bs.length : Int), [], 0⟩ := ⟨by show 0 ≤ 8 + (bs.length : Int); omega, by show 8 + (bs.length : Int) ≤ 16777216; omega, by show (([] : List B8).length : Int) ≤ 8 + (bs.length : Int); simp; omega⟩
    have HX32 : Hid (∀ X : Int, X = (bs.length : Int) ∨ X = IntKind.u32.wrap (bs.length : Int) → X = ((BitVec.ofNat 32 bs.length).toNat : Int)) := Lib.hid (by
      rintro X (rfl | rfl)
      · rw [BitVec.toNat_ofNat, Nat.mod_eq_of_lt (by omega)]
      · rw [BitVec.toNat_ofNat, Nat.mod_eq_of_lt (by omega)]; simp [IntKind.wrap, IntKind.bits, IntKind.signed]; omega)
    have HB0 : Hid (Bs (w.alloc (.cells #[.int .i64 (8 + (bs.length : Int)), .slice none 0 0, .int .i64 0] 112)) a bs) := Lib.hid (hb.st (St.alloc' No w _) (Dj.no _))
    have HDA : Hid (bs = [] ∨ ∀ k, fpA a k → k < w.heap.size) := Lib.hid hb.there
    have HS0 := Lib.hid hs0
    have HSZ : Hid (beTo ((BitVec.ofNat 32 bs.length).setWidth 64) 4 4 = sizeB bs.length) := Lib.hid (by unfold sizeB; congr 1; apply BitVec.eq_of_toNat_eq; rw [BitVec.toNat_setWidth, BitVec.toNat_ofNat, BitVec.toNat_ofNat]; omega)
    have hwh0 : Wh _ _ _ true _ := .inr ⟨rfl, hok0, w.heap.size, rfl, hw0⟩
    have HWH0 := Lib.hid hwh0
    clear hw0 hok0 hs0 hb hwh0
    refine (wU32_x (BitVec.ofNat 32 bs.length) _ (HX32.out _ (by first | exact .inl rfl | exact .inr rfl)) _ _ _ _ _ HWH0.out).mono ?_
    rintro e w1 ⟨rfl, F1, hw1, hs1⟩
    rw [HSZ.out] at hw1
    have HSL : Hid ((sizeB bs.length).length = 4) := Lib.hid (beTo_len _ _ _)
    have HFB : Hid (frameB bs = sizeB bs.length ++ beTo ((crcB (sizeB bs.length ++ bs)).setWidth 64) 4 4 ++ bs) := Lib.hid rfl
    generalize sizeB bs.length = sz at *
    have hpt : putT true ⟨8 + (bs.length : Int), [], 0⟩ sz = ⟨8 + (bs.length : Int), sz, 0⟩ := putT_fit _ [] sz (by have := HSL.out; simp; omega)
    rw [hpt] at hw1
    have HW1 := Lib.hid hw1
    have HS1 := Lib.hid hs1
    obtain ⟨_, _, p', hp', hr1⟩ := hw1.resolve_left (by rintro ⟨h, _⟩; cases h)
    cases hp'
    obtain ⟨a1, c1, k0, k1, k2, f1, f2, hv, hc1, hc2, hnone, ho, hnp, hF⟩ := hr1.open
    have HV1 := Lib.hid hv
    clear hw1 hs1 hr1 hpt k0 k2 f1 f2 hv hc1 hc2 hnone ho hnp hF
    have HLO0 : Hid (Lo w.heap.size (fun k => k = w.heap.size ∨ fpV (.slice none 0 0) k)) := Lib.hid (by rintro k (rfl | hk); exact Nat.le_refl _; simp [fpV, Value.ownBlock] at hk)
    have HLO1 : Hid (Lo w.heap.size F1) := Lib.hid (HLO0.out.st (by simp) HS1.out)
    have HB1 : Hid (Bs w1 a bs) := Lib.hid (HB0.out.stA HS1.out (apart_lo HDA.out HLO0.out))
    have HF1 : Hid (Apart F1 a bs) := Lib.hid (apart_lo HDA.out HLO1.out)
    have HSZ1 : Hid (w.heap.size ≤ w1.heap.size) := Lib.hid (by have := HS1.out.size; simp at this; omega)
    have HCM : Hid (∀ W, Bs W a bs → Calls Try.prog 22 #[.int .u32 ((crcB sz).toNat : Int), .slice a bs.length c] W fun e w' => e = .returned (.int .u32 ((crcB (sz ++ bs)).toNat : Int)) ∧ W = w') :=
      Lib.hid (fun W h => by rw [← crcMore_append]; exact crcMore_calls (crcB sz) a c bs (by unfold maxLen; omega) W h)
    go_wp2_with (first
      | (go_at_call 15; refine (crc_calls a1 c1 sz (by have := HSL.out; unfold maxLen; omega) w1 HV1.out.bs).mono ?_; rintro e w2 ⟨rfl, rfl⟩)
      | (go_at_call 22; refine (HCM.out w1 HB1.out).mono ?_; rintro e w2 ⟨rfl, rfl⟩; generalize crcB (sz ++ bs) = cr at *)
      | (go_at_call 71; refine (wU32_calls cr w1 F1 _ true _ HW1.out).mono ?_; rintro e w3 ⟨rfl, F3, hw3, hs3⟩; have hsm : (beTo (cr.setWidth 64) 4 4).length = 4 := beTo_len _ _ _; generalize beTo (cr.setWidth 64) 4 4 = sm at hw3 hsm HFB; rw [putT_fit _ sz sm (by have := HSL.out; omega)] at hw3; have HSM := Lib.hid hsm; have HW3 := Lib.hid hw3; have HS3 := Lib.hid hs3; have HB3 : Hid (Bs w3 a bs) := Lib.hid (HB1.out.stA hs3 HF1.out); have HF3 : Hid (Apart F3 a bs) := Lib.hid (apart_lo HDA.out (HLO1.out.st HSZ1.out hs3)); clear hw3 hs3 hsm)
      | (go_at_call 76; refine (raw_h a c bs HAC.out w3 F3 _ true _ HW3.out HB3.out HF3.out).mono ?_; rintro e w4 ⟨rfl, F4, hw4, hs4⟩; rw [putT_fit _ (sz ++ sm) bs (by have := HSL.out; have := HSM.out; simp; omega)] at hw4; generalize sz ++ sm ++ bs = fb at hw4 HFB; have HW4 := Lib.hid hw4; have HS4 := Lib.hid hs4; clear hw4 hs4))
    go_at_call 52
    refine (wOut_calls w4 F4 _ true _ HW4.out).mono ?_
    rintro e w5 (⟨he, _⟩ | ⟨_, g, rfl, ho5, hg, hs5⟩)
    · exact absurd rfl he
    have HO5 := Lib.hid ho5
    have HS5 := Lib.hid hs5
    clear ho5 hs5 hg
    go_wp2
    go_ret2
    refine ⟨.slice (some ⟨g, 0, none⟩) fb.length fb.length, ?_, ?_, ?_⟩
    rotate_left
    · unfold frameO; rw [if_pos HLE.out, HFB.out]; exact HO5.out
    · exact ((((HS0.out.trans HS1.out).trans HS3.out).trans HS4.out).drop (G' := No) (fun _ h => h.elim)).trans (HS5.out.drop (fun k hk => .inr (by simpa [fpV, Value.ownBlock] using hk.symm)))
    · unfold frameE; rw [if_pos HLE.out]; rfl
  · have HLE := Lib.hid hle
    go_enter Try.func38, Try.ntmps38
    go_wp2
    go_ret2
    exact FramePost.big HLE.out rfl (St.refl _ _)
end Go.Proofs.Ytfhoekcmkbeabaa
