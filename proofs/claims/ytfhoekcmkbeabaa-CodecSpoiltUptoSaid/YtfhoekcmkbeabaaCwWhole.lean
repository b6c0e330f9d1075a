
/-
  The walk over the program's whole: the body of the frame at the front.
-/
import Derived.Test.YtfhoekcmkbeabaaCwReader2
import Derived.Test.YtfhoekcmkbeabaaCwFrame
namespace Go.Proofs.Ytfhoekcmkbeabaa
open Go.RowKit
set_option linter.unusedVariables false
set_option linter.unusedSimpArgs false

/-- the length that a frame's front tells -/
def wholeN (bs : List B8) : Nat := ((numB (bs.take 4)).setWidth 32).toNat
def wholeS (bs : List B8) : BitVec 32 := (numB ((bs.drop 4).take 4)).setWidth 32
/-- the body of the frame at the front, and why there is none -/
def wholeE (bs : List B8) : Int :=
  if bs.length < 8 then 21 else if 16777208 < wholeN bs then 28 else if bs.length - 8 < wholeN bs then 21 else if crcB (bs.take 4 ++ (bs.drop 8).take (wholeN bs)) = wholeS bs then 0 else 27
def wholeO (bs : List B8) : List B8 := if wholeE bs = 0 then (bs.drop 8).take (wholeN bs) else []
def WholePost (w : World) (D : Nat → Prop) (bs : List B8) (e : Ending) (w' : World) : Prop :=
  St No w No w' ∧ ∃ b, e = .returned (.tuple #[.slice b (wholeO bs).length (wholeO bs).length, .int .i64 (wholeE bs)]) ∧ Bs w' b (wholeO bs) ∧ (∀ k, fpA b k → D k) ∧ (b = none → wholeO bs = [])
theorem WholePost.bad {w w' : World} {D : Nat → Prop} {bs : List B8} {e : Ending} {x : Int} (hx : wholeE bs = x) (h0 : x ≠ 0) (he : e = .returned (.tuple #[.slice none 0 0, .int .i64 x])) (s : St No w No w') : WholePost w D bs e w' := by
  have ho : wholeO bs = [] := by unfold wholeO; rw [hx, if_neg h0]
  refine ⟨s, none, ?_, ?_, ?_, fun _ => ho⟩
  · rw [ho, hx, he]; rfl
  · rw [ho]; exact Rd.nil _ _
  · rintro k ⟨x, hx, _⟩; cases hx

set_option maxRecDepth 100000 in
set_option maxHeartbeats 2000000 in
theorem whole_calls (a : Option Addr) (c : Nat) (bs : List B8) (hn : bs.length ≤ 140737488351232) (hlc : bs.length ≤ c) (hcm : c ≤ maxLen) (hac : a = none → c = 0) (w : World) (D : Nat → Prop) (hD : ∀ k, fpA a k → D k) (hDw : In D w) (hb : Bs w a bs) :
    Calls Try.prog 83 #[.slice a bs.length c] w (WholePost w D bs) := by
  by_cases h8 : bs.length < 8
  · have HE : Hid (wholeE bs = 21) := Lib.hid (by unfold wholeE; rw [if_pos h8])
    clear hcm
    go_enter Try.func83, Try.ntmps83
    go_wp2
    go_ret2
    exact WholePost.bad HE.out (by decide) rfl (St.refl _ _)
  · have hs0 := St.alloc' No w (.cells #[.slice a bs.length c, .int .i64 0] 126)
    have hrh : Rh (w.alloc (.cells #[.slice a bs.length c, .int .i64 0] 126)) (.pointer (some ⟨w.heap.size, 0, none⟩)) true w.heap.size D ⟨bs, 0⟩ :=
      .inr ⟨rfl, rfl, ⟨a, c, Ob.alloc w _ _, hb.st hs0 (Dj.no _), hlc, hcm, hac, hD⟩, fun h => Nat.lt_irrefl _ (hDw _ h)⟩
    have HRH := Lib.hid hrh
    have HS0 : Hid (St No w (fpP w.heap.size) (w.alloc (.cells #[.slice a bs.length c, .int .i64 0] 126))) := Lib.hid ((St.alloc No w _).drop (fun k hk => .inr (.inr hk)))
    have HB0 := Lib.hid (hb.st hs0 (Dj.no _))
    have HDW : Hid (∀ k, fpP w.heap.size k → ¬ D k) := Lib.hid (fun k hk hd => by have e : k = w.heap.size := hk; subst e; exact Nat.lt_irrefl _ (hDw _ hd))
    have H8 := Lib.hid h8
    have HD := Lib.hid hD
    have hn1 : numT true ⟨bs, 0⟩ 4 = numB (bs.take 4) := by unfold numT; rw [if_pos (by simp [takes, opens]; omega)]
    have hn2 : numT true ⟨bs.drop 4, 0⟩ 4 = numB ((bs.drop 4).take 4) := by unfold numT; rw [if_pos (by simp [takes, opens]; omega)]
    have ht1 : RS.took ⟨bs, 0⟩ 4 = ⟨bs.drop 4, 0⟩ := by unfold RS.took; rw [if_pos rfl, if_pos (by show 4 ≤ bs.length; omega)]
    have ht2 : RS.took ⟨bs.drop 4, 0⟩ 4 = ⟨bs.drop 8, 0⟩ := by unfold RS.took; rw [if_pos rfl, if_pos (by simp; omega), List.drop_drop]
    have HT1 := Lib.hid ht1
    have HT2 := Lib.hid ht2
    have HN1 := Lib.hid hn1
    have HN2 := Lib.hid hn2
    have hWN : ((numB (bs.take 4)).setWidth 32).toNat = wholeN bs := rfl
    have hWS : (numB ((bs.drop 4).take 4)).setWidth 32 = wholeS bs := rfl
    have HWN := Lib.hid hWN
    have HWS := Lib.hid hWS
    have HWL : Hid (wholeN bs ≤ 4294967295) := Lib.hid (by rw [← hWN]; have := ((numB (bs.take 4)).setWidth 32).isLt; omega)
    clear hs0 hrh hb hcm hDw hD hn1 hn2 ht1 ht2 hWN hWS
    have hl8 : bs.length = bs.length := rfl
    go_enter Try.func83, Try.ntmps83
    go_wp2_with fail
    refine (rU32_calls _ _ true _ D ⟨bs, 0⟩ HRH.out).mono ?_
    rintro e w1 ⟨hr1, hs1, rfl⟩
    rw [HT1.out] at hr1
    rw [HN1.out, HWN.out]
    have HR1 := Lib.hid hr1
    have HS1 := Lib.hid hs1
    clear hr1 hs1
    go_wp2_with fail
    refine (rU32_calls _ _ true _ D ⟨bs.drop 4, 0⟩ HR1.out).mono ?_
    rintro e w2 ⟨hr2, hs2, rfl⟩
    rw [HT2.out] at hr2
    rw [HN2.out, HWS.out]
    have HR2 := Lib.hid hr2
    have HS2 := Lib.hid hs2
    clear hr2 hs2
    have HST : Hid (St No w (fpP w.heap.size) w2) := Lib.hid ((HS0.out.trans HS1.out).trans HS2.out)
    have HDJ : Hid (Dj (fpP w.heap.size) (fpA a)) := Lib.hid (fun k hk h2 => HDW.out k hk (HD.out k h2))
    have HB2 : Hid (Bs w2 a bs) := Lib.hid ((HB0.out.st HS1.out HDJ.out).st HS2.out HDJ.out)
    have HWE : Hid (wholeE bs = if 16777208 < wholeN bs then 28 else if bs.length - 8 < wholeN bs then 21 else if crcB (bs.take 4 ++ (bs.drop 8).take (wholeN bs)) = wholeS bs then 0 else 27) := Lib.hid (by unfold wholeE; rw [if_neg H8.out])
    have HWO : Hid (wholeO bs = if wholeE bs = 0 then (bs.drop 8).take (wholeN bs) else []) := Lib.hid rfl
    have HL4 : Hid ((bs.take 4).length = 4) := Lib.hid (by simp; omega)
    have HDL : Hid ((bs.drop 8).length = bs.length - 8) := Lib.hid (by simp)
    have HWLx := HWL.out
    generalize hN : wholeN bs = N at *
    generalize wholeS bs = S at *
    clear hN
    by_cases hbig : 16777208 < N
    · have HE : Hid (wholeE bs = 28) := Lib.hid (by rw [HWE.out, if_pos hbig])
      go_wp2
      go_ret2
      exact WholePost.bad HE.out (by decide) rfl (HST.out.drop (fun _ h => h.elim))
    · rw [if_neg hbig] at HWE
      go_wp2_with fail
      refine (take_calls N (by omega) w2 _ true _ D ⟨bs.drop 8, 0⟩ HR2.out).mono ?_
      rintro e w3 ⟨_, hs3, ⟨ht, b, rfl, hbb, hbd, hbn⟩ | ⟨ht, rfl⟩⟩
      · have hle : N ≤ bs.length - 8 := by have := HDL.out; simp [takes, opens] at ht; omega
        rw [if_neg (by omega)] at HWE
        have HBL : Hid (((bs.drop 8).take N).length = N) := Lib.hid (by have := HDL.out; rw [List.length_take]; omega)
        have HS3 := Lib.hid hs3
        have HBB := Lib.hid hbb
        have HBD := Lib.hid hbd
        have HBN := Lib.hid hbn
        have HB3 : Hid (Bs w3 a (bs.take 4)) := Lib.hid ((HB2.out.st hs3 HDJ.out).take 4)
        clear hs3 hbb hbd hbn ht
        simp only at HBB
        generalize (bs.drop 8).take N = body at *
        generalize bs.take 4 = four at *
        have HCM : Hid (∀ W, Bs W b body → Calls Try.prog 22 #[.int .u32 ((crcB four).toNat : Int), .slice b N N] W fun e w' => e = .returned (.int .u32 ((crcB (four ++ body)).toNat : Int)) ∧ W = w') :=
          Lib.hid (fun W h => by have e := crcMore_calls (crcB four) b N body (by have := HBL.out; unfold maxLen; omega) W h; rw [HBL.out, crcMore_append] at e; exact e)
        have HC4 : Hid (∀ W, Bs W a four → Calls Try.prog 15 #[.slice a 4 c] W fun e w' => e = .returned (.int .u32 ((crcB four).toNat : Int)) ∧ W = w') :=
          Lib.hid (fun W h => by have e := crc_calls a c four (by have := HL4.out; unfold maxLen; omega) W h; rw [HL4.out] at e; exact e)
        have HTW : Hid (St No w No w3) := Lib.hid ((HST.out.trans HS3.out).drop (fun _ h => h.elim))
        generalize crcB (four ++ body) = cr at *
        have hne := int_eq_bv cr S
        by_cases hcs : cr = S
        · subst hcs
          have HE : Hid (wholeE bs = 0) := Lib.hid (by rw [HWE.out, if_pos rfl])
          go_wp2_with (first
            | (go_at_call 15; refine (HC4.out w3 HB3.out).mono ?_; rintro e w4 ⟨rfl, rfl⟩)
            | (go_at_call 22; refine (HCM.out w3 HBB.out).mono ?_; rintro e w4 ⟨rfl, rfl⟩))
          go_ret2
          have ho : wholeO bs = body := by rw [HWO.out, if_pos HE.out]
          refine ⟨HTW.out, b, ?_, ?_, HBD.out, ?_⟩
          · rw [ho, HBL.out, HE.out]; rfl
          · rw [ho]; exact HBB.out
          · intro h; rw [ho]; have := HBN.out h; have h2 := HBL.out; exact List.eq_nil_of_length_eq_zero (by omega)
        · have HE : Hid (wholeE bs = 27) := Lib.hid (by rw [HWE.out, if_neg hcs])
          have hcb : (((cr.toNat : Nat) : Int) == ((S.toNat : Nat) : Int)) = false := by rw [hne]; exact decide_eq_false hcs
          have hcn : (((cr.toNat : Nat) : Int) != ((S.toNat : Nat) : Int)) = true := by simp [bne, hcb]
          clear hcs hne hcb
          go_wp2_with (first
            | (go_at_call 15; refine (HC4.out w3 HB3.out).mono ?_; rintro e w4 ⟨rfl, rfl⟩)
            | (go_at_call 22; refine (HCM.out w3 HBB.out).mono ?_; rintro e w4 ⟨rfl, rfl⟩))
          go_ret2
          exact WholePost.bad HE.out (by decide) rfl HTW.out
      · have hle : bs.length - 8 < N := by have := HDL.out; simp [takes, opens] at ht; omega
        have HE : Hid (wholeE bs = 21) := Lib.hid (by rw [HWE.out, if_pos hle])
        have HTW : Hid (St No w No w3) := Lib.hid ((HST.out.trans hs3).drop (fun _ h => h.elim))
        clear hs3 ht hle
        go_wp2
        go_ret2
        exact WholePost.bad HE.out (by decide) rfl HTW.out
end Go.Proofs.Ytfhoekcmkbeabaa
