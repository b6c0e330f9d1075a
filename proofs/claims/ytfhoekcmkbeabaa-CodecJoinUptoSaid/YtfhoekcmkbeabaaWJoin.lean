/-
  The walk over the statement CodecJoin.
-/
import Derived.Test.YtfhoekcmkbeabaaWBurst
import Derived.Test.YtfhoekcmkbeabaaCwFnv
import Derived.Test.YtfhoekcmkbeabaaCwJoin
namespace Go.Proofs.Ytfhoekcmkbeabaa
open Go.RowKit
set_option linter.unusedVariables false
set_option linter.unusedSimpArgs false

theorem foldl_lin (xs : List (BitVec 8)) : ∀ r : BitVec 32, xs.foldl crcByte r = crcSteps (8 * xs.length) r ^^^ xs.foldl crcByte 0#32 := by
  induction xs with
  | nil => intro r; simp [crcSteps]
  | cons b bs ih =>
    intro r
    have e : crcByte 0#32 b = crcSteps 8 (b.setWidth 32) := by rw [crcByte_steps]; simp
    rw [List.foldl_cons, List.foldl_cons, ih (crcByte r b), ih (crcByte 0#32 b), e, crcByte_steps, crcSteps_xor, crcSteps_xor, ← crcSteps_add, List.length_cons, ← BitVec.xor_assoc, show 8 + 8 * bs.length = 8 * (bs.length + 1) by omega]
theorem crc_append (xs ys : List B8) : crcB (xs ++ ys) = crcMoreB (crcB xs) ys := by
  unfold crcB crcMoreB
  rw [List.foldl_append, BitVec.not_not]
theorem crc_join (xs ys : List B8) : crcB (xs ++ ys) = crcSteps (8 * ys.length) (crcB xs) ^^^ crcB ys := by
  unfold crcB crcMoreB
  rw [List.foldl_append, foldl_lin ys (xs.foldl crcByte (~~~0)), foldl_lin ys (~~~0)]
  generalize xs.foldl crcByte (~~~0) = A
  generalize ys.foldl crcByte 0#32 = Y
  have hn : ∀ v : BitVec 32, ~~~ v = v ^^^ BitVec.allOnes 32 := fun v => by rw [BitVec.xor_allOnes]
  rw [hn A, crcSteps_xor, hn (_ ^^^ Y), hn (_ ^^^ Y), show (~~~ (0 : BitVec 32)) = BitVec.allOnes 32 by decide]
  generalize crcSteps (8 * ys.length) (BitVec.allOnes 32) = S
  generalize crcSteps (8 * ys.length) A = SA
  have : SA ^^^ S ^^^ (S ^^^ Y ^^^ BitVec.allOnes 32) = (SA ^^^ Y ^^^ BitVec.allOnes 32) ^^^ (S ^^^ S) := by ac_rfl
  rw [this, BitVec.xor_self, BitVec.xor_zero]
theorem crc_join3 (xs ys zs : List B8) : crcB (xs ++ ys ++ zs) = crcSteps (8 * (ys.length + zs.length)) (crcB xs) ^^^ (crcSteps (8 * zs.length) (crcB ys) ^^^ crcB zs) := by
  rw [List.append_assoc, crc_join, crc_join ys zs, List.length_append]
theorem fnv_append (xs ys : List B8) : fnvB (xs ++ ys) = fnvMoreB (fnvB xs) ys := by
  unfold fnvB fnvMoreB
  rw [List.foldl_append]
theorem fnvNil_calls (w : World) : Calls Try.prog 25 #[.slice none 0 0] w fun e w' => e = .returned (.int .u64 14695981039346656037) ∧ w = w' := by
  refine (fnv_calls none 0 [] (by simp) w (Rd.nil _ _)).mono ?_
  rintro e w' ⟨rfl, rfl⟩
  exact ⟨rfl, rfl⟩

set_option maxRecDepth 100000 in
set_option maxHeartbeats 4000000 in
theorem join_walk (a : Option Addr) (c : Nat) (xs : List B8) (hac : a = none → c = 0) (b : Option Addr) (d : Nat) (ys : List B8) (hbd : b = none → d = 0) (g : Option Addr) (k : Nat) (zs : List B8) (hgk : g = none → k = 0)
    (hl : xs.length + ys.length + zs.length ≤ 1048576) (w : World) (ha : Bs w a xs) (hb : Bs w b ys) (hg : Bs w g zs) :
    Calls Try.prog 6 #[.slice a xs.length c, .slice b ys.length d, .slice g zs.length k] w fun e w' => e = .returned (.bool true) ∧ Below w.heap.size w w' := by
  have HA := Lib.hid ha
  have HB := Lib.hid hb
  have HG := Lib.hid hg
  clear ha hb hg
  have hmx : xs.length ≤ maxLen := by unfold maxLen; omega
  have hmy : ys.length ≤ maxLen := by unfold maxLen; omega
  have hmz : zs.length ≤ maxLen := by unfold maxLen; omega
  have HMX := Lib.hid hmx
  have HMY := Lib.hid hmy
  have HMZ := Lib.hid hmz
  clear hmx hmy hmz
  have kc := fun (w : World) (C : Array Value) (n c : Nat) => Lib.run_convert_bytes_const (P := Try.prog) w 22 5 C n c Try.underlying22 Try.underlying5
  have H1 := Lib.hid (crc_append xs ys)
  have H2 := Lib.hid (crc_join xs ys)
  have H3 := Lib.hid (crc_join (xs ++ ys) zs)
  have H4 := Lib.hid (crc_join3 xs ys zs)
  have H5 := Lib.hid (fnv_append xs ys)
  have hql : (xs ++ ys).length = xs.length + ys.length := List.length_append
  generalize hq : xs ++ ys = q at *
  have hrl : (q ++ zs).length = q.length + zs.length := List.length_append
  generalize hr : q ++ zs = r at *
  have hqb : q.length ≤ 140737488355328 := by omega
  have hrb : r.length ≤ 140737488355328 := by omega
  have hqz : q.length + zs.length ≤ 140737488355328 := by omega
  have hqm : q.length ≤ maxLen := by unfold maxLen; omega
  have hrm : r.length ≤ maxLen := by unfold maxLen; omega
  have HQM := Lib.hid hqm
  have HRM := Lib.hid hrm
  have HQ := Lib.hid hq
  have HR := Lib.hid hr
  clear hq hr hql hrl hqm hrm
  generalize hX : crcB xs = X at *
  generalize hY : crcB ys = Y at *
  generalize hZ : crcB zs = Z at *
  generalize hXY : crcB q = XY at *
  generalize hXYZ : crcB r = XYZ at *
  generalize hF : fnvB q = F at *
  generalize hFX : fnvB xs = FX at *
  have HX := Lib.hid hX
  have HY := Lib.hid hY
  have HZ := Lib.hid hZ
  have HXY := Lib.hid hXY
  have HXYZ := Lib.hid hXYZ
  have HF := Lib.hid hF
  have HFX := Lib.hid hFX
  clear hX hY hZ hXY hXYZ hF hFX
  go_enter Try.func6, Try.ntmps6
  go_wp2_with fail
  refine (crcNine_calls (some ⟨w.heap.size, 0, none⟩) _ (rd_row (heap_alloc_new w _))).mono ?_
  rintro e w1 ⟨rfl, rfl⟩
  have HS0 := Lib.hid (St.alloc' No w (.cells (bv nine).toArray 5 (9, 10)))
  have HA1 := Lib.hid (HA.out.st HS0.out (Dj.no _))
  have HB1 := Lib.hid (HB.out.st HS0.out (Dj.no _))
  have HG1 := Lib.hid (HG.out.st HS0.out (Dj.no _))
  go_wp2_with fail
  refine (fnvNil_calls _).mono ?_
  rintro e w1 ⟨rfl, rfl⟩
  go_wp2_with fail
  refine (crc_calls a c xs HMX.out _ HA1.out).mono ?_
  rintro e w1 ⟨rfl, rfl⟩
  rw [HX.out]
  go_wp2_with fail
  refine (crc_calls b d ys HMY.out _ HB1.out).mono ?_
  rintro e w1 ⟨rfl, rfl⟩
  rw [HY.out]
  go_wp2_with fail
  refine (crc_calls g k zs HMZ.out _ HG1.out).mono ?_
  rintro e w1 ⟨rfl, rfl⟩
  rw [HZ.out]
  go_wp2_with fail
  refine (two_calls a c xs b d ys hac hbd (by omega) _ HA1.out HB1.out).mono ?_
  rintro e w2 ⟨v, rfl, ho2, hs2, g2, c2, rfl⟩
  rw [HQ.out] at ho2 ⊢
  have HS2 := Lib.hid (HS0.out.then hs2)
  have HA2 := Lib.hid (HA1.out.st hs2 (Dj.no _))
  have HB2 := Lib.hid (HB1.out.st hs2 (Dj.no _))
  have HG2 := Lib.hid (HG1.out.st hs2 (Dj.no _))
  rw [HQ.out] at hs2
  have HO2 := Lib.hid ho2.bs
  clear ho2 hs2 HA1 HB1 HG1 HS0
  go_wp2_with fail
  refine (crc_calls _ c2 q HQM.out w2 HO2.out).mono ?_
  rintro e w1 ⟨rfl, rfl⟩
  rw [HXY.out]
  go_wp2_with fail
  refine (crcMore_calls X b d ys HMY.out w2 HB2.out).mono ?_
  rintro e w1 ⟨rfl, rfl⟩
  rw [← H1.out]
  go_wp2_with fail
  refine (join_calls X Y ys.length (by omega) w2).mono ?_
  rintro e w3 ⟨rfl, hs3⟩
  rw [Int.toNat_natCast, ← H2.out]
  have HS3 := Lib.hid (HS2.out.then hs3)
  have HA3 := Lib.hid (HA2.out.st hs3 (Dj.no _))
  have HB3 := Lib.hid (HB2.out.st hs3 (Dj.no _))
  have HG3 := Lib.hid (HG2.out.st hs3 (Dj.no _))
  clear hs3 HA2 HB2 HG2 HS2 HO2
  go_wp2_with fail
  refine (two_calls a c xs b d ys hac hbd (by omega) _ HA3.out HB3.out).mono ?_
  rintro e w4 ⟨v, rfl, ho4, hs4, g4, c4, rfl⟩
  rw [HQ.out] at ho4 ⊢
  have HS4 := Lib.hid (HS3.out.then hs4)
  have HA4 := Lib.hid (HA3.out.st hs4 (Dj.no _))
  have HB4 := Lib.hid (HB3.out.st hs4 (Dj.no _))
  have HG4 := Lib.hid (HG3.out.st hs4 (Dj.no _))
  have HO4 := Lib.hid ho4.bs
  clear ho4 hs4 HA3 HB3 HG3 HS3
  go_wp2_with fail
  refine (two_calls _ c4 q g k zs (fun h => by cases h) hgk hqz _ HO4.out HG4.out).mono ?_
  rintro e w5 ⟨v, rfl, ho5, hs5, g5, c5, rfl⟩
  rw [HR.out] at ho5 ⊢
  have HS5 := Lib.hid (HS4.out.then hs5)
  have HA5 := Lib.hid (HA4.out.st hs5 (Dj.no _))
  have HB5 := Lib.hid (HB4.out.st hs5 (Dj.no _))
  have HG5 := Lib.hid (HG4.out.st hs5 (Dj.no _))
  have HO5 := Lib.hid ho5.bs
  clear ho5 hs5 HA4 HB4 HG4 HS4 HO4
  go_wp2_with fail
  refine (crc_calls _ c5 r HRM.out w5 HO5.out).mono ?_
  rintro e w1 ⟨rfl, rfl⟩
  rw [HXYZ.out]
  go_wp2_with fail
  refine (join_calls XY Z zs.length (by omega) w5).mono ?_
  rintro e w6 ⟨rfl, hs6⟩
  rw [Int.toNat_natCast, ← H3.out]
  have HS6 := Lib.hid (HS5.out.then hs6)
  have HA6 := Lib.hid (HA5.out.st hs6 (Dj.no _))
  have HB6 := Lib.hid (HB5.out.st hs6 (Dj.no _))
  clear hs6 HA5 HB5 HG5 HS5 HO5
  go_wp2_with fail
  refine (join_calls Y Z zs.length (by omega) w6).mono ?_
  rintro e w7 ⟨rfl, hs7⟩
  have HS7 := Lib.hid (HS6.out.then hs7)
  have HA7 := Lib.hid (HA6.out.st hs7 (Dj.no _))
  have HB7 := Lib.hid (HB6.out.st hs7 (Dj.no _))
  clear hs7 HA6 HB6 HS6
  rw [Int.toNat_natCast]
  generalize hyz : crcSteps (8 * zs.length) Y ^^^ Z = YZ at *
  have HYZ := Lib.hid hyz
  clear hyz
  go_wp2_with fail
  refine (join_calls X YZ ((ys.length : Int) + (zs.length : Int)) (by omega) w7).mono ?_
  rintro e w8 ⟨rfl, hs8⟩
  have HS8 := Lib.hid (HS7.out.then hs8)
  have HA8 := Lib.hid (HA7.out.st hs8 (Dj.no _))
  have HB8 := Lib.hid (HB7.out.st hs8 (Dj.no _))
  clear hs8 HA7 HB7 HS7
  rw [show ((ys.length : Int) + (zs.length : Int)).toNat = ys.length + zs.length by omega, ← H4.out]
  go_wp2_with fail
  refine (two_calls a c xs b d ys hac hbd (by omega) _ HA8.out HB8.out).mono ?_
  rintro e w9 ⟨v, rfl, ho9, hs9, g9, c9, rfl⟩
  rw [HQ.out] at ho9 ⊢
  have HS9 := Lib.hid (HS8.out.then hs9)
  have HA9 := Lib.hid (HA8.out.st hs9 (Dj.no _))
  have HB9 := Lib.hid (HB8.out.st hs9 (Dj.no _))
  have HO9 := Lib.hid ho9.bs
  clear ho9 hs9 HA8 HB8 HS8
  go_wp2_with fail
  refine (fnv_calls _ c9 q HQM.out w9 HO9.out).mono ?_
  rintro e w1 ⟨rfl, rfl⟩
  rw [HF.out]
  go_wp2_with fail
  refine (fnv_calls a c xs HMX.out w9 HA9.out).mono ?_
  rintro e w1 ⟨rfl, rfl⟩
  rw [HFX.out]
  go_wp2_with fail
  refine (fnvMore_calls FX b d ys HMY.out w9 HB9.out).mono ?_
  rintro e w1 ⟨rfl, rfl⟩
  rw [← H5.out]
  go_wp2
  go_ret
  exact ⟨rfl, HS9.out.below⟩

end Go.Proofs.Ytfhoekcmkbeabaa
