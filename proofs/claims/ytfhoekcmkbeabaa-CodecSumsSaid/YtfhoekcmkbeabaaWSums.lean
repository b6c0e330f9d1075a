/-
  The walk over the statement CodecSums.
-/
import Derived.Test.YtfhoekcmkbeabaaCwHand
import Derived.Test.YtfhoekcmkbeabaaCwFnv
import Derived.Test.YtfhoekcmkbeabaaCwReg
import Derived.Test.YtfhoekcmkbeabaaCwJoin
namespace Go.Proofs.Ytfhoekcmkbeabaa
open Go.RowKit
set_option linter.unusedVariables false
set_option linter.unusedSimpArgs false

set_option maxRecDepth 100000 in
set_option maxHeartbeats 2000000 in
theorem sums_walk (crc : BitVec 32) (h : BitVec 64) (a : Option Addr) (c : Nat) (xs : List B8) (hac : a = none → c = 0) (hl : xs.length ≤ 140737488351232) (other : BitVec 32) (n : Int) (hn : n ≤ 9223372036854775807) (w : World) (ha : Bs w a xs) :
    Calls Try.prog 5 #[.int .u32 (crc.toNat : Int), .int .u64 (h.toNat : Int), .slice a xs.length c, .int .u32 (other.toNat : Int), .int .i64 n] w fun e w' => e = .returned (.bool true) ∧ Below w.heap.size w w' := by
  have HA := Lib.hid ha
  clear ha
  have hmax : xs.length ≤ maxLen := by unfold maxLen; omega
  have HMAX := Lib.hid hmax
  clear hmax
  generalize hJ : crcSteps (8 * n.toNat) crc ^^^ other = J
  generalize hC : crcB xs = C
  generalize hM : crcMoreB crc xs = M
  generalize hF : fnvB xs = F
  generalize hG : fnvMoreB h xs = G
  have HJ := Lib.hid hJ
  have HC := Lib.hid hC
  have HM := Lib.hid hM
  have HF := Lib.hid hF
  have HG := Lib.hid hG
  clear hJ hC hM hF hG
  go_enter Try.func5, Try.ntmps5
  go_wp2_with fail
  refine (join_calls crc other n hn w).mono ?_
  rintro e w1 ⟨rfl, hs1⟩
  rw [HJ.out]
  have HS1 := Lib.hid hs1
  clear hs1
  go_wp2_with fail
  refine (refJoin_calls crc other n hn w1).mono ?_
  rintro e w2 ⟨rfl, rfl⟩
  rw [HJ.out]
  have HA1 := Lib.hid (HA.out.st HS1.out (Dj.no _))
  go_wp2_with fail
  refine (handed_calls a c xs hl w1 HA1.out).mono ?_
  rintro e w2 ⟨v, rfl, hh2, hs2⟩
  have HA2 := Lib.hid (HA1.out.st hs2 (Dj.no _))
  have HS2 := Lib.hid (HS1.out.trans hs2)
  obtain ⟨b, cb, rfl, hb2, hbn, _⟩ := hh2.form
  have HH2 := Lib.hid hh2
  have HB2 := Lib.hid hb2
  clear hh2 hb2 hs2
  go_wp2_with fail
  refine (crc_calls b cb xs HMAX.out w2 HB2.out).mono ?_
  rintro e w3 ⟨rfl, rfl⟩
  rw [HC.out]
  go_wp2_with fail
  refine (refCrc_calls a c xs (by omega) w2 HA2.out).mono ?_
  rintro e w3 ⟨rfl, rfl⟩
  rw [HC.out]
  go_wp2_with fail
  refine (crcMore_calls crc b cb xs HMAX.out w2 HB2.out).mono ?_
  rintro e w3 ⟨rfl, rfl⟩
  rw [HM.out]
  go_wp2_with fail
  refine (refCrcMore_calls crc a c xs (by omega) w2 HA2.out).mono ?_
  rintro e w3 ⟨rfl, rfl⟩
  rw [HM.out]
  go_wp2_with fail
  refine (kept_calls _ a c xs hl w2 HH2.out HA2.out).mono ?_
  rintro e w3 ⟨rfl, ⟨m3, rfl⟩⟩
  go_wp2_with fail
  refine (fnv_calls b cb xs HMAX.out _ (HB2.out.drewN m3)).mono ?_
  rintro e w3 ⟨rfl, rfl⟩
  rw [HF.out]
  go_wp2_with fail
  refine (refFnv_calls a c xs HMAX.out _ (HA2.out.drewN m3)).mono ?_
  rintro e w3 ⟨rfl, rfl⟩
  rw [HF.out]
  go_wp2_with fail
  refine (fnvMore_calls h b cb xs HMAX.out _ (HB2.out.drewN m3)).mono ?_
  rintro e w3 ⟨rfl, rfl⟩
  rw [HG.out]
  go_wp2_with fail
  refine (refFnvMore_calls h a c xs HMAX.out _ (HA2.out.drewN m3)).mono ?_
  rintro e w3 ⟨rfl, rfl⟩
  rw [HG.out]
  go_wp2_with fail
  refine (kept_calls _ a c xs hl (w2.drewN m3) (HH2.out.move (w' := w2.drewN m3) (fun _ _ => rfl)) (HA2.out.drewN m3)).mono ?_
  rintro e w3 ⟨rfl, hd⟩
  have HD := Lib.hid hd
  clear hd
  go_wp2
  go_ret
  exact ⟨rfl, (HS2.out.trans ((St.drewN _ _ m3).trans (HD.out.st _))).below⟩

end Go.Proofs.Ytfhoekcmkbeabaa
