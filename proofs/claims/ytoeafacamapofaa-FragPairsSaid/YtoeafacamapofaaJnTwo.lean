
/-
  The statements' pos.
  The statements' two: a packet of 60 bytes, split.
-/
import Derived.Test.YtoeafacamapofaaFgBase
import Derived.Test.YtoeafacamapofaaJnMore
import Derived.Test.YtoeafacamapofaaFgProg2
import Derived.Test.YtoeafacamapofaaFgStr
namespace Go.Proofs.Ytoeafacamapofaa
open Go.RowKit
set_option linter.unusedVariables false
set_option linter.unusedSimpArgs false

def posI (x n : Int) : Int := if x.tmod n < 0 then x.tmod n + n else x.tmod n
theorem posI_range {x n : Int} (h : 0 < n) : 0 ≤ posI x n ∧ posI x n < n := by
  have h1 := Int.tmod_lt_of_pos x h
  have h2 : -n < x.tmod n := by
    have := Int.lt_tmod_of_pos x h
    omega
  unfold posI
  split <;> omega
theorem pos_calls (x n : Int) (hn : 0 < n) (hn2 : n ≤ 1048576) (hx : -9223372036854775808 ≤ x ∧ x ≤ 9223372036854775807) (w : World) :
    Calls Try.prog 54 #[.int .i64 x, .int .i64 n] w fun e w' => e = .returned (.int .i64 (posI x n)) ∧ w = w' := by
  have h1 := Int.tmod_lt_of_pos x hn
  have h2 : -n < x.tmod n := Int.lt_tmod_of_pos x hn
  have n0 : ¬ n = 0 := by omega
  have n1 : ¬ n = -1 := by omega
  have hw : wrap64 (x.tmod n) = x.tmod n := by unfold wrap64; omega
  by_cases hs : x.tmod n < 0
  · have hp : posI x n = x.tmod n + n := by unfold posI; rw [if_pos hs]
    go_enter Try.func54, Try.ntmps54
    go_wp2
    go_ret
    exact ⟨by first | rfl | (rw [hp]; rfl), rfl⟩
  · have hp : posI x n = x.tmod n := by unfold posI; rw [if_neg hs]
    go_enter Try.func54, Try.ntmps54
    go_wp2
    go_ret
    exact ⟨by first | rfl | (rw [hp]; rfl), rfl⟩
end Go.Proofs.Ytoeafacamapofaa
namespace Go.Proofs.Ytoeafacamapofaa
open Go.RowKit
set_option linter.unusedVariables false
set_option linter.unusedSimpArgs false

def twoP (id : BitVec 64) (f : B8) (n : Nat) : List B8 := (List.range n).map fun i => f + BitVec.ofNat 8 i + id.setWidth 8
theorem twoP_len (id : BitVec 64) (f : B8) (n : Nat) : (twoP id f n).length = n := by simp [twoP]
theorem twoP_succ (id : BitVec 64) (f : B8) (n : Nat) : twoP id f (n + 1) = twoP id f n ++ [f + BitVec.ofNat 8 n + id.setWidth 8] := by simp [twoP, List.range_succ]
set_option maxRecDepth 100000 in
theorem two4_calls (id : BitVec 64) (f : B8) (w : World) :
    Calls Try.prog 58 #[.int .u64 (id.toNat : Int), .int .u8 (f.toNat : Int)] w fun e w' => ∃ V vs, e = .returned V ∧ Grams w' V vs (splitB (twoP id f 60) id 64) ∧ St No w (fpG V vs) w' := by
  go_enter Try.func58, Try.ntmps58
  go_wp2
  go_loopw [5, 6] (fun x t wr => ∃ (k : Nat) (V' : Value), k ≤ 60 ∧ t = .int .i64 k ∧ x = V' ∧ Hid (OwB wr V' (twoP id f k)) ∧ Hid (∀ j, fpV V' j → w.heap.size ≤ j) ∧ Hid (St No w (Nw w) wr)) (fun _ t _ => 60 - (intOf t).toNat)
  case atStart =>
    exact ⟨0, _, by omega, rfl, rfl, Lib.hid (OwB.nil _), Lib.hid (fun j hj => by simp [fpV, Value.ownBlock] at hj), Lib.hid (St.refl No w).toNew⟩
  case round =>
    obtain ⟨k, V', hk, rfl, hxv, HO, HV, HS⟩ := hrel
    have hxv' := hxv.symm
    subst hxv'
    clear hxv
    by_cases hlt : k < 60
    · have hki : (k : Int) < 60 := by omega
      obtain ⟨b, hb⟩ : ∃ b : B8, b = f + BitVec.ofNat 8 k + id.setWidth 8 := ⟨_, rfl⟩
      have hbv : ((f.toNat : Int) + (k : Int) + (id.toNat : Int)) % 256 = (b.toNat : Int) := by
        rw [hb]
        simp [BitVec.toNat_add, BitVec.toNat_ofNat, BitVec.toNat_setWidth]
      have HB := Lib.hid hb
      clear hb
      go_wp2_with (at_builtin; refine wpList_appB rfl (.tmp 13) (.tmp 21) rfl _ (twoP id f k) rfl (HO.out.st (St.alloc' No wr _) (Dj.no _)) (some ⟨wr.heap.size, 0, none⟩) 1 1 [b] rfl rfl (by intro i v hv; have := rd_row (heap_alloc_new wr (.cells #[.int .u8 (b.toNat : Int)] 5)) i v; exact this (by simpa [bv] using hv)) (fun h => by cases h) (by rw [twoP_len]; simp; omega) ?_; intro v4 w4 ho4 hs4 hn4; have HO4 := Lib.hid ho4; have HS4 := Lib.hid hs4; clear ho4 hs4 hn4)
      refine ⟨⟨k + 1, v4, by omega, by simp, rfl, Lib.hid ?_, Lib.hid ?_, Lib.hid ?_⟩, by simp [intOf]; omega⟩
      · rw [twoP_succ, ← HB.out]
        exact HO4.out
      · intro j hj
        rcases HS4.out.new j hj with h | h
        · exact HV.out j h
        · have := HS.out.size; simp at h; omega
      · exact (HS.out.thenN (St.alloc' No wr _) (fun j hj => hj.elim)).thenN HS4.out (fun j hj => HV.out j hj)
    · obtain rfl : k = 60 := by omega
      obtain ⟨na, nc, rfl, q1, q2, _, q4⟩ := HO.out.form
      have HSP := Lib.hid (split_calls na nc (twoP id f 60) (by rw [twoP_len]; omega) q1 q2 (fun h => (q4 h).2) id 64 wr HO.out.bs)
      rw [twoP_len] at HSP
      clear q1 q2 q4
      rw [twoP_len]
      go_wp2_with (go_at_call 33; refine HSP.out.mono ?_; rintro e w2 ⟨V2, vs2, rfl, hg2, hs2⟩; have HG2 := Lib.hid hg2; have HS2 := Lib.hid hs2; clear hg2 hs2)
      go_ret
      have h1 := HS.out
      have h2 := HS2.out
      exact ⟨V2, vs2, rfl, HG2.out, h2.os.trans h1.os, h2.tape.trans h1.tape, h2.output.trans h1.output, Nat.le_trans h1.size h2.size, fun q hq _ => (h2.block q (Nat.lt_of_lt_of_le hq h1.size) (fun e => e)).trans (h1.block q hq (fun e => e)), fun q hq => (h2.new q hq).elim .inl (fun hl => .inr (Nat.le_trans h1.size hl))⟩
end Go.Proofs.Ytoeafacamapofaa
