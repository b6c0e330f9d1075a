
/-
  The walks over the program's Reader: Signed, Flag.
-/
import Derived.Test.YtfhoekcmkbeabaaCwReader5
namespace Go.Proofs.Ytfhoekcmkbeabaa
open Go.RowKit
set_option linter.unusedVariables false
set_option linter.unusedSimpArgs false

/-- the signed number for which a number stands -/
def unzig (x : BitVec 64) : Int := if x.toNat % 2 = 0 then ((x.toNat / 2 : Nat) : Int) else -((x.toNat / 2 : Nat) : Int) - 1
theorem xor_zero_i64 (n : Nat) (h : n ≤ 9223372036854775807) : bits .xor .i64 (n : Int) 0 = (n : Int) := by
  show IntKind.i64.wrap (((BitVec.ofInt 64 (n : Int) ^^^ BitVec.ofInt 64 0).toNat : Nat) : Int) = _
  have e : BitVec.ofInt 64 (n : Int) ^^^ BitVec.ofInt 64 0 = BitVec.ofNat 64 n := by
    rw [BitVec.ofInt_natCast]; simp
  rw [e, BitVec.toNat_ofNat, Nat.mod_eq_of_lt (by omega), IntKind.wrap_i64]
  omega
theorem xor_ones_i64 (n : Nat) (h : n ≤ 9223372036854775807) : bits .xor .i64 (n : Int) (-1) = -(n : Int) - 1 := by
  show IntKind.i64.wrap (((BitVec.ofInt 64 (n : Int) ^^^ BitVec.ofInt 64 (-1)).toNat : Nat) : Int) = _
  have e1 : BitVec.ofInt 64 (-1) = BitVec.allOnes 64 := by decide
  have e : BitVec.ofInt 64 (n : Int) ^^^ BitVec.ofInt 64 (-1) = ~~~ BitVec.ofNat 64 n := by
    rw [BitVec.ofInt_natCast, e1, BitVec.xor_allOnes]
  rw [e, BitVec.toNat_not, BitVec.toNat_ofNat, Nat.mod_eq_of_lt (by omega), IntKind.wrap_i64]
  omega
def SignPost (w : World) (v : Value) (th : Bool) (p : Nat) (D : Nat → Prop) (s : RS) (e : Ending) (w' : World) : Prop :=
  Rh w' v th p D s.var ∧ St (fpP p) w (fpP p) w' ∧ e = .returned (.int .i64 (unzig (varT th s)))
set_option maxRecDepth 100000 in
set_option maxHeartbeats 1000000 in
theorem rSigned_calls (w : World) (v : Value) (th : Bool) (p : Nat) (D : Nat → Prop) (s : RS) (hl : s.rest.length ≤ 140737488355328) (h : Rh w v th p D s) :
    Calls Try.prog 97 #[v] w (SignPost w v th p D s) := by
  have HH := Lib.hid h
  clear h
  have HU : Hid (unzig (varT th s) = unzig (varT th s)) := Lib.hid rfl
  have HV := Lib.hid (rVarint_calls w v th p D s hl HH.out)
  unfold VarPost at HV
  unfold SignPost
  generalize varT th s = x at *
  have hx := x.isLt
  have ha1 := and1_u64 x.toNat (by omega)
  by_cases hev : x.toNat % 2 = 0
  · have HZ : Hid (unzig x = ((x.toNat / 2 : Nat) : Int)) := Lib.hid (by unfold unzig; rw [if_pos hev])
    rw [hev] at ha1
    have hxo := xor_zero_i64 (x.toNat / 2) (by omega)
    rw [show ((x.toNat / 2 : Nat) : Int) = (x.toNat : Int) / 2 by omega] at hxo HZ
    clear hev
    go_enter Try.func97, Try.ntmps97
    go_wp2_with (go_at_call 96; refine HV.out.mono ?_; rintro e w1 ⟨h1, h2, rfl⟩; have H1 := Lib.hid h1; have H2 := Lib.hid h2; clear h1 h2)
    go_ret
    exact ⟨H1.out, H2.out, ret_int (by rw [HZ.out])⟩
  · have ho : x.toNat % 2 = 1 := by omega
    have HZ : Hid (unzig x = -((x.toNat / 2 : Nat) : Int) - 1) := Lib.hid (by unfold unzig; rw [if_neg hev])
    rw [ho] at ha1
    have hxo := xor_ones_i64 (x.toNat / 2) (by omega)
    rw [show ((x.toNat / 2 : Nat) : Int) = (x.toNat : Int) / 2 by omega] at hxo HZ
    clear hev ho
    go_enter Try.func97, Try.ntmps97
    go_wp2_with (go_at_call 96; refine HV.out.mono ?_; rintro e w1 ⟨h1, h2, rfl⟩; have H1 := Lib.hid h1; have H2 := Lib.hid h2; clear h1 h2)
    go_ret
    exact ⟨H1.out, H2.out, ret_int (by rw [HZ.out])⟩
/-- the reader behind a flag, and the flag -/
def RS.flag (s : RS) : RS := if s.err = 0 then (if 1 < (s.rest.headD 0#8).toNat then ⟨s.rest, 24⟩ else s.took 1) else s
def flagT (th : Bool) (s : RS) : Bool := opens th s && decide (s.rest.head? = some 1#8)
def FlagPost (w : World) (v : Value) (th : Bool) (p : Nat) (D : Nat → Prop) (s : RS) (e : Ending) (w' : World) : Prop :=
  Rh w' v th p D s.flag ∧ St (fpP p) w (fpP p) w' ∧ e = .returned (.bool (flagT th s))
set_option maxRecDepth 100000 in
set_option maxHeartbeats 1000000 in
theorem rFlag_calls (w : World) (v : Value) (th : Bool) (p : Nat) (D : Nat → Prop) (s : RS) (h : Rh w v th p D s) :
    Calls Try.prog 98 #[v] w (FlagPost w v th p D s) := by
  have HO := Lib.hid (open_calls w v th p D s h)
  have HH := Lib.hid h
  cases hop : opens th s with
  | false =>
    rw [hop] at HO
    have HOP := Lib.hid hop
    clear hop h
    go_enter Try.func98, Try.ntmps98
    go_wp2_with (go_at_call 111; refine HO.out.mono ?_; rintro e w1 ⟨rfl, rfl⟩)
    go_ret
    refine ⟨?_, St.refl _ _, by unfold flagT; rw [HOP.out]; rfl⟩
    rcases HH.out with h | ⟨rfl, h2⟩
    · exact .inl h
    · have he : ¬ s.err = 0 := by have := HOP.out; simpa [opens] using this
      unfold RS.flag
      rw [if_neg he]
      exact .inr ⟨rfl, h2⟩
  | true =>
    rw [hop] at HO
    have HOP := Lib.hid hop
    clear hop
    rcases h with ⟨rfl, rfl⟩ | ⟨rfl, rfl, hr, hdp⟩
    · exact absurd HOP.out (by simp [opens])
    · have he : s.err = 0 := by have := HOP.out; simpa [opens] using this
      obtain ⟨rest, err⟩ := s
      simp only at he
      subst he
      obtain ⟨a, c, k0, k1, f0, f1, hb, h1, h2, h3, h4, ho⟩ := hr.open
      have HR := Lib.hid hr
      have HB := Lib.hid hb
      have HDP := Lib.hid hdp
      have HU := Lib.hid (rU8_calls w _ true p D ⟨rest, 0⟩ HH.out)
      have HFS : Hid (RS.flag ⟨rest, 0⟩ = if 1 < (rest.headD 0#8).toNat then ⟨rest, 24⟩ else RS.took ⟨rest, 0⟩ 1) := Lib.hid (by unfold RS.flag; rw [if_pos rfl])
      have HFT : Hid (flagT true ⟨rest, 0⟩ = decide (rest.head? = some 1#8)) := Lib.hid (by unfold flagT; rw [HOP.out, Bool.true_and])
      have HNT : Hid ((numT true ⟨rest, 0⟩ 1).setWidth 8 = rest.headD 0#8) := Lib.hid (by
        unfold numT takes
        rw [HOP.out]
        cases rest with
        | nil => rfl
        | cons b r =>
          simp [numB, numStep])
      simp only at k0 k1 h1
      clear ho hb h3 h4 hdp hr HH
      unfold NumPost' at HU
      cases rest with
      | nil =>
        rw [HNT.out] at HU
        have HF2 : Hid (RS.flag ⟨[], 0⟩ = RS.took ⟨[], 0⟩ 1) := Lib.hid (by rw [HFS.out]; rfl)
        have HF3 : Hid (flagT true ⟨[], 0⟩ = false) := Lib.hid (by rw [HFT.out]; rfl)
        have HU2 : Hid (Calls Try.prog 92 #[.pointer (some ⟨p, 0, none⟩)] w fun e w' => Rh w' (.pointer (some ⟨p, 0, none⟩)) true p D (RS.took ⟨[], 0⟩ 1) ∧ St (fpP p) w (fpP p) w' ∧ e = .returned (.int .u8 0)) := Lib.hid HU.out
        go_enter Try.func98, Try.ntmps98
        go_wp2_with (first
          | (go_at_call 111; refine HO.out.mono ?_; rintro e w1 ⟨rfl, rfl⟩)
          | (go_at_call 92; refine HU2.out.mono ?_; rintro e w1 ⟨h1, h2, rfl⟩; have H1 := Lib.hid h1; have H2 := Lib.hid h2; clear h1 h2))
        go_ret
        exact ⟨by rw [HF2.out]; exact H1.out, H2.out, by rw [HF3.out]; rfl⟩
      | cons b r =>
        rw [HNT.out] at HU
        obtain ⟨x, rfl, hc⟩ := HB.out.at 0 (by simp)
        have hc0 : w.cell? x = some (.int .u8 (b.toNat : Int)) := hc
        rw [List.length_cons] at k0
        have hlp : (0 : Int) < ((r.length + 1 : Nat) : Int) := by omega
        clear hc h1
        by_cases hb1 : 1 < b.toNat
        · have HF2 : Hid (RS.flag ⟨b :: r, 0⟩ = ⟨b :: r, 24⟩) := Lib.hid (by rw [HFS.out]; exact if_pos hb1)
          have HF3 : Hid (flagT true ⟨b :: r, 0⟩ = false) := Lib.hid (by
            rw [HFT.out]
            refine decide_eq_false (fun h => ?_)
            simp at h
            subst h
            simp at hb1)
          have hbi : (1 : Int) < (b.toNat : Int) := by omega
          go_enter Try.func98, Try.ntmps98
          go_wp2_with (go_at_call 111; refine HO.out.mono ?_; rintro e w1 ⟨rfl, rfl⟩)
          go_ret
          exact ⟨by rw [HF2.out]; exact .inr ⟨rfl, rfl, HR.out.setErr HDP.out 24, HDP.out⟩, St.setCell _ _ _ rfl, by rw [HF3.out]; rfl⟩
        · have HF2 : Hid (RS.flag ⟨b :: r, 0⟩ = RS.took ⟨b :: r, 0⟩ 1) := Lib.hid (by rw [HFS.out]; exact if_neg hb1)
          have HF3 : Hid (flagT true ⟨b :: r, 0⟩ = ((b.toNat : Int) == 1)) := Lib.hid (by
            rw [HFT.out]
            by_cases h : b = 1#8
            · subst h; rfl
            · have h2 : ¬ (b.toNat : Int) = 1 := fun e => h (BitVec.eq_of_toNat_eq (by show b.toNat = 1; omega))
              rw [beq_eq_false_iff_ne.2 h2]
              exact decide_eq_false (fun e => h (by simpa using e)))
          have hbi : ¬ (1 : Int) < (b.toNat : Int) := by omega
          have HU2 : Hid (Calls Try.prog 92 #[.pointer (some ⟨p, 0, none⟩)] w fun e w' => Rh w' (.pointer (some ⟨p, 0, none⟩)) true p D (RS.took ⟨b :: r, 0⟩ 1) ∧ St (fpP p) w (fpP p) w' ∧ e = .returned (.int .u8 (b.toNat : Int))) := Lib.hid HU.out
          go_enter Try.func98, Try.ntmps98
          go_wp2_with (first
            | (go_at_call 111; refine HO.out.mono ?_; rintro e w1 ⟨rfl, rfl⟩)
            | (go_at_call 92; refine HU2.out.mono ?_; rintro e w1 ⟨h1, h2, rfl⟩; have H1 := Lib.hid h1; have H2 := Lib.hid h2; clear h1 h2))
          all_goals go_ret
          all_goals exact ⟨by rw [HF2.out]; exact H1.out, H2.out, by rw [HF3.out]; first | rfl | simp_all⟩
end Go.Proofs.Ytfhoekcmkbeabaa
