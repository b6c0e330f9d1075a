
/-
  The walk over the program's Split.
-/
import Derived.Test.YtoeafacamapofaaFgProg
namespace Go.Proofs.Ytoeafacamapofaa
open Go.RowKit
set_option linter.unusedVariables false
set_option linter.unusedSimpArgs false

theorem Bs.drop4 {w : World} {a : Option Addr} {xs : List B8} (h : Bs w a xs) (n : Nat) : Bs w (a.map (fun x => x.add n)) (xs.drop n) := Bs.drop h n
set_option maxRecDepth 100000 in
set_option maxHeartbeats 2000000 in
theorem split_calls (a : Option Addr) (c : Nat) (xs : List B8) (hl : xs.length ≤ 140737488351232) (hlc : xs.length ≤ c) (hcm : c ≤ maxLen) (hac : a = none → c = 0) (id : BitVec 64) (mtu : Int) (w : World) (ha : Bs w a xs) :
    Calls Try.prog 33 #[.slice a xs.length c, .int .u64 (id.toNat : Int), .int .i64 mtu] w (GOut w (splitB xs id mtu) (splitE xs.length mtu)) := by
  have HSE : Hid (splitE xs.length mtu = if mtu < 64 ∨ 1024 < mtu then 40 else if xs.length = 0 ∨ 4096 < xs.length then 41 else 0) := Lib.hid rfl
  have HSB : Hid (splitB xs id mtu = if splitE xs.length mtu = 0 then splitL xs id (countN xs.length mtu.toNat) else []) := Lib.hid rfl
  have HAC := Lib.hid hac
  generalize splitE xs.length mtu = er at *
  unfold maxLen at hcm
  clear hac
  by_cases h1 : mtu < 64
  · rw [if_pos (.inl h1)] at HSE
    rw [HSE.out, if_neg (by decide)] at HSB
    have hd1 : decide (mtu < 64) = true := decide_eq_true h1
    clear ha
    go_enter Try.func33, Try.ntmps33
    go_wp2
    go_ret2
    exact GOut.nil HSB.out (by rw [HSE.out]; rfl) (St.refl _ _)
  by_cases h2 : 1024 < mtu
  · rw [if_pos (.inr h2)] at HSE
    rw [HSE.out, if_neg (by decide)] at HSB
    have hd1 : decide (mtu < 64) = false := decide_eq_false h1
    have hd2 : decide (1024 < mtu) = true := decide_eq_true h2
    clear ha
    go_enter Try.func33, Try.ntmps33
    go_wp2
    go_ret2
    exact GOut.nil HSB.out (by rw [HSE.out]; rfl) (St.refl _ _)
  rw [if_neg (by omega)] at HSE
  have hd1 : decide (mtu < 64) = false := decide_eq_false h1
  have hd2 : decide (1024 < mtu) = false := decide_eq_false h2
  by_cases h3 : xs.length = 0
  · rw [if_pos (.inl h3)] at HSE
    rw [HSE.out, if_neg (by decide)] at HSB
    obtain rfl : xs = [] := List.eq_nil_of_length_eq_zero h3
    clear ha h3
    go_enter Try.func33, Try.ntmps33
    go_wp2
    go_ret2
    exact GOut.nil HSB.out (by rw [HSE.out]; rfl) (St.refl _ _)
  have hd3 : ((xs.length : Int) == 0) = false := beq_eq_false_iff_ne.2 (by omega)
  have hd3' : (xs.length == 0) = false := beq_eq_false_iff_ne.2 (by omega)
  by_cases h4 : 4096 < xs.length
  · rw [if_pos (.inr h4)] at HSE
    rw [HSE.out, if_neg (by decide)] at HSB
    have hd4 : decide (4096 < (xs.length : Int)) = true := decide_eq_true (by omega)
    clear ha h3
    go_enter Try.func33, Try.ntmps33
    go_wp2
    go_ret2
    exact GOut.nil HSB.out (by rw [HSE.out]; rfl) (St.refl _ _)
  rw [if_neg (by omega)] at HSE
  rw [HSE.out, if_pos rfl] at HSB
  obtain ⟨m, rfl⟩ : ∃ m : Nat, mtu = (m : Int) := ⟨mtu.toNat, by omega⟩
  rw [Int.toNat_natCast] at HSB
  have HFA := Lib.hid (split_facts (len := xs.length) (mtu := m) (by omega) (by omega) (by omega) (by omega))
  have hd4 : decide (4096 < (xs.length : Int)) = false := decide_eq_false (by omega)
  have hd6 : decide (4096 < xs.length) = false := decide_eq_false (by omega)
  have hcn : ((xs.length : Int) + ((m : Int) - 18) - 1) / ((m : Int) - 18) = (countN xs.length m : Int) := by
    unfold countN ceilN
    rw [Int.natCast_ediv, show ((xs.length + (m - 18) - 1 : Nat) : Int) = (xs.length : Int) + ((m : Int) - 18) - 1 by omega, show ((m - 18 : Nat) : Int) = (m : Int) - 18 by omega]
  have HA := Lib.hid ha
  have hl2 : xs.length ≤ 4096 := by omega
  have hm1 : 64 ≤ m := by omega
  have hm2 : m ≤ 1024 := by omega
  have hx1 : 1 ≤ xs.length := by omega
  clear ha h1 h2 h3 h4
  generalize hC : countN xs.length m = C at *
  have hC1 := HFA.out.1
  have hC2 := HFA.out.2.1
  have HPL : Hid (∀ k, (partB xs C k).length = min (sizeN xs.length C) (xs.length - k * sizeN xs.length C)) := Lib.hid (fun k => partB_len)
  have HPB : Hid (∀ k, partB xs C k = (xs.drop (k * sizeN xs.length C)).take (sizeN xs.length C)) := Lib.hid (fun k => rfl)
  have HSZ := Lib.hid (sizeOf_calls xs.length C (by omega) (by omega) (by omega))
  clear hC
  generalize hS : sizeN xs.length C = S at *
  clear hS
  have hS1 := HFA.out.2.2.1
  have hS2 := HFA.out.2.2.2.1
  go_enter Try.func33, Try.ntmps33
  go_wp2_with (go_at_call 70; refine (HSZ.out _).mono ?_; rintro e w1 ⟨rfl, rfl⟩)
  go_loopw [11, 12, 13, 14, 15] (fun V i _ _ _ wr => ∃ (k : Nat) (vs : List Value), k ≤ C ∧ i = .int .i64 k ∧ Hid (Grams wr V vs ((splitL xs id C).take k)) ∧ Hid (St No w (fpG V vs) wr)) (fun _ i _ _ _ _ => C - (intOf i).toNat)
  case atStart => exact ⟨0, [], by omega, rfl, Lib.hid (by rw [List.take_zero]; exact Grams.nil _), Lib.hid ((St.refl No _).drop (fun k hk => by rcases hk with hk | ⟨v, hv, _⟩ <;> simp [fpV, Value.ownBlock] at *))⟩
  case round =>
    obtain ⟨k, vs, hk, rfl, HG, HS⟩ := hrel
    by_cases hlt : k < C
    · have HSN := Lib.hid (splitL_take xs id C k hlt)
      have HTL : Hid (((splitL xs id C).take k).length ≤ 90) := Lib.hid (by rw [List.length_take]; omega)
      generalize (splitL xs id C).take k = pre at *
      have HB2 := Lib.hid (HA.out.st HS.out (Dj.no _))
      have hm3 : k * S ≤ (C - 1) * S := Nat.mul_le_mul_right _ (by omega)
      have hm4 : k * S < xs.length := Nat.lt_of_le_of_lt hm3 HFA.out.2.2.2.2.1
      have hw1 : IntKind.i64.wrap ((k : Int) * (S : Int)) = ((k * S : Nat) : Int) := by rw [← Int.natCast_mul, IntKind.wrap_i64]; omega
      have e2 : (k + 1) * S = k * S + S := Nat.succ_mul k S
      have hw2 : IntKind.i64.wrap (((k : Int) + 1) * (S : Int)) = ((k * S + S : Nat) : Int) := by rw [← e2, show (((k : Int) + 1) * (S : Int)) = (((k + 1) * S : Nat) : Int) by simp, IntKind.wrap_i64]; omega
      have hpl := HPL.out k
      have hpb := HPB.out k
      generalize hst : k * S = st at *
      have HBP : Hid (Bs wr (a.map (fun x => x.add st)) (partB xs C k)) := Lib.hid (by rw [hpb]; exact (HB2.out.drop4 st).take _)
      clear hpb hm3 e2 hst
      have hpl7 : (partB xs C k).length ≤ 1006 := by omega
      have HSE0 : Hid (∀ c', (a.map (fun x => x.add st) = none → c' = 0) → Calls Try.prog 71 #[.agg #[.int .u64 (id.toNat : Int), .int .i64 (k : Int), .int .i64 (C : Int), .int .i64 (xs.length : Int), .slice (a.map (fun x => x.add st)) (partB xs C k).length c']] wr (DOut wr (dgram (fragB xs id C k)))) :=
        Lib.hid (fun c' h => seal_calls (fragB xs id C k) _ c' h hpl7 (by show k ≤ 255; omega) (by show C ≤ 255; omega) (by show xs.length ≤ 65535; omega) wr HBP.out)
      clear hpl7
      by_cases hle : xs.length ≤ st + S
      · have hmin : min (xs.length : Int) ((st + S : Nat) : Int) = (xs.length : Int) := by omega
        have hpl2 : (partB xs C k).length = xs.length - st := by omega
        rw [hpl2] at HSE0
        have HSEAL := HSE0
        clear hpl hpl2 HSE0
        go_wp2_with fail
        refine (HSEAL.out _ (fun h => by rw [HAC.out (by cases a with | none => rfl | some x => cases h)]; omega)).mono ?_
        rintro e w2 ⟨g2, rfl, ho2, hg2, hs2⟩
        generalize hn2 : (dgram (fragB xs id C k)).length = n2 at ho2
        have HO2 := Lib.hid ho2
        have HS2 : Hid (St No wr (fpV (.slice (some ⟨g2, 0, none⟩) n2 n2)) w2) := Lib.hid (hs2.toNew.drop (fun j hj => .inr (by simp [fpV, Value.ownBlock] at hj; show wr.heap.size ≤ j; omega)))
        have HG2 := Lib.hid (HG.out.st hs2 (Dj.no _))
        have HDJ : Hid (Dj (fpV (.slice (some ⟨g2, 0, none⟩) n2 n2)) (fpG u11 vs)) := Lib.hid (HG.out.in.dj_new HS2.out)
        clear ho2 hs2 hg2 hn2
        go_wp2_with (at_builtin; refine wpList_appG rfl (.tmp 74) (.tmp 76) rfl _ vs pre rfl (HG2.out.st (St.alloc' No _ _) (Dj.no _)) _ (.slice (some ⟨g2, 0, none⟩) n2 n2) _ rfl (ob_one4 _) (HO2.out.newB _) HDJ.out (by have := HTL.out; omega) ?_; intro V3 w3 hg3 hs3; have HG3 := Lib.hid hg3; have HS3 := Lib.hid hs3; clear hg3 hs3)
        go_roundw
        case rel => exact ⟨k + 1, vs ++ [.slice (some ⟨g2, 0, none⟩) n2 n2], by omega, by go_num, Lib.hid (by rw [HSN.out]; exact HG3.out), Lib.hid (HS.out.trans (fpG_app (St.refl No _) (HS2.out.trans (St.alloc' (fpV (.slice (some ⟨g2, 0, none⟩) n2 n2)) _ _)) HS3.out))⟩
        case measure => simp [intOf]; omega
      · have hmin : min (xs.length : Int) ((st + S : Nat) : Int) = ((st + S : Nat) : Int) := by omega
        have hpl2 : (partB xs C k).length = S := by omega
        rw [hpl2] at HSE0
        have HSEAL := HSE0
        clear hpl hpl2 HSE0
        go_wp2_with fail
        refine (HSEAL.out _ (fun h => by rw [HAC.out (by cases a with | none => rfl | some x => cases h)]; omega)).mono ?_
        rintro e w2 ⟨g2, rfl, ho2, hg2, hs2⟩
        generalize hn2 : (dgram (fragB xs id C k)).length = n2 at ho2
        have HO2 := Lib.hid ho2
        have HS2 : Hid (St No wr (fpV (.slice (some ⟨g2, 0, none⟩) n2 n2)) w2) := Lib.hid (hs2.toNew.drop (fun j hj => .inr (by simp [fpV, Value.ownBlock] at hj; show wr.heap.size ≤ j; omega)))
        have HG2 := Lib.hid (HG.out.st hs2 (Dj.no _))
        have HDJ : Hid (Dj (fpV (.slice (some ⟨g2, 0, none⟩) n2 n2)) (fpG u11 vs)) := Lib.hid (HG.out.in.dj_new HS2.out)
        clear ho2 hs2 hg2 hn2
        go_wp2_with (at_builtin; refine wpList_appG rfl (.tmp 74) (.tmp 76) rfl _ vs pre rfl (HG2.out.st (St.alloc' No _ _) (Dj.no _)) _ (.slice (some ⟨g2, 0, none⟩) n2 n2) _ rfl (ob_one4 _) (HO2.out.newB _) HDJ.out (by have := HTL.out; omega) ?_; intro V3 w3 hg3 hs3; have HG3 := Lib.hid hg3; have HS3 := Lib.hid hs3; clear hg3 hs3)
        go_roundw
        case rel => exact ⟨k + 1, vs ++ [.slice (some ⟨g2, 0, none⟩) n2 n2], by omega, by go_num, Lib.hid (by rw [HSN.out]; exact HG3.out), Lib.hid (HS.out.trans (fpG_app (St.refl No _) (HS2.out.trans (St.alloc' (fpV (.slice (some ⟨g2, 0, none⟩) n2 n2)) _ _)) HS3.out))⟩
        case measure => simp [intOf]; omega
    · obtain rfl : k = C := by omega
      have hg := HG.out
      rw [List.take_of_length_le (by rw [splitL_len]; exact Nat.le_refl _)] at hg
      have HG1 := Lib.hid hg
      clear hg HG
      go_wp2
      go_ret2
      exact ⟨_, vs, by rw [HSE.out]; rfl, by rw [HSB.out]; exact HG1.out, HS.out⟩
end Go.Proofs.Ytoeafacamapofaa
