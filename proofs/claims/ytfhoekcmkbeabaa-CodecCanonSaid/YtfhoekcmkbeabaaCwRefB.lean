
/-
  The walks over the reference's bytes: join, digits, Groups, fold.
-/
import Derived.Test.YtfhoekcmkbeabaaCwWriter4
namespace Go.Proofs.Ytfhoekcmkbeabaa
open Go.RowKit
set_option linter.unusedVariables false
set_option linter.unusedSimpArgs false

theorem bs_one' {w : World} {v : Int} {b : B8} (h : v = (b.toNat : Int)) : Bs (w.alloc (.cells #[.int .u8 v] 5)) (some ⟨w.heap.size, 0, none⟩) [b] := by
  subst h
  exact rd_row (heap_alloc_new w (.cells #[.int .u8 (b.toNat : Int)] 5))
theorem OwB.new' {w : World} {v : Value} {xs : List B8} (h : OwB w v xs) (o : Obj) : OwB (w.alloc o) v xs := h.move (fun k hk => Below.heap_alloc _ _ _ (h.in k hk))
/-- one byte appended behind a new block -/
theorem St.one {F F' : Nat → Prop} {w w' : World} (o : Obj) (h : St F (w.alloc o) F' w') : St F w F' w' := (St.alloc' F w o).trans h

set_option maxRecDepth 100000 in
set_option maxHeartbeats 2000000 in
theorem join2_calls (a : Option Addr) (c : Nat) (xs : List B8) (b : Option Addr) (d : Nat) (ys : List B8) (hl : xs.length + ys.length ≤ 140737488355328) (w : World) (ha : Bs w a xs) (hb : Bs w b ys) :
    Calls Try.prog 82 #[.slice a xs.length c, .slice b ys.length d] w fun e w' => ∃ v, e = .returned v ∧ OwB w' v (xs ++ ys) ∧ St No w (fpV v) w' := by
  have HA := Lib.hid ha
  have HB := Lib.hid hb
  clear ha hb
  go_enter Try.func82, Try.ntmps82
  go_wp2_with (at_make; refine wpList_makeB rfl (.const (.int .i64 0)) (.tmp 12) rfl .i64 .i64 0 ((xs.length : Int) + (ys.length : Int)) 0 (xs.length + ys.length) rfl rfl rfl (by simp) (Nat.zero_le _) (by omega) ?_; intro w1 ho1 hob1 hs1; clear hob1; have HO1 := Lib.hid ho1; have HS1 := Lib.hid hs1; clear ho1 hs1)
  go_loopw [5, 6] (fun v i wr => ∃ k : Nat, k ≤ xs.length ∧ i = .int .i64 k ∧ Hid (OwB wr v (xs.take k)) ∧ Hid (St No w (fpV v) wr)) (fun _ i _ => xs.length - (intOf i).toNat)
  case atStart => exact ⟨0, by omega, rfl, HO1, HS1⟩
  case round =>
    clear HO1 HS1
    obtain ⟨k, hk, rfl, HO, HS⟩ := hrel
    by_cases hlt : k < xs.length
    · obtain ⟨x, hx, hc⟩ := (HA.out.st HS.out (Dj.no _)).at k hlt
      have hts : xs.take (k + 1) = xs.take k ++ [xs[k]] := List.take_succ_eq_append_getElem hlt
      have htl : (xs.take k).length = k := by simp; omega
      generalize xs[k] = x0 at *
      generalize xs.take k = pre at *
      have HTS := Lib.hid hts
      have HTL := Lib.hid htl
      have HX := Lib.hid hx
      obtain ⟨v0, hv0⟩ : ∃ v0 : Value, v0 = .slice a xs.length c := ⟨_, rfl⟩
      subst hx
      clear hts htl
      go_wp2_with (at_builtin; refine wpList_appB rfl (.tmp 20) (.tmp 25) rfl _ pre rfl (HO.out.new' _) (some ⟨wr.heap.size, 0, none⟩) 1 1 [x0] rfl rfl (bs_one' rfl) (fun h => by cases h) (by have := HTL.out; simp; omega) ?_; intro v2 w2 ho2 hs2 hn2; have HO2 := Lib.hid ho2; have HS2 := Lib.hid (hs2.one); clear ho2 hs2 hn2)
      go_roundw
      case rel => exact ⟨k + 1, by omega, by go_num, Lib.hid (by rw [HTS.out]; exact HO2.out), Lib.hid (HS.out.trans HS2.out)⟩
      case measure => simp [intOf]; omega
    · obtain rfl : k = xs.length := by omega
      have ho := HO.out
      rw [List.take_length] at ho
      have HO1 : Hid (OwB wr _ (xs ++ ys.take 0)) := Lib.hid (by rw [List.take_zero, List.append_nil]; exact ho)
      have HS1 := HS
      clear ho HO HS
      go_wp2
      go_loopw [5, 7] (fun v i wr => ∃ k : Nat, k ≤ ys.length ∧ i = .int .i64 k ∧ Hid (OwB wr v (xs ++ ys.take k)) ∧ Hid (St No w (fpV v) wr)) (fun _ i _ => ys.length - (intOf i).toNat)
      case atStart => exact ⟨0, by omega, rfl, HO1, HS1⟩
      case round =>
        clear HO1 HS1
        obtain ⟨k, hk, rfl, HO, HS⟩ := hrel
        by_cases hlt : k < ys.length
        · obtain ⟨x, hx, hc⟩ := (HB.out.st HS.out (Dj.no _)).at k hlt
          have hts : xs ++ ys.take (k + 1) = (xs ++ ys.take k) ++ [ys[k]] := by rw [List.take_succ_eq_append_getElem hlt, List.append_assoc]
          have htl : (xs ++ ys.take k).length = xs.length + k := by simp; omega
          generalize ys[k] = x0 at *
          generalize xs ++ ys.take k = pre at *
          have HTS := Lib.hid hts
          have HTL := Lib.hid htl
          subst hx
          clear hts htl
          go_wp2_with (at_builtin; refine wpList_appB rfl (.tmp 33) (.tmp 38) rfl _ pre rfl (HO.out.new' _) (some ⟨wr.heap.size, 0, none⟩) 1 1 [x0] rfl rfl (bs_one' rfl) (fun h => by cases h) (by have := HTL.out; simp; omega) ?_; intro v2 w2 ho2 hs2 hn2; have HO2 := Lib.hid ho2; have HS2 := Lib.hid (hs2.one); clear ho2 hs2 hn2)
          go_roundw
          case rel => exact ⟨k + 1, by omega, by go_num, Lib.hid (by rw [HTS.out]; exact HO2.out), Lib.hid (HS.out.trans HS2.out)⟩
          case measure => simp [intOf]; omega
        · obtain rfl : k = ys.length := by omega
          have ho := HO.out
          rw [List.take_length] at ho
          have HO1 := Lib.hid ho
          clear ho HO
          go_wp2
          go_ret
          exact ⟨_, rfl, HO1.out, HS.out⟩


theorem beTo_get (x : BitVec 64) (n j i : Nat) (h : i < j) : (beTo x n j)[i]? = some ((x >>> (8 * (n - 1 - i))).setWidth 8) := by
  induction j with
  | zero => omega
  | succ j ih =>
    simp only [beTo]
    by_cases hi : i < j
    · rw [List.getElem?_append_left (by rw [beTo_len]; exact hi)]
      exact ih hi
    · obtain rfl : i = j := by omega
      rw [List.getElem?_append_right (by rw [beTo_len]; omega), beTo_len, Nat.sub_self]
      rfl
theorem fill_back (ys : List B8) (m : Nat) (h : m < ys.length) : (List.replicate (m + 1) 0#8 ++ ys.drop (m + 1)).set m ys[m] = List.replicate m 0#8 ++ ys.drop m := by
  rw [List.set_append_left _ _ (by simp)]
  have : (List.replicate (m + 1) 0#8).set m ys[m] = List.replicate m 0#8 ++ [ys[m]] := by
    rw [List.replicate_succ', List.set_append_right _ _ (by simp)]
    simp
  rw [this, List.append_assoc, List.drop_eq_getElem_cons h]
  rfl
theorem byte_div (x : BitVec 64) (k : Nat) : (((x >>> (8 * k)).toNat : Nat) : Int) / 256 = ((x >>> (8 * (k + 1))).toNat : Int) := by
  rw [show 8 * (k + 1) = 8 * k + 8 by omega, BitVec.shiftRight_add, BitVec.toNat_ushiftRight (x >>> (8 * k)), Nat.shiftRight_eq_div_pow]; simp
theorem byte_mod (y : BitVec 64) : ((y.toNat : Nat) : Int) % 256 = ((y.setWidth 8).toNat : Int) := by
  rw [BitVec.toNat_setWidth]; simp

set_option maxRecDepth 100000 in
set_option maxHeartbeats 2000000 in
theorem digits_calls (x : BitVec 64) (n : Nat) (hn : n ≤ 8) (w : World) :
    Calls Try.prog 81 #[.int .u64 (x.toNat : Int), .int .i64 (n : Int)] w fun e w' => ∃ v, e = .returned v ∧ OwB w' v (beTo x n n) ∧ St No w (fpV v) w' := by
  go_enter Try.func81, Try.ntmps81
  go_wp2_with (at_make; refine wpList_makeB rfl (.tmp 7) (.tmp 7) rfl .i64 .i64 (n : Int) (n : Int) n n rfl rfl rfl rfl (Nat.le_refl _) (by omega) ?_; intro w1 ho1 hob1 hs1; clear hob1; have HO1 := Lib.hid ho1; have HS1 := Lib.hid hs1.toNew; have hgs : w.heap.size < w1.heap.size := (ho1.in w.heap.size (by simp [fpV, Value.ownBlock])); clear ho1 hs1)
  go_loopw [0, 6] (fun v0 i wr => ∃ m : Nat, m ≤ n ∧ (∃ q : Int, i = .int .i64 q ∧ Hid (q = (m : Int) - 1)) ∧ v0 = .int .u64 ((x >>> (8 * (n - m))).toNat : Int) ∧ Hid (OwB wr (.slice (some ⟨w.heap.size, 0, none⟩) n n) (List.replicate m 0#8 ++ (beTo x n n).drop m)) ∧ Hid (St No w (Nw w) wr)) (fun _ i _ => (intOf i + 1).toNat)
  case atStart => exact ⟨n, Nat.le_refl _, ⟨_, rfl, Lib.hid rfl⟩, by rw [Nat.sub_self]; rfl, Lib.hid (by rw [List.drop_eq_nil_of_le (by rw [beTo_len]; exact Nat.le_refl _), List.append_nil]; exact HO1.out), HS1⟩
  case round =>
    clear HO1 HS1
    obtain ⟨m, hm, ⟨q, rfl, hq⟩, rfl, HO, HS⟩ := hrel
    cases m with
    | zero =>
      obtain rfl : q = -1 := by have := hq.out; omega
      go_wp2
      go_ret
      exact ⟨_, rfl, HO.out, HS.out.drop (fun k hk => .inr (by simp [fpV, Value.ownBlock] at hk; show w.heap.size ≤ k; omega))⟩
    | succ j =>
      obtain rfl : q = (j : Int) := by have := hq.out; omega
      have hbl : (beTo x n n).length = n := beTo_len x n n
      have hf := fill_back (beTo x n n) j (by omega)
      have hg := beTo_get x n n j (by omega)
      rw [List.getElem?_eq_getElem (by omega)] at hg
      rw [Option.some.inj hg, show n - 1 - j = n - (j + 1) by omega] at hf
      have hd := byte_div x (n - (j + 1))
      rw [show n - (j + 1) + 1 = n - j by omega] at hd
      have hmd := byte_mod (x >>> (8 * (n - (j + 1))))
      have hL : (List.replicate (j + 1) 0#8 ++ (beTo x n n).drop (j + 1)).length = n := by simp; omega
      generalize hLL : List.replicate (j + 1) 0#8 ++ (beTo x n n).drop (j + 1) = L at *
      have hc := HO.out.cell j (by omega)
      have hfr := HO.out.free j
      generalize L[j]'(by omega) = l0 at hc
      have HF := Lib.hid hf
      have HD := Lib.hid hd
      have HM := Lib.hid hmd
      have HL := Lib.hid hL
      generalize x >>> (8 * (n - (j + 1))) = y at *
      have hyb : (y.toNat : Int) ≤ 18446744073709551615 := by have := y.isLt; omega
      clear hf hd hmd hL hLL hg hbl
      go_wp2
      go_roundw
      case rel =>
        refine ⟨j, by omega, ⟨_, rfl, Lib.hid rfl⟩, by rw [HD.out], Lib.hid ?_, Lib.hid ?_⟩
        · have := HO.out.set HL.out.symm j (y.setWidth 8)
          rw [HF.out] at this
          rw [← HM.out] at this
          exact this
        · exact HS.out.trans (St.setCell _ _ _ (by simp [Nw]))
      case measure => simp [intOf] <;> omega

set_option maxRecDepth 100000 in
set_option maxHeartbeats 2000000 in
theorem refGroups_calls (x : BitVec 64) (X : Int) (hX : X = (x.toNat : Int)) (w : World) :
    Calls Try.prog 103 #[.int .u64 X] w fun e w' => ∃ v, e = .returned v ∧ OwB w' v (groupsB x.toNat) ∧ St No w (fpV v) w' := by
  subst hX
  have hx := x.isLt
  generalize x.toNat = n at *
  have hx2 : n ≤ 18446744073709551615 := by omega
  clear hx
  go_enter Try.func103, Try.ntmps103
  go_wp2
  go_loopw [0, 3, 4] (fun v0 v _ wr => ∃ (k y : Nat) (pre : List B8), k ≤ 9 ∧ v0 = .int .u64 y ∧ Hid (pre.length = k) ∧ Hid (groupsB n = pre ++ groupsF (9 - k) y) ∧ Hid (y < 2 ^ (64 - 7 * k)) ∧ y ≤ 18446744073709551615 ∧ Hid (OwB wr v pre) ∧ Hid (St No w (fpV v) wr)) (fun v0 _ _ _ => (intOf v0).toNat)
  case atStart =>
    exact ⟨0, n, [], by omega, rfl, Lib.hid rfl, Lib.hid rfl, Lib.hid (by show n < 2 ^ 64; omega), hx2, Lib.hid (OwB.nil w), Lib.hid ((St.refl No w).drop (fun k hk => by simp [fpV, Value.ownBlock] at hk))⟩
  case round =>
    obtain ⟨k, y, pre, hk, rfl, hpre, hg, hy, hyb, HO, HS⟩ := hrel
    by_cases h128 : 128 ≤ y
    · have hk9 : k < 9 := by
        by_cases h : k < 9
        · exact h
        · obtain rfl : k = 9 := by omega
          have := hy.out
          simp at this
          omega
      have hg2 : groupsF (9 - k) y = BitVec.ofNat 8 (y % 128 + 128) :: groupsF (9 - (k + 1)) (y / 128) := by
        rw [show 9 - k = (9 - (k + 1)) + 1 by omega]
        simp only [groupsF]
        rw [if_neg (by omega)]
      have HG2 := Lib.hid hg2
      have hb : (128 : Int) + (y : Int) % 128 = ((BitVec.ofNat 8 (y % 128 + 128)).toNat : Int) := by rw [BitVec.toNat_ofNat]; omega
      have HB := Lib.hid hb
      have hz : ((y : Int) / 128 == 0) = false := by rw [beq_eq_false_iff_ne]; omega
      clear hg2 hb
      generalize BitVec.ofNat 8 (y % 128 + 128) = gb at *
      go_wp2_with (first
        | (at_builtin; refine wpList_appB rfl (.tmp 16) (.tmp 19) rfl _ pre rfl (HO.out.new' _) (some ⟨wr.heap.size, 0, none⟩) 1 1 [gb] rfl rfl (bs_one' HB.out) (fun h => by cases h) (by have := hpre.out; simp; omega) ?_; intro v2 w2 ho2 hs2 hn2; have HO2 := Lib.hid ho2; have HS2 := Lib.hid (hs2.one); clear ho2 hs2 hn2))
      go_roundw
      case rel =>
        refine ⟨k + 1, y / 128, pre ++ [gb], by omega, by go_num, Lib.hid (by have := hpre.out; simp; omega), Lib.hid (by rw [hg.out, HG2.out]; simp), Lib.hid ?_, by omega, HO2, Lib.hid (HS.out.trans HS2.out)⟩
        have := hy.out
        rw [show 64 - 7 * k = (64 - 7 * (k + 1)) + 7 by omega, Nat.pow_add] at this
        exact Nat.div_lt_of_lt_mul (by rw [Nat.mul_comm]; exact this)
      case measure => simp [intOf]; omega
    · have hg2 : groupsF (9 - k) y = [BitVec.ofNat 8 y] := by
        cases h9 : 9 - k with
        | zero => rfl
        | succ f => simp only [groupsF]; rw [if_pos (by omega)]
      have HG2 := Lib.hid hg2
      have hb : (y : Int) % 128 = ((BitVec.ofNat 8 y).toNat : Int) := by rw [BitVec.toNat_ofNat]; omega
      have hb2 : (y : Int) = ((BitVec.ofNat 8 y).toNat : Int) := by rw [BitVec.toNat_ofNat]; omega
      have HB := Lib.hid hb
      have HB2 := Lib.hid hb2
      have hz : ((y : Int) / 128 == 0) = true := by rw [beq_iff_eq]; omega
      clear hg2 hb hb2
      generalize BitVec.ofNat 8 y = gb at *
      go_wp2_with (first
        | (at_builtin; refine wpList_appB rfl (.tmp 12) (.tmp 14) rfl _ pre rfl (HO.out.new' _) (some ⟨wr.heap.size, 0, none⟩) 1 1 [gb] rfl rfl (bs_one' HB.out) (fun h => by cases h) (by have := hpre.out; simp; omega) ?_; intro v2 w2 ho2 hs2 hn2; have HO2 := Lib.hid ho2; have HS2 := Lib.hid (hs2.one); clear ho2 hs2 hn2))
      go_ret
      exact ⟨_, rfl, by rw [hg.out, HG2.out]; exact HO2.out, HS.out.trans HS2.out⟩

set_option maxRecDepth 100000 in
set_option maxHeartbeats 1000000 in
theorem fold_calls (x : Int) (h0 : -9223372036854775808 ≤ x) (h1 : x ≤ 9223372036854775807) (w : World) :
    Calls Try.prog 104 #[.int .i64 x] w fun e w' => e = .returned (.int .u64 (zig x : Int)) ∧ w = w' := by
  by_cases hx : 0 ≤ x
  · have hz : (zig x : Int) = 2 * x := by unfold zig; rw [if_pos hx]; omega
    have HZ := Lib.hid hz
    clear hz
    go_enter Try.func104, Try.ntmps104
    go_wp2
    go_ret
    exact ⟨ret_int (by rw [HZ.out]), rfl⟩
  · have hz : (zig x : Int) = -2 * x - 1 := by unfold zig; rw [if_neg hx]; omega
    have HZ := Lib.hid hz
    have hneg : x < 0 := by omega
    clear hz hx
    go_enter Try.func104, Try.ntmps104
    go_wp2
    go_ret
    exact ⟨ret_int (by rw [HZ.out]; omega), rfl⟩

end Go.Proofs.Ytfhoekcmkbeabaa
