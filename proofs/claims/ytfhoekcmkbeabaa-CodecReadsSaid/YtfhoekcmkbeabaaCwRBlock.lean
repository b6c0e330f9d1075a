
/-
  The walks over the reference's block; its take, of every kind.
-/
import Derived.Test.YtfhoekcmkbeabaaCwRTake
namespace Go.Proofs.Ytfhoekcmkbeabaa
open Go.RowKit
set_option linter.unusedVariables false
set_option linter.unusedSimpArgs false

set_option maxRecDepth 100000 in
set_option maxHeartbeats 1000000 in
theorem rblock (a : Option Addr) (c : Nat) (bs : List B8) (hn : bs.length ≤ 16777216) (hcl : bs.length ≤ c) (hcm : c ≤ 9223372036854775807) (at_ : Nat) (hat : at_ ≤ bs.length) (m : Int) (hm1 : -9223372036854775808 ≤ m) (hm : m ≤ 9223372036854775807) (w : World) (hb : Bs w a bs) :
    Calls Try.prog 116 #[.slice a bs.length c, .int .i64 (at_ : Int), .int .i64 m] w (RTakePost w (bs.drop at_) 9 m) := by
  have HB := Lib.hid hb
  have hu := Try.underlying51
  have HS0 : Hid (∀ o1, St No w No (w.alloc o1)) := Lib.hid (fun o1 => St.alloc' No w _)
  have HBW : Hid (∀ W, St No w No W → Bs W a bs) := Lib.hid (fun W h => HB.out.st h (Dj.no _))
  have HLR : Hid ((bs.drop at_).length = bs.length - at_) := Lib.hid (by simp)
  clear hb
  have HBS : Hid (RS.block ⟨bs.drop at_, 0⟩ m = if blockE (bs.drop at_) m = 0 then ⟨((bs.drop at_).drop (headB 0 0 (bs.drop at_)).2.1).drop (headB 0 0 (bs.drop at_)).1.toNat, 0⟩ else ⟨bs.drop at_, blockE (bs.drop at_) m⟩) := Lib.hid (by unfold RS.block; rw [if_pos rfl])
  have HBB : Hid (blockB true ⟨bs.drop at_, 0⟩ m = if blockE (bs.drop at_) m = 0 then ((bs.drop at_).drop (headB 0 0 (bs.drop at_)).2.1).take (headB 0 0 (bs.drop at_)).1.toNat else []) := Lib.hid (by unfold blockB opens; simp)
  have HBE : Hid (blockE (bs.drop at_) m = if m < 0 then 2 else if (headB 0 0 (bs.drop at_)).2.2 ≠ 0 then (headB 0 0 (bs.drop at_)).2.2 else if m < ((headB 0 0 (bs.drop at_)).1.toNat : Int) then 25
    else if ((bs.drop at_).length : Int) - ((headB 0 0 (bs.drop at_)).2.1 : Int) < ((headB 0 0 (bs.drop at_)).1.toNat : Int) then 21 else 0) := Lib.hid rfl
  have HLN := Lib.hid (headB_len (bs.drop at_) 0 0)
  have HGC : Hid (∀ W, Bs W a bs → Calls Try.prog 114 #[.slice a bs.length c, .int .i64 (at_ : Int)] W (GroupedPost W (bs.drop at_))) := Lib.hid (fun W h => grouped_calls a c bs hn at_ hat W h)
  unfold GroupedPost at HGC
  generalize headB 0 0 (bs.drop at_) = r at *
  obtain ⟨x, n, er⟩ := r
  simp only at HBS HBB HBE HLN HGC
  have HFAIL : Hid (∀ (E : Int) (e : Ending) (w' : World), E ≠ 0 → blockE (bs.drop at_) m = E → e = .returned (.tuple #[.agg #[.int .i64 0, .int .u64 0, .int .i64 0, .bool false, .slice none 0 0], .int .i64 0, .int .i64 E]) → St No w No w' → RTakePost w (bs.drop at_) 9 m e w') := Lib.hid (by
    intro E e w' hE hq he st
    refine rtake_fail he ?_ ?_ st
    · show Tk.mk _ _ _ (blockB _ _ _) = _
      rw [HBB.out, hq, if_neg hE]
    · show RS.block ⟨bs.drop at_, 0⟩ m = _
      rw [HBS.out, hq, if_neg hE])
  by_cases hneg : m < 0
  · rw [if_pos hneg] at HBE
    go_enter Try.func116, Try.ntmps116
    go_wp2
    refine bodyPost_ret (results_cell_row_tmp2 rfl _ _ w.heap.size _ _ _ _ rfl (heap_alloc_new w _) hu rfl rfl) rfl ?_
    exact HFAIL.out 2 _ _ (by decide) HBE.out rfl (HS0.out _)
  · rw [if_neg hneg] at HBE
    by_cases hz : er = 0
    · subst hz
      rw [if_neg (by simp)] at HBE
      have hln := (HLN.out rfl).2
      rw [Nat.zero_add, HLR.out] at hln
      by_cases hbig : m < (x.toNat : Int)
      · rw [if_pos hbig] at HBE
        go_enter Try.func116, Try.ntmps116
        go_wp2_with fail
        refine (HGC.out _ (HBW.out _ (HS0.out _))).mono ?_
        rintro e w1 ⟨rfl, hs1⟩
        have hR : Ob w1 w.heap.size 51 #[.int .i64 0, .int .u64 0, .int .i64 0, .bool false, .slice none 0 0] := (hs1.block _ (by simp; try omega) (fun h => h)).trans (heap_alloc_new w _)
        obtain ⟨r0, r1, r2, r3, r4, s0, s1, s2, s3, s4⟩ := hR.five
        have HR := Lib.hid hR
        clear hR
        have HS1 := Lib.hid hs1
        clear hs1
        go_wp2
        refine bodyPost_ret (results_cell_row_tmp2 rfl _ _ w.heap.size _ _ _ _ rfl (((((HR.out.set 0 _).set 1 _).set 2 _).set 3 _).set 4 _) hu rfl thInfo) rfl ?_
        exact HFAIL.out 25 _ _ (by decide) HBE.out rfl ((rst (HS0.out _) HS1.out (((((St.setCell (F := RT w) _ ⟨w.heap.size, 0, none⟩ _ (.inl rfl)).trans (St.setCell _ ⟨w.heap.size, 1, none⟩ _ (.inl rfl))).trans (St.setCell _ ⟨w.heap.size, 2, none⟩ _ (.inl rfl))).trans (St.setCell _ ⟨w.heap.size, 3, none⟩ _ (.inl rfl))).trans (St.setCell _ ⟨w.heap.size, 4, none⟩ _ (.inl rfl)))).drop (fun _ h => h.elim))
      · rw [if_neg hbig] at HBE
        by_cases hsh : (bs.length : Int) - (at_ : Int) - (n : Int) < (x.toNat : Int)
        · rw [if_pos (by rw [HLR.out]; omega)] at HBE
          go_enter Try.func116, Try.ntmps116
          go_wp2_with fail
          refine (HGC.out _ (HBW.out _ (HS0.out _))).mono ?_
          rintro e w1 ⟨rfl, hs1⟩
          have hR : Ob w1 w.heap.size 51 #[.int .i64 0, .int .u64 0, .int .i64 0, .bool false, .slice none 0 0] := (hs1.block _ (by simp; try omega) (fun h => h)).trans (heap_alloc_new w _)
          obtain ⟨r0, r1, r2, r3, r4, s0, s1, s2, s3, s4⟩ := hR.five
          have HR := Lib.hid hR
          clear hR
          have HS1 := Lib.hid hs1
          clear hs1
          go_wp2
          refine bodyPost_ret (results_cell_row_tmp2 rfl _ _ w.heap.size _ _ _ _ rfl (((((HR.out.set 0 _).set 1 _).set 2 _).set 3 _).set 4 _) hu rfl thInfo) rfl ?_
          exact HFAIL.out 21 _ _ (by decide) HBE.out rfl ((rst (HS0.out _) HS1.out (((((St.setCell (F := RT w) _ ⟨w.heap.size, 0, none⟩ _ (.inl rfl)).trans (St.setCell _ ⟨w.heap.size, 1, none⟩ _ (.inl rfl))).trans (St.setCell _ ⟨w.heap.size, 2, none⟩ _ (.inl rfl))).trans (St.setCell _ ⟨w.heap.size, 3, none⟩ _ (.inl rfl))).trans (St.setCell _ ⟨w.heap.size, 4, none⟩ _ (.inl rfl)))).drop (fun _ h => h.elim))
        · rw [if_neg (by rw [HLR.out]; omega)] at HBE
          rw [HBE.out, if_pos rfl] at HBS HBB
          obtain ⟨N, hN⟩ : ∃ N, x.toNat = N := ⟨_, rfl⟩
          have hNb : N ≤ 16777216 := by omega
          rw [hN] at HBS HBB
          have hNl : N ≤ bs.length - at_ - n := by omega
          have hxl : (((bs.drop at_).drop n).take N).length = N := by simp; omega
          have HXL := Lib.hid hxl
          have HBX : Hid (∀ W, Bs W a bs → Bs W (a.map (fun y => y.add (at_ + n))) (((bs.drop at_).drop n).take N)) := Lib.hid (fun W h => by rw [List.drop_drop]; exact (h.drop (at_ + n)).take N)
          have HNIL : Hid (c = at_ + n → ((bs.drop at_).drop n).take N = []) := Lib.hid (fun h => by rw [List.drop_drop, List.drop_eq_nil_of_le (by omega)]; simp)
          have hX0 : c = at_ + n → N = 0 := fun h => by omega
          have HNN := Lib.hid hN
          generalize ((bs.drop at_).drop n).take N = xs at *
          have HJ : Hid (∀ W a' c', Bs W a' xs → Calls Try.prog 82 #[.slice none 0 0, .slice a' (N : Nat) c'] W fun e w' => ∃ v, e = .returned v ∧ OwB w' v xs ∧ St No W (fpV v) w') := Lib.hid (by
            intro W a' c' h
            have := join2_calls none 0 [] a' c' xs (by rw [hxl]; simp; omega) W (Rd.nil _ _) h
            rw [hxl] at this
            exact this)
          have HDD : Hid (((bs.drop at_).drop n).drop N = (bs.drop at_).drop (n + N)) := Lib.hid (by rw [List.drop_drop])
          clear hxl
          by_cases hck : c = at_ + n
          · have h0 := hX0 hck
            subst hck
            subst h0
            go_enter Try.func116, Try.ntmps116
            go_wp2_with fail
            refine (HGC.out _ (HBW.out _ (HS0.out _))).mono ?_
            rintro e w1 ⟨rfl, hs1⟩
            have HS1 := Lib.hid hs1
            have HB1 : Hid (Bs w1 a bs) := Lib.hid ((HBW.out _ (HS0.out _)).st hs1 (Dj.no _))
            clear hs1
            rw [HNN.out]
            go_wp2_with fail
            refine (HJ.out _ _ _ (by rw [HNIL.out (by simp)]; exact Rd.nil _ _)).mono ?_
            rintro e w2 ⟨v1, rfl, ho1, hs2⟩
            have hf1 := ho1.form
            rw [HXL.out] at hf1
            obtain ⟨a1, c1', rfl, hv1, hv2, hv3, hv4⟩ := hf1
            have hs12 : St No (w.alloc (.cells #[.int .i64 0, .int .u64 0, .int .i64 0, .bool false, .slice none 0 0] 51)) (fpV (.slice a1 0 c1')) w2 := (HS1.out.drop (G' := No) (fun _ h => h.elim)).trans hs2
            have hR : Ob w2 w.heap.size 51 #[.int .i64 0, .int .u64 0, .int .i64 0, .bool false, .slice none 0 0] := (hs12.block _ (by simp; try omega) (fun h => h)).trans (heap_alloc_new w _)
            obtain ⟨r0, r1, r2, r3, r4, s0, s1, s2, s3, s4⟩ := hR.five
            have HR := Lib.hid hR
            clear hR
            have HS2 := Lib.hid hs12
            have HO1 := Lib.hid ho1
            have hnw : ∀ k, fpV (.slice a1 0 c1') k → w.heap.size + 1 ≤ k := fun k hk => (hs12.new k hk).elim (fun h => h.elim) (fun h => by simpa using h)
            have HNW := Lib.hid hnw
            clear hs2 hs12 ho1 hv3 hv4 hnw
            go_wp2
            refine bodyPost_ret (results_cell_row_tmp2 rfl _ _ w.heap.size _ _ _ _ rfl (((((HR.out.set 0 _).set 1 _).set 2 _).set 3 _).set 4 _) hu rfl thInfo) rfl ?_
            refine ⟨9, .slice a1 0 c1', n + 0, 0, ?_, ?_, (rst (HS0.out _) HS2.out (((((St.setCell (F := RT w) _ ⟨w.heap.size, 0, none⟩ _ (.inl rfl)).trans (St.setCell _ ⟨w.heap.size, 1, none⟩ _ (.inl rfl))).trans (St.setCell _ ⟨w.heap.size, 2, none⟩ _ (.inl rfl))).trans (St.setCell _ ⟨w.heap.size, 3, none⟩ _ (.inl rfl))).trans (St.setCell _ ⟨w.heap.size, 4, none⟩ _ (.inl rfl)))).drop (fun k hk => .inr (.inl hk)), by show RS.block ⟨bs.drop at_, 0⟩ m = _; rw [HBS.out, HDD.out], by rw [HLR.out]; omega⟩
            · show _ = Ending.returned (.tuple #[.agg ((Tk.mk 0 0 false (blockB true ⟨bs.drop at_, 0⟩ m)).cells 9 _), _, _])
              try rfl
            · show OwB _ _ (blockB true ⟨bs.drop at_, 0⟩ m)
              rw [HBB.out]
              exact HO1.out.st (F := fun k => k = w.heap.size) (F' := fun k => k = w.heap.size) (((((St.setCell (F := fun k => k = w.heap.size) _ ⟨w.heap.size, 0, none⟩ _ rfl).trans (St.setCell _ ⟨w.heap.size, 1, none⟩ _ rfl)).trans (St.setCell _ ⟨w.heap.size, 2, none⟩ _ rfl)).trans (St.setCell _ ⟨w.heap.size, 3, none⟩ _ rfl)).trans (St.setCell _ ⟨w.heap.size, 4, none⟩ _ rfl)) (by rintro k rfl hk; have := HNW.out _ hk; omega)
          · go_enter Try.func116, Try.ntmps116
            go_wp2_with fail
            refine (HGC.out _ (HBW.out _ (HS0.out _))).mono ?_
            rintro e w1 ⟨rfl, hs1⟩
            have HS1 := Lib.hid hs1
            have HB1 : Hid (Bs w1 a bs) := Lib.hid ((HBW.out _ (HS0.out _)).st hs1 (Dj.no _))
            clear hs1
            rw [HNN.out]
            go_wp2_with fail
            refine (HJ.out _ _ _ (HBX.out _ HB1.out)).mono ?_
            rintro e w2 ⟨v1, rfl, ho1, hs2⟩
            have hf1 := ho1.form
            rw [HXL.out] at hf1
            obtain ⟨a1, c1', rfl, hv1, hv2, hv3, hv4⟩ := hf1
            have hs12 : St No (w.alloc (.cells #[.int .i64 0, .int .u64 0, .int .i64 0, .bool false, .slice none 0 0] 51)) (fpV (.slice a1 N c1')) w2 := (HS1.out.drop (G' := No) (fun _ h => h.elim)).trans hs2
            have hR : Ob w2 w.heap.size 51 #[.int .i64 0, .int .u64 0, .int .i64 0, .bool false, .slice none 0 0] := (hs12.block _ (by simp; try omega) (fun h => h)).trans (heap_alloc_new w _)
            obtain ⟨r0, r1, r2, r3, r4, s0, s1, s2, s3, s4⟩ := hR.five
            have HR := Lib.hid hR
            clear hR
            have HS2 := Lib.hid hs12
            have HO1 := Lib.hid ho1
            have hnw : ∀ k, fpV (.slice a1 N c1') k → w.heap.size + 1 ≤ k := fun k hk => (hs12.new k hk).elim (fun h => h.elim) (fun h => by simpa using h)
            have HNW := Lib.hid hnw
            clear hs2 hs12 ho1 hv3 hv4 hnw
            go_wp2
            refine bodyPost_ret (results_cell_row_tmp2 rfl _ _ w.heap.size _ _ _ _ rfl (((((HR.out.set 0 _).set 1 _).set 2 _).set 3 _).set 4 _) hu rfl thInfo) rfl ?_
            refine ⟨9, .slice a1 N c1', n + N, 0, ?_, ?_, (rst (HS0.out _) HS2.out (((((St.setCell (F := RT w) _ ⟨w.heap.size, 0, none⟩ _ (.inl rfl)).trans (St.setCell _ ⟨w.heap.size, 1, none⟩ _ (.inl rfl))).trans (St.setCell _ ⟨w.heap.size, 2, none⟩ _ (.inl rfl))).trans (St.setCell _ ⟨w.heap.size, 3, none⟩ _ (.inl rfl))).trans (St.setCell _ ⟨w.heap.size, 4, none⟩ _ (.inl rfl)))).drop (fun k hk => .inr (.inl hk)), by show RS.block ⟨bs.drop at_, 0⟩ m = _; rw [HBS.out, HDD.out], by rw [HLR.out]; omega⟩
            · show _ = Ending.returned (.tuple #[.agg ((Tk.mk 0 0 false (blockB true ⟨bs.drop at_, 0⟩ m)).cells 9 _), _, _])
              try rfl
            · show OwB _ _ (blockB true ⟨bs.drop at_, 0⟩ m)
              rw [HBB.out]
              exact HO1.out.st (F := fun k => k = w.heap.size) (F' := fun k => k = w.heap.size) (((((St.setCell (F := fun k => k = w.heap.size) _ ⟨w.heap.size, 0, none⟩ _ rfl).trans (St.setCell _ ⟨w.heap.size, 1, none⟩ _ rfl)).trans (St.setCell _ ⟨w.heap.size, 2, none⟩ _ rfl)).trans (St.setCell _ ⟨w.heap.size, 3, none⟩ _ rfl)).trans (St.setCell _ ⟨w.heap.size, 4, none⟩ _ rfl)) (by rintro k rfl hk; have := HNW.out _ hk; omega)
    · rw [if_pos hz] at HBE
      have hzb : (er != 0) = true := by rw [bne_iff_ne]; exact hz
      have HZ := Lib.hid hz
      clear hz
      go_enter Try.func116, Try.ntmps116
      go_wp2_with fail
      refine (HGC.out _ (HBW.out _ (HS0.out _))).mono ?_
      rintro e w1 ⟨rfl, hs1⟩
      have hR : Ob w1 w.heap.size 51 #[.int .i64 0, .int .u64 0, .int .i64 0, .bool false, .slice none 0 0] := (hs1.block _ (by simp; try omega) (fun h => h)).trans (heap_alloc_new w _)
      obtain ⟨r0, r1, r2, r3, r4, s0, s1, s2, s3, s4⟩ := hR.five
      have HR := Lib.hid hR
      clear hR
      have HS1 := Lib.hid hs1
      clear hs1
      go_wp2
      refine bodyPost_ret (results_cell_row_tmp2 rfl _ _ w.heap.size _ _ _ _ rfl (((((HR.out.set 0 _).set 1 _).set 2 _).set 3 _).set 4 _) hu rfl thInfo) rfl ?_
      exact HFAIL.out er _ _ HZ.out HBE.out rfl ((rst (HS0.out _) HS1.out (((((St.setCell (F := RT w) _ ⟨w.heap.size, 0, none⟩ _ (.inl rfl)).trans (St.setCell _ ⟨w.heap.size, 1, none⟩ _ (.inl rfl))).trans (St.setCell _ ⟨w.heap.size, 2, none⟩ _ (.inl rfl))).trans (St.setCell _ ⟨w.heap.size, 3, none⟩ _ (.inl rfl))).trans (St.setCell _ ⟨w.heap.size, 4, none⟩ _ (.inl rfl)))).drop (fun _ h => h.elim))
end Go.Proofs.Ytfhoekcmkbeabaa
