
/-
  The walks over the program's writer: Raw, groups, and the handle that may be nil.
-/
import Derived.Test.YtfhoekcmkbeabaaCwWriter
import Derived.Laws.ResultCell
namespace Go.Proofs.Ytfhoekcmkbeabaa
open Go.RowKit
set_option linter.unusedVariables false
set_option linter.unusedSimpArgs false

theorem WS.put_eq (s : WS) (bs : List B8) (h1 : s.err = 0) (h2 : (bs.length : Int) ≤ s.lim - (s.out.length : Int)) : s.put bs = { s with out := s.out ++ bs } := by
  unfold WS.put
  rw [if_pos h1, if_neg (by omega)]
theorem WS.put_no (s : WS) (bs : List B8) (h : ¬ (s.err = 0 ∧ (bs.length : Int) ≤ s.lim - (s.out.length : Int))) : s.put bs = if s.err = 0 then { s with err := 20 } else s := by
  unfold WS.put
  by_cases he : s.err = 0
  · rw [if_pos he, if_pos he, if_pos (by have : ¬ (bs.length : Int) ≤ s.lim - (s.out.length : Int) := fun h2 => h ⟨he, h2⟩; omega)]
  · rw [if_neg he, if_neg he]

set_option maxRecDepth 100000 in
set_option maxHeartbeats 2000000 in
theorem raw_nil (a : Option Addr) (n c : Nat) (w : World) : Calls Try.prog 76 #[.pointer none, .slice a n c] w fun e w' => e = .returned (.tuple #[]) ∧ w = w' := by
  go_enter Try.func76, Try.ntmps76
  go_wp2_with fail
  refine (fits_nil n w).mono ?_
  rintro e w1 ⟨rfl, rfl⟩
  go_wp2
  go_end0
  exact ⟨rfl, rfl⟩

set_option maxRecDepth 100000 in
set_option maxHeartbeats 2000000 in
theorem raw_calls (a : Option Addr) (c : Nat) (bs : List B8) (hac : a = none → c = 0) (w : World) (F : Nat → Prop) (p : Nat) (s : WS) (hs : s.ok) (h : Wr w F p s) (hb : Bs w a bs) (hd : Apart F a bs) :
    Calls Try.prog 76 #[.pointer (some ⟨p, 0, none⟩), .slice a bs.length c] w (PutPost w F p s bs) := by
  have HW := Lib.hid h
  have HOK := Lib.hid hs
  have HB := Lib.hid hb
  have HD := Lib.hid hd
  have HAC := Lib.hid hac
  clear h hs hb hd hac
  go_enter Try.func76, Try.ntmps76
  go_wp2_with fail
  refine (fits_calls bs.length (by omega) w F p s HOK.out HW.out).mono ?_
  rintro e w1 (⟨he, hfit, rfl, hw1, hs1⟩ | ⟨hno, rfl, hw1, hs1⟩)
  · have HB1 := Lib.hid (HB.out.stA hs1 HD.out)
    have HP := Lib.hid (WS.put_eq s bs he hfit)
    obtain ⟨a1, c1, k0, k1, k2, f1, f2, hv, hc1, hc2, hnone, ho, hnp, hF⟩ := hw1.open
    have HV := Lib.hid hv
    have HO := Lib.hid ho
    have HN1 := Lib.hid hnp
    have HF1 := Lib.hid hF
    have HS1 := Lib.hid hs1
    have hl1 : s.out.length + bs.length ≤ 140737488355328 := by have := HOK.out.hi; omega
    have HL := Lib.hid hl1
    clear he hfit hw1 hs1 hv ho hnp hF hnone hc2 k0 k2 f2 hl1
    go_wp2_with (at_builtin; refine wpList_appB rfl (.tmp 12) (.tmp 13) rfl _ s.out rfl HV.out a bs.length c bs rfl rfl HB1.out HAC.out HL.out ?_; intro v' w2 ho2 hs2 hn2; have HO2 := Lib.hid ho2; have HS2 := Lib.hid hs2; clear ho2 hs2 hn2; have hob := HO.out.behind HN1.out HS2.out; have k1' := hob.cell 1; have f1' := hob.free 1; simp only [List.getElem?_toArray, List.getElem?_cons_zero, List.getElem?_cons_succ] at k1'; obtain ⟨a', c', rfl, _, _, _, _⟩ := HO2.out.form; clear hob)
    go_end0
    have hst := Wr.setOut (s := s) HO.out HN1.out HF1.out HO2.out HS2.out
    rw [List.length_append] at hst
    refine ⟨rfl, ?_⟩
    rw [HP.out]
    exact ⟨_, hst.1, HS1.out.trans hst.2⟩
  · have HW1 := Lib.hid hw1
    have HS1 := Lib.hid hs1
    have HNO := Lib.hid hno
    clear hno hw1 hs1
    go_wp2
    go_end0
    refine ⟨rfl, F, ?_, HS1.out⟩
    rw [WS.put_no s bs HNO.out]
    exact HW1.out


theorem results_cell_row_tmp {P : Program} {fn : Func} {p u : Tmp} {ty : TypeId} (h : fn.results = #[.cell p ty, .tmp u]) (tmps : Array Value) (w : World) (g : Nat) (t : TypeId) (cs : Array Value) (fr : Nat × Nat) (d : TypeDesc)
    (hp : tmps.getD p undef = .pointer (some ⟨g, 0, none⟩)) (hg : w.heap[g]? = some (.cells cs t fr))
    (hu : P.underlying ty = some d) (hd : (match d with | .struct _ | .array _ _ => true | _ => false) = true) (hi : (P.info? ty).map (·.size) = some cs.size) :
    (results fn tmps).run P w = .ok (.tuple #[.agg cs, tmps.getD u undef]) w := by
  rw [results_cell_tmp h, hp]
  simp [asAddr, run_loadVar_row w g t ty cs fr d hg hu hd hi, Result.andThen]

/-- the groups of a number, with so many rounds at the most -/
def groupsF : Nat → Nat → List B8
  | 0, x => [BitVec.ofNat 8 x]
  | f + 1, x => if x < 128 then [BitVec.ofNat 8 x] else BitVec.ofNat 8 (x % 128 + 128) :: groupsF f (x / 128)
def groupsB (x : Nat) : List B8 := groupsF 9 x
theorem groupsF_len (f x : Nat) : 1 ≤ (groupsF f x).length ∧ (groupsF f x).length ≤ f + 1 := by
  induction f generalizing x with
  | zero => simp [groupsF]
  | succ f ih =>
    simp only [groupsF]
    split
    · simp
    · have := ih (x / 128)
      simp only [List.length_cons]
      omega
theorem groupsB_len (x : Nat) : 1 ≤ (groupsB x).length ∧ (groupsB x).length ≤ 10 := groupsF_len 9 x
theorem grpInfo : (Try.prog.info? 143).map (·.size) = some 10 := by kernel_rfl
theorem bv_one' (ms : List B8) : (bv ms).toArray.all (·.oneCell') = true := by
  rw [Array.all_eq_true_iff_forall_mem]
  intro v hv
  exact bv_one ms v (by simpa using hv)
theorem or128 (x : Nat) (h : x < 18446744073709551616) : bits .or .u8 (((x : Nat) : Int) % 256) 128 = (((BitVec.ofNat 8 (x % 128 + 128)).toNat : Nat) : Int) := by
  have e : ((x : Int) % 256) = (((x % 256 : Nat)) : Int) := by omega
  have e2 : (128 : Int) = ((128 : Nat) : Int) := rfl
  rw [e, e2, (bits_nat .u8 8 (by decide) wraps_u8 (x % 256) 128 (by omega) (by omega)).2]
  congr 1
  rw [BitVec.toNat_ofNat]
  have key : ∀ y : Fin 256, y.val ||| 128 = (y.val % 128 + 128) % 256 := by decide +kernel
  have := key ⟨x % 256, by omega⟩
  simp only at this
  rw [this]
  omega

set_option maxRecDepth 100000 in
set_option maxHeartbeats 2000000 in
theorem groups_calls (x : BitVec 64) (w : World) :
    Calls Try.prog 106 #[.int .u64 (x.toNat : Int)] w fun e w' => (∃ arr : List B8, arr.length = 10 ∧ arr.take (groupsB x.toNat).length = groupsB x.toNat ∧ e = .returned (.tuple #[.agg (bv arr).toArray, .int .i64 ((groupsB x.toNat).length : Int)])) ∧ St No w No w' := by
  have hu := Try.underlying143
  have hx := x.isLt
  generalize x.toNat = n at *
  have hx2 : n ≤ 18446744073709551615 := by omega
  clear hx
  go_enter Try.func106, Try.ntmps106
  go_wp2
  go_loopw [0, 5] (fun v0 v5 wr => ∃ (k y : Nat) (pre : List B8), k ≤ 9 ∧ v0 = .int .u64 y ∧ v5 = .int .i64 k ∧ Hid (pre.length = k) ∧ Hid (groupsB n = pre ++ groupsF (9 - k) y) ∧ Hid (y < 2 ^ (64 - 7 * k)) ∧ y ≤ 18446744073709551615 ∧
    Hid (Ob wr w.heap.size 143 (bv (List.replicate 10 0#8)).toArray) ∧ Hid (Ob wr (w.heap.size + 1) 143 (bv (pre ++ List.replicate (10 - k) 0#8)).toArray) ∧ Hid (St No w (Nw w) wr)) (fun _ v5 _ => 9 - (intOf v5).toNat)
  case atStart =>
    refine ⟨0, n, [], by omega, rfl, rfl, Lib.hid rfl, Lib.hid rfl, Lib.hid (by show n < 2 ^ 64; omega), hx2, Lib.hid ?_, Lib.hid ?_, Lib.hid ?_⟩
    · exact (Ob.alloc w (bv (List.replicate 10 0#8)).toArray 143).move (Below.heap_alloc _ _ _ (by simp))
    · have := Ob.alloc (w.alloc (.cells (bv (List.replicate 10 0#8)).toArray 143)) (bv (List.replicate 10 0#8)).toArray 143
      rw [World.size_alloc] at this
      exact this
    · exact ((St.alloc' No w _).trans (St.alloc' No _ _)).toNew
  case round =>
    obtain ⟨k, y, pre, hk, rfl, rfl, hpre, hg, hy, hyb, hO0, hO1, hS⟩ := hrel
    have hor := or128 y (by omega)
    have hlen : (pre ++ List.replicate (10 - k) 0#8).length = 10 := by have := hpre.out; simp; omega
    have hc := hO1.out.cell k
    rw [bv_at _ k (by omega)] at hc
    generalize (pre ++ List.replicate (10 - k) 0#8)[k]'(by omega) = b0 at hc
    have hf := hO1.out.free k
    have HCELL : Hid (∃ b1 : Value, wr.cell? ⟨w.heap.size + 1, k, none⟩ = some b1 ∧ wr.frozen? ⟨w.heap.size + 1, k, none⟩ = false) := Lib.hid ⟨_, hc, hf⟩
    have hset : ∀ b : B8, (pre ++ List.replicate (10 - k) 0#8).set k b = pre ++ [b] ++ List.replicate (9 - k) 0#8 := by
      intro b
      have h1 := hpre.out
      rw [List.set_append_right _ _ (by omega), h1, Nat.sub_self, show 10 - k = (9 - k) + 1 by omega, List.replicate_succ, List.set_cons_zero, List.append_assoc]
      rfl
    have HSET := Lib.hid hset
    have HLEN := Lib.hid hlen
    clear hset hlen
    by_cases h128 : 128 ≤ y
    · have hk9 : k < 9 := by
        by_cases h : k < 9
        · exact h
        · obtain rfl : k = 9 := by omega
          have := hy.out
          simp at this
          omega
      have hg2 : groupsF (9 - k) y = BitVec.ofNat 8 (y % 128 + 128) :: groupsF (9 - (k + 1)) (y / 128) := by
        rw [show 9 - k = (9 - (k + 1)) + 1 by omega]
        simp only [groupsF]
        rw [if_neg (by omega)]
      have HG2 := Lib.hid hg2
      clear hg2
      generalize BitVec.ofNat 8 (y % 128 + 128) = gb at *
      go_wp2
      go_roundw
      case rel =>
        refine ⟨k + 1, y / 128, pre ++ [gb], by omega, by go_num, by go_num, Lib.hid (by have := hpre.out; simp; omega), Lib.hid (by rw [hg.out, HG2.out]; simp), Lib.hid ?_, by omega, Lib.hid ?_, Lib.hid ?_, Lib.hid ?_⟩
        · have := hy.out
          rw [show 64 - 7 * k = (64 - 7 * (k + 1)) + 7 by omega, Nat.pow_add] at this
          exact Nat.div_lt_of_lt_mul (by rw [Nat.mul_comm]; exact this)
        · exact hO0.out.move (Below.heap_setCell _ _ _ _ (by simp))
        · have := hO1.out.set k (.int .u8 (gb.toNat : Int))
          rw [bv_set, HSET.out] at this
          rw [show 10 - (k + 1) = 9 - k by omega]
          exact this
        · exact hS.out.trans (St.setCell _ _ _ (by simp [Nw]))
      case measure => simp [intOf]; omega
    · have hg2 : groupsF (9 - k) y = [BitVec.ofNat 8 y] := by
        cases h9 : 9 - k with
        | zero => rfl
        | succ f => simp only [groupsF]; rw [if_pos (by omega)]
      have HG2 := Lib.hid hg2
      have hyy : (y : Int) % 256 = ((BitVec.ofNat 8 y).toNat : Int) := by rw [BitVec.toNat_ofNat]; simp
      have hyy2 : (y : Int) = ((BitVec.ofNat 8 y).toNat : Int) := by rw [BitVec.toNat_ofNat]; omega
      clear hg2 hor
      have HYY := Lib.hid hyy2
      clear hyy2 hyy
      have hg3 : groupsB n = pre ++ [BitVec.ofNat 8 y] := by rw [hg.out, HG2.out]
      have hgl : ((groupsB n).length : Int) = (k : Int) + 1 := by rw [hg3]; have := hpre.out; simp; omega
      generalize BitVec.ofNat 8 y = gb at *
      have HG3 := Lib.hid hg3
      have HGL := Lib.hid hgl
      clear hg3 hgl
      have hl2 : (pre ++ [gb] ++ List.replicate (9 - k) 0#8).length = 10 := by have := hpre.out; simp; omega
      have HL2 := Lib.hid hl2
      clear hl2
      have hO1' := hO1.out.set k (.int .u8 (gb.toNat : Int))
      rw [bv_set, HSET.out] at hO1'
      have HO1' := Lib.hid hO1'
      have HO0' := Lib.hid (hO0.out.move (w' := wr.setCell ⟨w.heap.size + 1, k, none⟩ (.int .u8 (gb.toNat : Int))) (Below.heap_setCell _ _ _ _ (by simp)))
      clear hO1'
      rw [← HYY.out] at HO1' HO0'
      have HTK : Hid ((pre ++ [gb] ++ List.replicate (9 - k) 0#8).take (groupsB n).length = groupsB n) := Lib.hid (by rw [HG3.out, List.take_append_of_le_length (Nat.le_refl _), List.take_length])
      clear HSET hO1 hc hf
      generalize pre ++ [gb] ++ List.replicate (9 - k) 0#8 = arr at *
      have hi2 : (Try.prog.info? 143).map (·.size) = some (bv arr).toArray.size := by rw [grpInfo, List.size_toArray, bv_len, HL2.out]
      have HI2 := Lib.hid hi2
      clear hi2
      have hc := hO0.out.lt
      obtain ⟨b1, hc1⟩ : ∃ b1 : Value, wr.cell? ⟨w.heap.size + 1, k, none⟩ = some b1 ∧ wr.frozen? ⟨w.heap.size + 1, k, none⟩ = false := HCELL.out
      obtain ⟨hc1, hf1⟩ := hc1
      go_wp2_with (first
        | (refine wpList_load_row rfl 143 (.tmp 4) rfl (w.heap.size + 1) rfl _ _ _ _ HO1'.out hu rfl HI2.out ?_)
        | (refine wpList_store_row rfl 143 (.tmp 2) (.tmp 21) rfl w.heap.size _ rfl rfl _ _ HO0'.out HI2.out (by rw [List.size_toArray, List.size_toArray, bv_len, bv_len, HL2.out]; rfl) (bv_one' _) ?_))
      refine bodyPost_ret (results_cell_row_tmp rfl _ _ w.heap.size _ _ _ _ rfl (HO0'.out.setRow _) hu rfl HI2.out) rfl ?_
      refine ⟨⟨arr, HL2.out, HTK.out, ?_⟩, (hS.out.trans ((St.setCell wr ⟨w.heap.size + 1, k, none⟩ _ (by simp [Nw])).trans (St.setRow _ w.heap.size _ (by simp [Nw])))).drop (fun _ h => .inl h)⟩
      rw [HGL.out]
      rfl

end Go.Proofs.Ytfhoekcmkbeabaa
