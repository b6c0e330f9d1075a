
/-
  The walks over the reference's width, block, take.
-/
import Derived.Test.YtfhoekcmkbeabaaCwGrab
import Derived.Test.YtfhoekcmkbeabaaCwGrouped
import Derived.Test.YtfhoekcmkbeabaaCwReading2
import Derived.Test.YtfhoekcmkbeabaaCwFrom
namespace Go.Proofs.Ytfhoekcmkbeabaa
open Go.RowKit
set_option linter.unusedVariables false
set_option linter.unusedSimpArgs false

theorem results_cell_row_tmp2 {P : Program} {fn : Func} {p u u2 : Tmp} {ty : TypeId} (h : fn.results = #[.cell p ty, .tmp u, .tmp u2]) (tmps : Array Value) (w : World) (g : Nat) (t : TypeId) (cs : Array Value) (fr : Nat × Nat) (d : TypeDesc)
    (hp : tmps.getD p undef = .pointer (some ⟨g, 0, none⟩)) (hg : w.heap[g]? = some (.cells cs t fr))
    (hu : P.underlying ty = some d) (hd : (match d with | .struct _ | .array _ _ => true | _ => false) = true) (hi : (P.info? ty).map (·.size) = some cs.size) :
    (results fn tmps).run P w = .ok (.tuple #[.agg cs, tmps.getD u undef, tmps.getD u2 undef]) w := by
  have hp' : tmps[p]?.getD undef = .pointer (some ⟨g, 0, none⟩) := by simpa using hp
  simp [results, h, hp', asAddr, run_loadVar_row w g t ty cs fr d hg hu hd hi]
/-- what the reference takes at the front of these bytes -/
def RTakePost (w : World) (rest : List B8) (k m : Int) (e : Ending) (w' : World) : Prop :=
  ∃ K V adv E, e = .returned (.tuple #[.agg ((tkT true ⟨rest, 0⟩ k m).cells K V), .int .i64 ((adv : Nat) : Int), .int .i64 E]) ∧ OwB w' V (tkT true ⟨rest, 0⟩ k m).bs ∧ St No w (fpV V) w' ∧ RS.tk ⟨rest, 0⟩ k m = ⟨rest.drop adv, E⟩ ∧ adv ≤ rest.length
theorem no_nil (q : Nat) : ¬ fpV (.slice none 0 0) q := by simp [fpV, Value.ownBlock]
theorem rtake_fail {w w' : World} {rest : List B8} {k m : Int} {e : Ending} {E : Int} (he : e = .returned (.tuple #[.agg #[.int .i64 0, .int .u64 0, .int .i64 0, .bool false, .slice none 0 0], .int .i64 0, .int .i64 E]))
    (hT : tkT true ⟨rest, 0⟩ k m = ⟨0, 0, false, []⟩) (hs : RS.tk ⟨rest, 0⟩ k m = ⟨rest, E⟩) (st : St No w No w') : RTakePost w rest k m e w' :=
  ⟨0, .slice none 0 0, 0, E, by rw [hT]; exact he, by rw [hT]; exact OwB.nil _, st.drop (fun _ h => .inr (absurd h (no_nil _))), hs, Nat.zero_le _⟩
theorem rtake_num {w w' : World} {rest : List B8} {k m K : Int} {adv : Nat} {T : Tk} (hT : tkT true ⟨rest, 0⟩ k m = T) (hb : T.bs = []) {e : Ending} (he : e = .returned (.tuple #[.agg (T.cells K (.slice none 0 0)), .int .i64 (adv : Int), .int .i64 0]))
    (hs : RS.tk ⟨rest, 0⟩ k m = ⟨rest.drop adv, 0⟩) (ha : adv ≤ rest.length) (st : St No w No w') : RTakePost w rest k m e w' :=
  ⟨K, .slice none 0 0, adv, 0, by rw [hT]; exact he, by rw [hT, hb]; exact OwB.nil _, st.drop (fun _ h => .inr (absurd h (no_nil _))), hs, ha⟩
theorem cutId (x : BitVec 64) (b : Nat) (hb : b ≤ 64) (h : x.toNat < 2 ^ b) : (x.setWidth b).setWidth 64 = x := by
  apply BitVec.eq_of_toNat_eq
  have : 2 ^ b ≤ 2 ^ 64 := Nat.pow_le_pow_right (by omega) hb
  rw [BitVec.toNat_setWidth, BitVec.toNat_setWidth, Nat.mod_eq_of_lt h, Nat.mod_eq_of_lt (by omega)]
theorem width1_calls (w : World) : Calls Try.prog 113 #[.int .i64 1] w fun e w' => e = .returned (.int .i64 1) ∧ w = w' := by
  go_enter Try.func113, Try.ntmps113
  go_wp2
  go_ret
  exact ⟨rfl, rfl⟩
theorem width2_calls (w : World) : Calls Try.prog 113 #[.int .i64 2] w fun e w' => e = .returned (.int .i64 2) ∧ w = w' := by
  go_enter Try.func113, Try.ntmps113
  go_wp2
  go_ret
  exact ⟨rfl, rfl⟩
theorem width3_calls (w : World) : Calls Try.prog 113 #[.int .i64 3] w fun e w' => e = .returned (.int .i64 4) ∧ w = w' := by
  go_enter Try.func113, Try.ntmps113
  go_wp2
  go_ret
  exact ⟨rfl, rfl⟩
theorem width4_calls (w : World) : Calls Try.prog 113 #[.int .i64 4] w fun e w' => e = .returned (.int .i64 8) ∧ w = w' := by
  go_enter Try.func113, Try.ntmps113
  go_wp2
  go_ret
  exact ⟨rfl, rfl⟩
set_option maxRecDepth 100000 in
set_option maxHeartbeats 1000000 in
theorem rtake1 (a : Option Addr) (c : Nat) (bs : List B8) (hn : bs.length ≤ 16777216) (hcl : bs.length ≤ c) (hcm : c ≤ 9223372036854775807) (at_ : Nat) (hat : at_ ≤ bs.length) (m : Int) (hm1 : -9223372036854775808 ≤ m) (hm : m ≤ 9223372036854775807) (w : World) (hb : Bs w a bs) :
    Calls Try.prog 109 #[.slice a bs.length c, .int .i64 (at_ : Int), .int .i64 1, .int .i64 m] w (RTakePost w (bs.drop at_) 1 m) := by
  have HB := Lib.hid hb
  have hu := Try.underlying51
  have HS0 : Hid (∀ o1 o2, St No w No ((w.alloc o1).alloc o2)) := Lib.hid (fun o1 o2 => (St.alloc' No w _).trans (St.alloc' No _ _))
  have HBW : Hid (∀ W, St No w No W → Bs W a bs) := Lib.hid (fun W h => HB.out.st h (Dj.no _))
  have HLR : Hid ((bs.drop at_).length = bs.length - at_) := Lib.hid (by simp)
  clear hb
  have HNT : Hid (numT true ⟨bs.drop at_, 0⟩ 1 = if 1 ≤ (bs.drop at_).length then numB ((bs.drop at_).take 1) else 0) := Lib.hid (by unfold numT takes opens; simp)
  have HTK : Hid (RS.tk ⟨bs.drop at_, 0⟩ 1 m = if 1 ≤ (bs.drop at_).length then ⟨(bs.drop at_).drop 1, 0⟩ else ⟨bs.drop at_, 21⟩) := Lib.hid (by show RS.took ⟨bs.drop at_, 0⟩ 1 = _; unfold RS.took; rw [if_pos rfl])
  by_cases hlt : (bs.length : Int) - (at_ : Int) < 1
  · go_enter Try.func109, Try.ntmps109
    go_wp2_with (go_at_call 113; refine (width1_calls _).mono ?_; rintro e w1 ⟨rfl, rfl⟩)
    refine bodyPost_ret (results_cell_row_tmp2 rfl _ _ w.heap.size _ _ _ _ rfl (mid2 w _ _) hu rfl rfl) rfl ?_
    refine rtake_fail rfl ?_ (by rw [HTK.out, if_neg (by rw [HLR.out]; omega)]) (HS0.out _ _)
    show Tk.mk (((numT true ⟨bs.drop at_, 0⟩ 1).setWidth 8).setWidth 64) 0 false [] = _
    rw [HNT.out, if_neg (by rw [HLR.out]; omega)]
    try rfl
  · have HX : Hid (tkT true ⟨bs.drop at_, 0⟩ 1 m = ⟨numB ((bs.drop at_).take 1), 0, false, []⟩) := Lib.hid (by
      show Tk.mk (((numT true ⟨bs.drop at_, 0⟩ 1).setWidth 8).setWidth 64) 0 false [] = _
      rw [HNT.out, if_pos (by rw [HLR.out]; omega)]
      rw [cutId _ 8 (by omega) (by have := numB_lt ((bs.drop at_).take 1) 1 (by simp; omega) (by omega); omega)])
    have HFR : Hid (∀ W, Bs W a bs → Calls Try.prog 84 #[.slice a bs.length c, .int .i64 (at_ : Int), .int .i64 1] W fun e w' => e = .returned (.int .u64 ((numB ((bs.drop at_).take 1)).toNat : Int)) ∧ W = w') := Lib.hid (fun W h => from_calls a c bs (by omega) at_ 1 (by omega) W h)
    generalize numB ((bs.drop at_).take 1) = x at *
    go_enter Try.func109, Try.ntmps109
    go_wp2_with (first
      | (go_at_call 113; refine (width1_calls _).mono ?_; rintro e w1 ⟨rfl, rfl⟩)
      | (go_at_call 84; refine (HFR.out _ (HBW.out _ (HS0.out _ _))).mono ?_; rintro e w1 ⟨rfl, rfl⟩))
    refine bodyPost_ret (results_cell_row_tmp2 rfl _ _ w.heap.size _ _ _ _ rfl (mid2 w _ _) hu rfl rfl) rfl ?_
    exact rtake_num (adv := 1) HX.out rfl rfl (by rw [HTK.out, if_pos (by rw [HLR.out]; omega)]) (by rw [HLR.out]; omega) (HS0.out _ _)
set_option maxRecDepth 100000 in
set_option maxHeartbeats 1000000 in
theorem rtake2 (a : Option Addr) (c : Nat) (bs : List B8) (hn : bs.length ≤ 16777216) (hcl : bs.length ≤ c) (hcm : c ≤ 9223372036854775807) (at_ : Nat) (hat : at_ ≤ bs.length) (m : Int) (hm1 : -9223372036854775808 ≤ m) (hm : m ≤ 9223372036854775807) (w : World) (hb : Bs w a bs) :
    Calls Try.prog 109 #[.slice a bs.length c, .int .i64 (at_ : Int), .int .i64 2, .int .i64 m] w (RTakePost w (bs.drop at_) 2 m) := by
  have HB := Lib.hid hb
  have hu := Try.underlying51
  have HS0 : Hid (∀ o1 o2, St No w No ((w.alloc o1).alloc o2)) := Lib.hid (fun o1 o2 => (St.alloc' No w _).trans (St.alloc' No _ _))
  have HBW : Hid (∀ W, St No w No W → Bs W a bs) := Lib.hid (fun W h => HB.out.st h (Dj.no _))
  have HLR : Hid ((bs.drop at_).length = bs.length - at_) := Lib.hid (by simp)
  clear hb
  have HNT : Hid (numT true ⟨bs.drop at_, 0⟩ 2 = if 2 ≤ (bs.drop at_).length then numB ((bs.drop at_).take 2) else 0) := Lib.hid (by unfold numT takes opens; simp)
  have HTK : Hid (RS.tk ⟨bs.drop at_, 0⟩ 2 m = if 2 ≤ (bs.drop at_).length then ⟨(bs.drop at_).drop 2, 0⟩ else ⟨bs.drop at_, 21⟩) := Lib.hid (by show RS.took ⟨bs.drop at_, 0⟩ 2 = _; unfold RS.took; rw [if_pos rfl])
  by_cases hlt : (bs.length : Int) - (at_ : Int) < 2
  · go_enter Try.func109, Try.ntmps109
    go_wp2_with (go_at_call 113; refine (width2_calls _).mono ?_; rintro e w1 ⟨rfl, rfl⟩)
    refine bodyPost_ret (results_cell_row_tmp2 rfl _ _ w.heap.size _ _ _ _ rfl (mid2 w _ _) hu rfl rfl) rfl ?_
    refine rtake_fail rfl ?_ (by rw [HTK.out, if_neg (by rw [HLR.out]; omega)]) (HS0.out _ _)
    show Tk.mk (((numT true ⟨bs.drop at_, 0⟩ 2).setWidth 16).setWidth 64) 0 false [] = _
    rw [HNT.out, if_neg (by rw [HLR.out]; omega)]
    try rfl
  · have HX : Hid (tkT true ⟨bs.drop at_, 0⟩ 2 m = ⟨numB ((bs.drop at_).take 2), 0, false, []⟩) := Lib.hid (by
      show Tk.mk (((numT true ⟨bs.drop at_, 0⟩ 2).setWidth 16).setWidth 64) 0 false [] = _
      rw [HNT.out, if_pos (by rw [HLR.out]; omega)]
      rw [cutId _ 16 (by omega) (by have := numB_lt ((bs.drop at_).take 2) 2 (by simp; omega) (by omega); omega)])
    have HFR : Hid (∀ W, Bs W a bs → Calls Try.prog 84 #[.slice a bs.length c, .int .i64 (at_ : Int), .int .i64 2] W fun e w' => e = .returned (.int .u64 ((numB ((bs.drop at_).take 2)).toNat : Int)) ∧ W = w') := Lib.hid (fun W h => from_calls a c bs (by omega) at_ 2 (by omega) W h)
    generalize numB ((bs.drop at_).take 2) = x at *
    go_enter Try.func109, Try.ntmps109
    go_wp2_with (first
      | (go_at_call 113; refine (width2_calls _).mono ?_; rintro e w1 ⟨rfl, rfl⟩)
      | (go_at_call 84; refine (HFR.out _ (HBW.out _ (HS0.out _ _))).mono ?_; rintro e w1 ⟨rfl, rfl⟩))
    refine bodyPost_ret (results_cell_row_tmp2 rfl _ _ w.heap.size _ _ _ _ rfl (mid2 w _ _) hu rfl rfl) rfl ?_
    exact rtake_num (adv := 2) HX.out rfl rfl (by rw [HTK.out, if_pos (by rw [HLR.out]; omega)]) (by rw [HLR.out]; omega) (HS0.out _ _)
set_option maxRecDepth 100000 in
set_option maxHeartbeats 1000000 in
theorem rtake3 (a : Option Addr) (c : Nat) (bs : List B8) (hn : bs.length ≤ 16777216) (hcl : bs.length ≤ c) (hcm : c ≤ 9223372036854775807) (at_ : Nat) (hat : at_ ≤ bs.length) (m : Int) (hm1 : -9223372036854775808 ≤ m) (hm : m ≤ 9223372036854775807) (w : World) (hb : Bs w a bs) :
    Calls Try.prog 109 #[.slice a bs.length c, .int .i64 (at_ : Int), .int .i64 3, .int .i64 m] w (RTakePost w (bs.drop at_) 3 m) := by
  have HB := Lib.hid hb
  have hu := Try.underlying51
  have HS0 : Hid (∀ o1 o2, St No w No ((w.alloc o1).alloc o2)) := Lib.hid (fun o1 o2 => (St.alloc' No w _).trans (St.alloc' No _ _))
  have HBW : Hid (∀ W, St No w No W → Bs W a bs) := Lib.hid (fun W h => HB.out.st h (Dj.no _))
  have HLR : Hid ((bs.drop at_).length = bs.length - at_) := Lib.hid (by simp)
  clear hb
  have HNT : Hid (numT true ⟨bs.drop at_, 0⟩ 4 = if 4 ≤ (bs.drop at_).length then numB ((bs.drop at_).take 4) else 0) := Lib.hid (by unfold numT takes opens; simp)
  have HTK : Hid (RS.tk ⟨bs.drop at_, 0⟩ 3 m = if 4 ≤ (bs.drop at_).length then ⟨(bs.drop at_).drop 4, 0⟩ else ⟨bs.drop at_, 21⟩) := Lib.hid (by show RS.took ⟨bs.drop at_, 0⟩ 4 = _; unfold RS.took; rw [if_pos rfl])
  by_cases hlt : (bs.length : Int) - (at_ : Int) < 4
  · go_enter Try.func109, Try.ntmps109
    go_wp2_with (go_at_call 113; refine (width3_calls _).mono ?_; rintro e w1 ⟨rfl, rfl⟩)
    refine bodyPost_ret (results_cell_row_tmp2 rfl _ _ w.heap.size _ _ _ _ rfl (mid2 w _ _) hu rfl rfl) rfl ?_
    refine rtake_fail rfl ?_ (by rw [HTK.out, if_neg (by rw [HLR.out]; omega)]) (HS0.out _ _)
    show Tk.mk (((numT true ⟨bs.drop at_, 0⟩ 4).setWidth 32).setWidth 64) 0 false [] = _
    rw [HNT.out, if_neg (by rw [HLR.out]; omega)]
    try rfl
  · have HX : Hid (tkT true ⟨bs.drop at_, 0⟩ 3 m = ⟨numB ((bs.drop at_).take 4), 0, false, []⟩) := Lib.hid (by
      show Tk.mk (((numT true ⟨bs.drop at_, 0⟩ 4).setWidth 32).setWidth 64) 0 false [] = _
      rw [HNT.out, if_pos (by rw [HLR.out]; omega)]
      rw [cutId _ 32 (by omega) (by have := numB_lt ((bs.drop at_).take 4) 4 (by simp; omega) (by omega); omega)])
    have HFR : Hid (∀ W, Bs W a bs → Calls Try.prog 84 #[.slice a bs.length c, .int .i64 (at_ : Int), .int .i64 4] W fun e w' => e = .returned (.int .u64 ((numB ((bs.drop at_).take 4)).toNat : Int)) ∧ W = w') := Lib.hid (fun W h => from_calls a c bs (by omega) at_ 4 (by omega) W h)
    generalize numB ((bs.drop at_).take 4) = x at *
    go_enter Try.func109, Try.ntmps109
    go_wp2_with (first
      | (go_at_call 113; refine (width3_calls _).mono ?_; rintro e w1 ⟨rfl, rfl⟩)
      | (go_at_call 84; refine (HFR.out _ (HBW.out _ (HS0.out _ _))).mono ?_; rintro e w1 ⟨rfl, rfl⟩))
    refine bodyPost_ret (results_cell_row_tmp2 rfl _ _ w.heap.size _ _ _ _ rfl (mid2 w _ _) hu rfl rfl) rfl ?_
    exact rtake_num (adv := 4) HX.out rfl rfl (by rw [HTK.out, if_pos (by rw [HLR.out]; omega)]) (by rw [HLR.out]; omega) (HS0.out _ _)
set_option maxRecDepth 100000 in
set_option maxHeartbeats 1000000 in
theorem rtake4 (a : Option Addr) (c : Nat) (bs : List B8) (hn : bs.length ≤ 16777216) (hcl : bs.length ≤ c) (hcm : c ≤ 9223372036854775807) (at_ : Nat) (hat : at_ ≤ bs.length) (m : Int) (hm1 : -9223372036854775808 ≤ m) (hm : m ≤ 9223372036854775807) (w : World) (hb : Bs w a bs) :
    Calls Try.prog 109 #[.slice a bs.length c, .int .i64 (at_ : Int), .int .i64 4, .int .i64 m] w (RTakePost w (bs.drop at_) 4 m) := by
  have HB := Lib.hid hb
  have hu := Try.underlying51
  have HS0 : Hid (∀ o1 o2, St No w No ((w.alloc o1).alloc o2)) := Lib.hid (fun o1 o2 => (St.alloc' No w _).trans (St.alloc' No _ _))
  have HBW : Hid (∀ W, St No w No W → Bs W a bs) := Lib.hid (fun W h => HB.out.st h (Dj.no _))
  have HLR : Hid ((bs.drop at_).length = bs.length - at_) := Lib.hid (by simp)
  clear hb
  have HNT : Hid (numT true ⟨bs.drop at_, 0⟩ 8 = if 8 ≤ (bs.drop at_).length then numB ((bs.drop at_).take 8) else 0) := Lib.hid (by unfold numT takes opens; simp)
  have HTK : Hid (RS.tk ⟨bs.drop at_, 0⟩ 4 m = if 8 ≤ (bs.drop at_).length then ⟨(bs.drop at_).drop 8, 0⟩ else ⟨bs.drop at_, 21⟩) := Lib.hid (by show RS.took ⟨bs.drop at_, 0⟩ 8 = _; unfold RS.took; rw [if_pos rfl])
  by_cases hlt : (bs.length : Int) - (at_ : Int) < 8
  · go_enter Try.func109, Try.ntmps109
    go_wp2_with (go_at_call 113; refine (width4_calls _).mono ?_; rintro e w1 ⟨rfl, rfl⟩)
    refine bodyPost_ret (results_cell_row_tmp2 rfl _ _ w.heap.size _ _ _ _ rfl (mid2 w _ _) hu rfl rfl) rfl ?_
    refine rtake_fail rfl ?_ (by rw [HTK.out, if_neg (by rw [HLR.out]; omega)]) (HS0.out _ _)
    show Tk.mk (numT true ⟨bs.drop at_, 0⟩ 8) 0 false [] = _
    rw [HNT.out, if_neg (by rw [HLR.out]; omega)]
    try rfl
  · have HX : Hid (tkT true ⟨bs.drop at_, 0⟩ 4 m = ⟨numB ((bs.drop at_).take 8), 0, false, []⟩) := Lib.hid (by
      show Tk.mk (numT true ⟨bs.drop at_, 0⟩ 8) 0 false [] = _
      rw [HNT.out, if_pos (by rw [HLR.out]; omega)]
      try rfl)
    have HFR : Hid (∀ W, Bs W a bs → Calls Try.prog 84 #[.slice a bs.length c, .int .i64 (at_ : Int), .int .i64 8] W fun e w' => e = .returned (.int .u64 ((numB ((bs.drop at_).take 8)).toNat : Int)) ∧ W = w') := Lib.hid (fun W h => from_calls a c bs (by omega) at_ 8 (by omega) W h)
    generalize numB ((bs.drop at_).take 8) = x at *
    go_enter Try.func109, Try.ntmps109
    go_wp2_with (first
      | (go_at_call 113; refine (width4_calls _).mono ?_; rintro e w1 ⟨rfl, rfl⟩)
      | (go_at_call 84; refine (HFR.out _ (HBW.out _ (HS0.out _ _))).mono ?_; rintro e w1 ⟨rfl, rfl⟩))
    refine bodyPost_ret (results_cell_row_tmp2 rfl _ _ w.heap.size _ _ _ _ rfl (mid2 w _ _) hu rfl rfl) rfl ?_
    exact rtake_num (adv := 8) HX.out rfl rfl (by rw [HTK.out, if_pos (by rw [HLR.out]; omega)]) (by rw [HLR.out]; omega) (HS0.out _ _)
theorem rst {w W w1 w2 : World} {G : Nat → Prop} (h0 : St No w No W) (h1 : St No W G w1) (h2 : St (RT w) w1 (RT w) w2) : St No w (fun k => G k ∨ w.heap.size ≤ k) w2 := by
  have h := h0.trans (h1.drop (G' := fun k => G k) (fun _ hk => .inr hk))
  refine ⟨h2.os.trans h.os, h2.tape.trans h.tape, h2.output.trans h.output, Nat.le_trans h.size h2.size, fun k hk hn => ?_, fun k hk => ?_⟩
  · rw [h2.block k (Nat.lt_of_lt_of_le hk h.size) (by unfold RT; omega)]
    exact h.block k hk hn
  · rcases hk with hk | hk
    · exact h.new k hk
    · exact .inr hk
set_option maxRecDepth 100000 in
set_option maxHeartbeats 1000000 in
theorem rtake5 (a : Option Addr) (c : Nat) (bs : List B8) (hn : bs.length ≤ 16777216) (hcl : bs.length ≤ c) (hcm : c ≤ 9223372036854775807) (at_ : Nat) (hat : at_ ≤ bs.length) (m : Int) (hm1 : -9223372036854775808 ≤ m) (hm : m ≤ 9223372036854775807) (w : World) (hb : Bs w a bs) :
    Calls Try.prog 109 #[.slice a bs.length c, .int .i64 (at_ : Int), .int .i64 5, .int .i64 m] w (RTakePost w (bs.drop at_) 5 m) := by
  have HB := Lib.hid hb
  have hu := Try.underlying51
  have HS0 : Hid (∀ o1 o2, St No w No ((w.alloc o1).alloc o2)) := Lib.hid (fun o1 o2 => (St.alloc' No w _).trans (St.alloc' No _ _))
  have HBW : Hid (∀ W, St No w No W → Bs W a bs) := Lib.hid (fun W h => HB.out.st h (Dj.no _))
  have HLR : Hid ((bs.drop at_).length = bs.length - at_) := Lib.hid (by simp)
  clear hb
  have HVT : Hid (varT true ⟨bs.drop at_, 0⟩ = if (headB 0 0 (bs.drop at_)).2.2 = 0 then (headB 0 0 (bs.drop at_)).1 else 0) := Lib.hid (by unfold varT opens; simp)
  have HVS : Hid (RS.var ⟨bs.drop at_, 0⟩ = if (headB 0 0 (bs.drop at_)).2.2 = 0 then ⟨(bs.drop at_).drop (headB 0 0 (bs.drop at_)).2.1, 0⟩ else ⟨bs.drop at_, (headB 0 0 (bs.drop at_)).2.2⟩) := Lib.hid (by unfold RS.var; rw [if_pos rfl])
  have HLN := Lib.hid (headB_len (bs.drop at_) 0 0)
  have HGC : Hid (∀ W, Bs W a bs → Calls Try.prog 114 #[.slice a bs.length c, .int .i64 (at_ : Int)] W (GroupedPost W (bs.drop at_))) := Lib.hid (fun W h => grouped_calls a c bs hn at_ hat W h)
  unfold GroupedPost at HGC
  generalize headB 0 0 (bs.drop at_) = r at *
  obtain ⟨x, n, er⟩ := r
  simp only at HVT HVS HLN HGC
  by_cases hz : er = 0
  · subst hz
    rw [if_pos rfl] at HVT HVS
    go_enter Try.func109, Try.ntmps109
    go_wp2_with fail
    refine (HGC.out _ (HBW.out _ (HS0.out _ _))).mono ?_
    rintro e w1 ⟨rfl, hs1⟩
    have hT : Ob w1 (w.heap.size + 1) 51 #[.int .i64 5, .int .u64 0, .int .i64 0, .bool false, .slice none 0 0] := (hs1.block _ (by simp) (fun h => h)).trans (new2 w _ _)
    have hR : Ob w1 w.heap.size 51 #[.int .i64 0, .int .u64 0, .int .i64 0, .bool false, .slice none 0 0] := (hs1.block _ (by simp; try omega) (fun h => h)).trans (mid2 w _ _)
    obtain ⟨c0, c1, c2, c3, c4, e0, e1, e2, e3, e4⟩ := hT.five
    obtain ⟨r0, r1, r2, r3, r4, s0, s1, s2, s3, s4⟩ := hR.five
    have HR := Lib.hid hR
    have HT := Lib.hid hT
    clear hR hT
    have HS1 := Lib.hid hs1
    clear hs1
    go_wp2
    refine bodyPost_ret (results_cell_row_tmp2 rfl _ _ w.heap.size _ _ _ _ rfl ((((((HR.out.move (Below.heap_setCell w1 ⟨w.heap.size + 1, 1, none⟩ _ _ (by simp))).set 0 _).set 1 _).set 2 _).set 3 _).set 4 _) hu rfl thInfo) rfl ?_
    exact rtake_num (adv := n) (T := ⟨x, 0, false, []⟩) (by show Tk.mk _ _ _ _ = _; rw [HVT.out]) rfl rfl HVS.out (by have := (HLN.out (by simp)).2; omega) ((rst (HS0.out _ _) HS1.out ((((((St.setCell (F := RT w) _ ⟨w.heap.size + 1, 1, none⟩ _ (.inr rfl)).trans (St.setCell _ ⟨w.heap.size, 0, none⟩ _ (.inl rfl))).trans (St.setCell _ ⟨w.heap.size, 1, none⟩ _ (.inl rfl))).trans (St.setCell _ ⟨w.heap.size, 2, none⟩ _ (.inl rfl))).trans (St.setCell _ ⟨w.heap.size, 3, none⟩ _ (.inl rfl))).trans (St.setCell _ ⟨w.heap.size, 4, none⟩ _ (.inl rfl)))).drop (fun _ h => h.elim))
  · have hzb : (er != 0) = true := by rw [bne_iff_ne]; exact hz
    rw [if_neg hz] at HVT HVS
    clear hz
    go_enter Try.func109, Try.ntmps109
    go_wp2_with fail
    refine (HGC.out _ (HBW.out _ (HS0.out _ _))).mono ?_
    rintro e w1 ⟨rfl, hs1⟩
    have hT : Ob w1 (w.heap.size + 1) 51 #[.int .i64 5, .int .u64 0, .int .i64 0, .bool false, .slice none 0 0] := (hs1.block _ (by simp) (fun h => h)).trans (new2 w _ _)
    have hR : Ob w1 w.heap.size 51 #[.int .i64 0, .int .u64 0, .int .i64 0, .bool false, .slice none 0 0] := (hs1.block _ (by simp; try omega) (fun h => h)).trans (mid2 w _ _)
    obtain ⟨c0, c1, c2, c3, c4, e0, e1, e2, e3, e4⟩ := hT.five
    obtain ⟨r0, r1, r2, r3, r4, s0, s1, s2, s3, s4⟩ := hR.five
    have HR := Lib.hid hR
    have HT := Lib.hid hT
    clear hR hT
    have HS1 := Lib.hid hs1
    clear hs1
    go_wp2
    refine bodyPost_ret (results_cell_row_tmp2 rfl _ _ w.heap.size _ _ _ _ rfl (((((HR.out.set 0 _).set 1 _).set 2 _).set 3 _).set 4 _) hu rfl thInfo) rfl ?_
    exact rtake_fail rfl (by show Tk.mk _ _ _ _ = _; rw [HVT.out]; try rfl) HVS.out ((rst (HS0.out _ _) HS1.out (((((St.setCell (F := RT w) _ ⟨w.heap.size, 0, none⟩ _ (.inl rfl)).trans (St.setCell _ ⟨w.heap.size, 1, none⟩ _ (.inl rfl))).trans (St.setCell _ ⟨w.heap.size, 2, none⟩ _ (.inl rfl))).trans (St.setCell _ ⟨w.heap.size, 3, none⟩ _ (.inl rfl))).trans (St.setCell _ ⟨w.heap.size, 4, none⟩ _ (.inl rfl)))).drop (fun _ h => h.elim))
set_option maxRecDepth 100000 in
set_option maxHeartbeats 1000000 in
theorem rtake6 (a : Option Addr) (c : Nat) (bs : List B8) (hn : bs.length ≤ 16777216) (hcl : bs.length ≤ c) (hcm : c ≤ 9223372036854775807) (at_ : Nat) (hat : at_ ≤ bs.length) (m : Int) (hm1 : -9223372036854775808 ≤ m) (hm : m ≤ 9223372036854775807) (w : World) (hb : Bs w a bs) :
    Calls Try.prog 109 #[.slice a bs.length c, .int .i64 (at_ : Int), .int .i64 6, .int .i64 m] w (RTakePost w (bs.drop at_) 6 m) := by
  have HB := Lib.hid hb
  have hu := Try.underlying51
  have HS0 : Hid (∀ o1 o2, St No w No ((w.alloc o1).alloc o2)) := Lib.hid (fun o1 o2 => (St.alloc' No w _).trans (St.alloc' No _ _))
  have HBW : Hid (∀ W, St No w No W → Bs W a bs) := Lib.hid (fun W h => HB.out.st h (Dj.no _))
  have HLR : Hid ((bs.drop at_).length = bs.length - at_) := Lib.hid (by simp)
  clear hb
  have HVT : Hid (varT true ⟨bs.drop at_, 0⟩ = if (headB 0 0 (bs.drop at_)).2.2 = 0 then (headB 0 0 (bs.drop at_)).1 else 0) := Lib.hid (by unfold varT opens; simp)
  have HVS : Hid (RS.var ⟨bs.drop at_, 0⟩ = if (headB 0 0 (bs.drop at_)).2.2 = 0 then ⟨(bs.drop at_).drop (headB 0 0 (bs.drop at_)).2.1, 0⟩ else ⟨bs.drop at_, (headB 0 0 (bs.drop at_)).2.2⟩) := Lib.hid (by unfold RS.var; rw [if_pos rfl])
  have HLN := Lib.hid (headB_len (bs.drop at_) 0 0)
  have HGC : Hid (∀ W, Bs W a bs → Calls Try.prog 114 #[.slice a bs.length c, .int .i64 (at_ : Int)] W (GroupedPost W (bs.drop at_))) := Lib.hid (fun W h => grouped_calls a c bs hn at_ hat W h)
  unfold GroupedPost at HGC
  generalize headB 0 0 (bs.drop at_) = r at *
  obtain ⟨x, n, er⟩ := r
  simp only at HVT HVS HLN HGC
  by_cases hz : er = 0
  · subst hz
    rw [if_pos rfl] at HVT HVS
    go_enter Try.func109, Try.ntmps109
    go_wp2_with fail
    refine (HGC.out _ (HBW.out _ (HS0.out _ _))).mono ?_
    rintro e w1 ⟨rfl, hs1⟩
    have hT : Ob w1 (w.heap.size + 1) 51 #[.int .i64 6, .int .u64 0, .int .i64 0, .bool false, .slice none 0 0] := (hs1.block _ (by simp) (fun h => h)).trans (new2 w _ _)
    have hR : Ob w1 w.heap.size 51 #[.int .i64 0, .int .u64 0, .int .i64 0, .bool false, .slice none 0 0] := (hs1.block _ (by simp; try omega) (fun h => h)).trans (mid2 w _ _)
    obtain ⟨c0, c1, c2, c3, c4, e0, e1, e2, e3, e4⟩ := hT.five
    obtain ⟨r0, r1, r2, r3, r4, s0, s1, s2, s3, s4⟩ := hR.five
    have HR := Lib.hid hR
    have HT := Lib.hid hT
    clear hR hT
    have HS1 := Lib.hid hs1
    clear hs1
    go_wp2_with (go_at_call 115; refine (unfold_calls x _).mono ?_; rintro e w2 ⟨rfl, rfl⟩)
    refine bodyPost_ret (results_cell_row_tmp2 rfl _ _ w.heap.size _ _ _ _ rfl ((((((HR.out.move (Below.heap_setCell w1 ⟨w.heap.size + 1, 2, none⟩ _ _ (by simp))).set 0 _).set 1 _).set 2 _).set 3 _).set 4 _) hu rfl thInfo) rfl ?_
    exact rtake_num (adv := n) (T := ⟨0, unzig x, false, []⟩) (by show Tk.mk _ _ _ _ = _; rw [HVT.out]) rfl rfl HVS.out (by have := (HLN.out (by simp)).2; omega) ((rst (HS0.out _ _) HS1.out ((((((St.setCell (F := RT w) _ ⟨w.heap.size + 1, 2, none⟩ _ (.inr rfl)).trans (St.setCell _ ⟨w.heap.size, 0, none⟩ _ (.inl rfl))).trans (St.setCell _ ⟨w.heap.size, 1, none⟩ _ (.inl rfl))).trans (St.setCell _ ⟨w.heap.size, 2, none⟩ _ (.inl rfl))).trans (St.setCell _ ⟨w.heap.size, 3, none⟩ _ (.inl rfl))).trans (St.setCell _ ⟨w.heap.size, 4, none⟩ _ (.inl rfl)))).drop (fun _ h => h.elim))
  · have hzb : (er != 0) = true := by rw [bne_iff_ne]; exact hz
    rw [if_neg hz] at HVT HVS
    clear hz
    go_enter Try.func109, Try.ntmps109
    go_wp2_with fail
    refine (HGC.out _ (HBW.out _ (HS0.out _ _))).mono ?_
    rintro e w1 ⟨rfl, hs1⟩
    have hT : Ob w1 (w.heap.size + 1) 51 #[.int .i64 6, .int .u64 0, .int .i64 0, .bool false, .slice none 0 0] := (hs1.block _ (by simp) (fun h => h)).trans (new2 w _ _)
    have hR : Ob w1 w.heap.size 51 #[.int .i64 0, .int .u64 0, .int .i64 0, .bool false, .slice none 0 0] := (hs1.block _ (by simp; try omega) (fun h => h)).trans (mid2 w _ _)
    obtain ⟨c0, c1, c2, c3, c4, e0, e1, e2, e3, e4⟩ := hT.five
    obtain ⟨r0, r1, r2, r3, r4, s0, s1, s2, s3, s4⟩ := hR.five
    have HR := Lib.hid hR
    have HT := Lib.hid hT
    clear hR hT
    have HS1 := Lib.hid hs1
    clear hs1
    go_wp2
    refine bodyPost_ret (results_cell_row_tmp2 rfl _ _ w.heap.size _ _ _ _ rfl (((((HR.out.set 0 _).set 1 _).set 2 _).set 3 _).set 4 _) hu rfl thInfo) rfl ?_
    exact rtake_fail rfl (by show Tk.mk _ _ _ _ = _; rw [HVT.out]; try rfl) HVS.out ((rst (HS0.out _ _) HS1.out (((((St.setCell (F := RT w) _ ⟨w.heap.size, 0, none⟩ _ (.inl rfl)).trans (St.setCell _ ⟨w.heap.size, 1, none⟩ _ (.inl rfl))).trans (St.setCell _ ⟨w.heap.size, 2, none⟩ _ (.inl rfl))).trans (St.setCell _ ⟨w.heap.size, 3, none⟩ _ (.inl rfl))).trans (St.setCell _ ⟨w.heap.size, 4, none⟩ _ (.inl rfl)))).drop (fun _ h => h.elim))
set_option maxRecDepth 100000 in
set_option maxHeartbeats 1000000 in
theorem rtake7 (a : Option Addr) (c : Nat) (bs : List B8) (hn : bs.length ≤ 16777216) (hcl : bs.length ≤ c) (hcm : c ≤ 9223372036854775807) (at_ : Nat) (hat : at_ ≤ bs.length) (m : Int) (hm1 : -9223372036854775808 ≤ m) (hm : m ≤ 9223372036854775807) (w : World) (hb : Bs w a bs) :
    Calls Try.prog 109 #[.slice a bs.length c, .int .i64 (at_ : Int), .int .i64 7, .int .i64 m] w (RTakePost w (bs.drop at_) 7 m) := by
  have HB := Lib.hid hb
  have hu := Try.underlying51
  have HS0 : Hid (∀ o1 o2, St No w No ((w.alloc o1).alloc o2)) := Lib.hid (fun o1 o2 => (St.alloc' No w _).trans (St.alloc' No _ _))
  have HBW : Hid (∀ W, St No w No W → Bs W a bs) := Lib.hid (fun W h => HB.out.st h (Dj.no _))
  have HLR : Hid ((bs.drop at_).length = bs.length - at_) := Lib.hid (by simp)
  clear hb
  have HFS : Hid (RS.flag ⟨bs.drop at_, 0⟩ = if 1 < ((bs.drop at_).headD 0#8).toNat then ⟨bs.drop at_, 24⟩ else RS.took ⟨bs.drop at_, 0⟩ 1) := Lib.hid (by unfold RS.flag; rw [if_pos rfl])
  have HFT : Hid (flagT true ⟨bs.drop at_, 0⟩ = decide ((bs.drop at_).head? = some 1#8)) := Lib.hid (by unfold flagT opens; simp)
  have HTK : Hid (RS.took ⟨bs.drop at_, 0⟩ 1 = if 1 ≤ (bs.drop at_).length then ⟨(bs.drop at_).drop 1, 0⟩ else ⟨bs.drop at_, 21⟩) := Lib.hid (by unfold RS.took; rw [if_pos rfl])
  by_cases hlt : (bs.length : Int) - (at_ : Int) < 1
  · have hnil : bs.drop at_ = [] := List.drop_eq_nil_of_le (by omega)
    have HN := Lib.hid hnil
    clear hnil
    go_enter Try.func109, Try.ntmps109
    go_wp2
    refine bodyPost_ret (results_cell_row_tmp2 rfl _ _ w.heap.size _ _ _ _ rfl (mid2 w _ _) hu rfl rfl) rfl ?_
    refine rtake_fail rfl (by show Tk.mk _ _ _ _ = _; rw [HFT.out, HN.out]; rfl) ?_ (HS0.out _ _)
    show RS.flag ⟨bs.drop at_, 0⟩ = _
    rw [HFS.out, HTK.out, HN.out]
    rfl
  · obtain ⟨y, rfl, hc⟩ := HB.out.at at_ (by omega)
    obtain ⟨b, hbt⟩ : ∃ b, bs[at_]'(by omega) = b := ⟨_, rfl⟩
    rw [hbt] at hc
    have hd : bs.drop at_ = b :: bs.drop (at_ + 1) := by rw [List.drop_eq_getElem_cons (by omega), hbt]
    have HDR := Lib.hid hd
    clear hd hbt
    have hck : ∀ o1 o2, ((w.alloc o1).alloc o2).cell? (y.add at_) = some (.int .u8 (b.toNat : Int)) := fun o1 o2 => by
      have hl := World.block_lt_of_cell? w _ hc
      rw [World.cell?_of_block (w := w)]
      · exact hc
      · exact (HS0.out o1 o2).block _ hl (fun h => h)
    have hatl : (at_ : Int) < (bs.length : Int) := by omega
    have hc1 := hck (.cells #[.int .i64 0, .int .u64 0, .int .i64 0, .bool false, .slice none 0 0] 51) (.cells #[.int .i64 7, .int .u64 0, .int .i64 0, .bool false, .slice none 0 0] 51)
    clear hck
    by_cases hb1 : 1 < b.toNat
    · have hbi : (1 : Int) < (b.toNat : Int) := by omega
      have HB1 := Lib.hid hb1
      clear hb1
      go_enter Try.func109, Try.ntmps109
      go_wp2
      refine bodyPost_ret (results_cell_row_tmp2 rfl _ _ w.heap.size _ _ _ _ rfl (mid2 w _ _) hu rfl rfl) rfl ?_
      refine rtake_fail rfl ?_ ?_ (HS0.out _ _)
      · show Tk.mk _ _ _ _ = _
        rw [HFT.out, HDR.out, decide_eq_false]
        intro h
        have e := Option.some.inj h
        have := HB1.out
        rw [e] at this
        simp at this
      · show RS.flag ⟨bs.drop at_, 0⟩ = _
        rw [HFS.out, HDR.out]
        exact if_pos HB1.out
    · have hbi : ¬ (1 : Int) < (b.toNat : Int) := by omega
      have HB1 := Lib.hid hb1
      have HEQ : Hid (((b.toNat : Int) == 1) = decide ((bs.drop at_).head? = some 1#8)) := Lib.hid (by
        rw [HDR.out]
        by_cases h : b = 1#8
        · subst h; rfl
        · have h2 : ¬ (b.toNat : Int) = 1 := fun e => h (BitVec.eq_of_toNat_eq (by show b.toNat = 1; omega))
          rw [beq_eq_false_iff_ne.2 h2]
          exact (decide_eq_false (fun e => h (Option.some.inj e))).symm)
      clear hb1
      go_enter Try.func109, Try.ntmps109
      go_wp2
      all_goals refine bodyPost_ret (results_cell_row_tmp2 rfl _ _ w.heap.size _ _ _ _ rfl (mid2 w _ _) hu rfl rfl) rfl ?_
      all_goals refine rtake_num (K := 7) (adv := 1) (T := ⟨0, 0, flagT true ⟨bs.drop at_, 0⟩, []⟩) rfl rfl ?_ ?_ (by rw [HLR.out]; omega) (HS0.out _ _)
      all_goals first
        | (show RS.flag ⟨bs.drop at_, 0⟩ = _; rw [HFS.out, if_neg (by rw [HDR.out]; exact HB1.out), HTK.out, if_pos (by rw [HLR.out]; omega)])
        | (rw [HFT.out, ← HEQ.out]; first | rfl | simp_all)
set_option maxRecDepth 100000 in
set_option maxHeartbeats 1000000 in
theorem rtake8 (a : Option Addr) (c : Nat) (bs : List B8) (hn : bs.length ≤ 16777216) (hcl : bs.length ≤ c) (hcm : c ≤ 9223372036854775807) (at_ : Nat) (hat : at_ ≤ bs.length) (m : Int) (hm1 : -9223372036854775808 ≤ m) (hm : m ≤ 9223372036854775807) (w : World) (hb : Bs w a bs) :
    Calls Try.prog 109 #[.slice a bs.length c, .int .i64 (at_ : Int), .int .i64 8, .int .i64 m] w (RTakePost w (bs.drop at_) 8 m) := by
  have HB := Lib.hid hb
  have hu := Try.underlying51
  have HS0 : Hid (∀ o1 o2, St No w No ((w.alloc o1).alloc o2)) := Lib.hid (fun o1 o2 => (St.alloc' No w _).trans (St.alloc' No _ _))
  have HBW : Hid (∀ W, St No w No W → Bs W a bs) := Lib.hid (fun W h => HB.out.st h (Dj.no _))
  have HLR : Hid ((bs.drop at_).length = bs.length - at_) := Lib.hid (by simp)
  clear hb
  by_cases hneg : m < 0
  · have HNEG := Lib.hid hneg
    go_enter Try.func109, Try.ntmps109
    go_wp2
    refine bodyPost_ret (results_cell_row_tmp2 rfl _ _ w.heap.size _ _ _ _ rfl (mid2 w _ _) hu rfl rfl) rfl ?_
    exact rtake_fail rfl (by show Tk.mk _ _ _ (rawB _ _ _) = _; unfold rawB; rw [if_pos HNEG.out]) (by show RS.raw ⟨bs.drop at_, 0⟩ m = _; unfold RS.raw RS.fail; rw [if_pos HNEG.out, if_pos rfl]) (HS0.out _ _)
  · obtain ⟨n, rfl⟩ := Int.eq_ofNat_of_zero_le (Int.not_lt.1 hneg)
    have HRB : Hid (rawB true ⟨bs.drop at_, 0⟩ (n : Int) = if n ≤ (bs.drop at_).length then (bs.drop at_).take n else []) := Lib.hid (by unfold rawB takes opens; rw [if_neg hneg, Int.toNat_natCast]; simp)
    have HRS : Hid (RS.raw ⟨bs.drop at_, 0⟩ (n : Int) = if n ≤ (bs.drop at_).length then ⟨(bs.drop at_).drop n, 0⟩ else ⟨bs.drop at_, 21⟩) := Lib.hid (by unfold RS.raw RS.took; rw [if_neg hneg, Int.toNat_natCast, if_pos rfl])
    by_cases hgt : (bs.length : Int) - (at_ : Int) < (n : Int)
    · go_enter Try.func109, Try.ntmps109
      go_wp2
      refine bodyPost_ret (results_cell_row_tmp2 rfl _ _ w.heap.size _ _ _ _ rfl (mid2 w _ _) hu rfl rfl) rfl ?_
      exact rtake_fail rfl (by show Tk.mk _ _ _ (rawB _ _ _) = _; rw [HRB.out, if_neg (by rw [HLR.out]; omega)]) (by show RS.raw ⟨bs.drop at_, 0⟩ (n : Int) = _; rw [HRS.out, if_neg (by rw [HLR.out]; omega)]) (HS0.out _ _)
    · have hxl : ((bs.drop at_).take n).length = n := by simp; omega
      have HXL := Lib.hid hxl
      rw [if_pos (by rw [HLR.out]; omega)] at HRB HRS
      have HBX : Hid (∀ W, Bs W a bs → Bs W (a.map (fun y => y.add at_)) ((bs.drop at_).take n)) := Lib.hid (fun W h => (h.drop at_).take n)
      have HNIL : Hid (c = at_ → (bs.drop at_).take n = []) := Lib.hid (fun h => by rw [List.drop_eq_nil_of_le (by omega)]; simp)
      have hX0 : c = at_ → n = 0 := fun h => by omega
      generalize (bs.drop at_).take n = xs at *
      have HJ : Hid (∀ W a' c', Bs W a' xs → Calls Try.prog 82 #[.slice none 0 0, .slice a' (n : Nat) c'] W fun e w' => ∃ v, e = .returned v ∧ OwB w' v xs ∧ St No W (fpV v) w') := Lib.hid (by
        intro W a' c' h
        have := join2_calls none 0 [] a' c' xs (by rw [hxl]; simp; omega) W (Rd.nil _ _) h
        rw [hxl] at this
        exact this)
      clear hxl
      by_cases hck : c = at_
      · have h0 := hX0 hck
        subst hck
        subst h0
        go_enter Try.func109, Try.ntmps109
        go_wp2_with fail
        refine (HJ.out _ _ _ (by rw [HNIL.out (by simp)]; exact Rd.nil _ _)).mono ?_
        rintro e w1 ⟨v1, rfl, ho1, hs1⟩
        have hf1 := ho1.form
        rw [HXL.out] at hf1
        obtain ⟨a1, c1', rfl, hv1, hv2, hv3, hv4⟩ := hf1
        have hT : Ob w1 (w.heap.size + 1) 51 #[.int .i64 8, .int .u64 0, .int .i64 0, .bool false, .slice none 0 0] := (hs1.block _ (by simp) (fun h => h)).trans (new2 w _ _)
        have hR : Ob w1 w.heap.size 51 #[.int .i64 0, .int .u64 0, .int .i64 0, .bool false, .slice none 0 0] := (hs1.block _ (by simp; try omega) (fun h => h)).trans (mid2 w _ _)
        obtain ⟨c0, c1, c2, c3, c4, e0, e1, e2, e3, e4⟩ := hT.five
        obtain ⟨r0, r1, r2, r3, r4, s0, s1, s2, s3, s4⟩ := hR.five
        have HR := Lib.hid hR
        have HT := Lib.hid hT
        clear hR hT
        have HS1 := Lib.hid hs1
        have HO1 := Lib.hid ho1
        have hnw : ∀ k, fpV (.slice a1 0 c1') k → w.heap.size + 2 ≤ k := fun k hk => (hs1.new k hk).elim (fun h => h.elim) (fun h => by simpa using h)
        have HNW := Lib.hid hnw
        clear hs1 ho1 hv3 hv4 hnw
        go_wp2
        refine bodyPost_ret (results_cell_row_tmp2 rfl _ _ w.heap.size _ _ _ _ rfl ((((((HR.out.move (Below.heap_setCell w1 ⟨w.heap.size + 1, 4, none⟩ _ _ (by simp))).set 0 _).set 1 _).set 2 _).set 3 _).set 4 _) hu rfl thInfo) rfl ?_
        refine ⟨8, .slice a1 0 c1', 0, 0, ?_, ?_, (rst (HS0.out _ _) HS1.out ((((((St.setCell (F := RT w) _ ⟨w.heap.size + 1, 4, none⟩ _ (.inr rfl)).trans (St.setCell _ ⟨w.heap.size, 0, none⟩ _ (.inl rfl))).trans (St.setCell _ ⟨w.heap.size, 1, none⟩ _ (.inl rfl))).trans (St.setCell _ ⟨w.heap.size, 2, none⟩ _ (.inl rfl))).trans (St.setCell _ ⟨w.heap.size, 3, none⟩ _ (.inl rfl))).trans (St.setCell _ ⟨w.heap.size, 4, none⟩ _ (.inl rfl)))).drop (fun k hk => .inr (.inl hk)), HRS.out, by rw [HLR.out]; omega⟩
        · show _ = Ending.returned (.tuple #[.agg ((Tk.mk 0 0 false (rawB true ⟨bs.drop c, 0⟩ _)).cells 8 _), _, _])
          rfl
        · show OwB _ _ (rawB true ⟨bs.drop c, 0⟩ ((0 : Nat) : Int))
          rw [HRB.out]
          exact HO1.out.st ((((((St.setCell (F := RT w) _ ⟨w.heap.size + 1, 4, none⟩ _ (.inr rfl)).trans (St.setCell _ ⟨w.heap.size, 0, none⟩ _ (.inl rfl))).trans (St.setCell _ ⟨w.heap.size, 1, none⟩ _ (.inl rfl))).trans (St.setCell _ ⟨w.heap.size, 2, none⟩ _ (.inl rfl))).trans (St.setCell _ ⟨w.heap.size, 3, none⟩ _ (.inl rfl))).trans (St.setCell _ ⟨w.heap.size, 4, none⟩ _ (.inl rfl))) (by rintro k (rfl | rfl) hk <;> have := HNW.out _ hk <;> omega)
      · go_enter Try.func109, Try.ntmps109
        go_wp2_with fail
        refine (HJ.out _ _ _ (HBX.out _ (HBW.out _ (HS0.out _ _)))).mono ?_
        rintro e w1 ⟨v1, rfl, ho1, hs1⟩
        have hf1 := ho1.form
        rw [HXL.out] at hf1
        obtain ⟨a1, c1', rfl, hv1, hv2, hv3, hv4⟩ := hf1
        have hT : Ob w1 (w.heap.size + 1) 51 #[.int .i64 8, .int .u64 0, .int .i64 0, .bool false, .slice none 0 0] := (hs1.block _ (by simp) (fun h => h)).trans (new2 w _ _)
        have hR : Ob w1 w.heap.size 51 #[.int .i64 0, .int .u64 0, .int .i64 0, .bool false, .slice none 0 0] := (hs1.block _ (by simp; try omega) (fun h => h)).trans (mid2 w _ _)
        obtain ⟨c0, c1, c2, c3, c4, e0, e1, e2, e3, e4⟩ := hT.five
        obtain ⟨r0, r1, r2, r3, r4, s0, s1, s2, s3, s4⟩ := hR.five
        have HR := Lib.hid hR
        have HT := Lib.hid hT
        clear hR hT
        have HS1 := Lib.hid hs1
        have HO1 := Lib.hid ho1
        have hnw : ∀ k, fpV (.slice a1 n c1') k → w.heap.size + 2 ≤ k := fun k hk => (hs1.new k hk).elim (fun h => h.elim) (fun h => by simpa using h)
        have HNW := Lib.hid hnw
        clear hs1 ho1 hv3 hv4 hnw
        go_wp2
        refine bodyPost_ret (results_cell_row_tmp2 rfl _ _ w.heap.size _ _ _ _ rfl ((((((HR.out.move (Below.heap_setCell w1 ⟨w.heap.size + 1, 4, none⟩ _ _ (by simp))).set 0 _).set 1 _).set 2 _).set 3 _).set 4 _) hu rfl thInfo) rfl ?_
        refine ⟨8, .slice a1 n c1', n, 0, ?_, ?_, (rst (HS0.out _ _) HS1.out ((((((St.setCell (F := RT w) _ ⟨w.heap.size + 1, 4, none⟩ _ (.inr rfl)).trans (St.setCell _ ⟨w.heap.size, 0, none⟩ _ (.inl rfl))).trans (St.setCell _ ⟨w.heap.size, 1, none⟩ _ (.inl rfl))).trans (St.setCell _ ⟨w.heap.size, 2, none⟩ _ (.inl rfl))).trans (St.setCell _ ⟨w.heap.size, 3, none⟩ _ (.inl rfl))).trans (St.setCell _ ⟨w.heap.size, 4, none⟩ _ (.inl rfl)))).drop (fun k hk => .inr (.inl hk)), HRS.out, by rw [HLR.out]; omega⟩
        · show _ = Ending.returned (.tuple #[.agg ((Tk.mk 0 0 false (rawB true ⟨bs.drop at_, 0⟩ _)).cells 8 _), _, _])
          rfl
        · show OwB _ _ (rawB true ⟨bs.drop at_, 0⟩ ((n : Nat) : Int))
          rw [HRB.out]
          exact HO1.out.st ((((((St.setCell (F := RT w) _ ⟨w.heap.size + 1, 4, none⟩ _ (.inr rfl)).trans (St.setCell _ ⟨w.heap.size, 0, none⟩ _ (.inl rfl))).trans (St.setCell _ ⟨w.heap.size, 1, none⟩ _ (.inl rfl))).trans (St.setCell _ ⟨w.heap.size, 2, none⟩ _ (.inl rfl))).trans (St.setCell _ ⟨w.heap.size, 3, none⟩ _ (.inl rfl))).trans (St.setCell _ ⟨w.heap.size, 4, none⟩ _ (.inl rfl))) (by rintro k (rfl | rfl) hk <;> have := HNW.out _ hk <;> omega)
end Go.Proofs.Ytfhoekcmkbeabaa
