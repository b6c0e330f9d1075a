
/-
  The walks over the program's writer: Raw, groups, and the handle that may be nil.
-/
import Derived.Test.YtoeafacamapofaaCwWriter
import Derived.Laws.ResultCell
namespace Go.Proofs.Ytoeafacamapofaa
open Go.RowKit
set_option linter.unusedVariables false
set_option linter.unusedSimpArgs false

theorem WS.put_eq (s : WS) (bs : List B8) (h1 : s.err = 0) (h2 : (bs.length : Int) ≤ s.lim - (s.out.length : Int)) : s.put bs = { s with out := s.out ++ bs } := by
  unfold WS.put
  rw [if_pos h1, if_neg (by omega)]
theorem WS.put_no (s : WS) (bs : List B8) (h : ¬ (s.err = 0 ∧ (bs.length : Int) ≤ s.lim - (s.out.length : Int))) : s.put bs = if s.err = 0 then { s with err := 20 } else s := by
  unfold WS.put
  by_cases he : s.err = 0
  · rw [if_pos he, if_pos he, if_pos (by have : ¬ (bs.length : Int) ≤ s.lim - (s.out.length : Int) := fun h2 => h ⟨he, h2⟩; omega)]
  · rw [if_neg he, if_neg he]

set_option maxRecDepth 100000 in
set_option maxHeartbeats 2000000 in
theorem raw_nil (a : Option Addr) (n c : Nat) (w : World) : Calls Try.prog 105 #[.pointer none, .slice a n c] w fun e w' => e = .returned (.tuple #[]) ∧ w = w' := by
  go_enter Try.func105, Try.ntmps105
  go_wp2_with fail
  refine (fits_nil n w).mono ?_
  rintro e w1 ⟨rfl, rfl⟩
  go_wp2
  go_end0
  exact ⟨rfl, rfl⟩

set_option maxRecDepth 100000 in
set_option maxHeartbeats 2000000 in
theorem raw_calls (a : Option Addr) (c : Nat) (bs : List B8) (hac : a = none → c = 0) (w : World) (F : Nat → Prop) (p : Nat) (s : WS) (hs : s.ok) (h : Wr w F p s) (hb : Bs w a bs) (hd : Apart F a bs) :
    Calls Try.prog 105 #[.pointer (some ⟨p, 0, none⟩), .slice a bs.length c] w (PutPost w F p s bs) := by
  have HW := Lib.hid h
  have HOK := Lib.hid hs
  have HB := Lib.hid hb
  have HD := Lib.hid hd
  have HAC := Lib.hid hac
  clear h hs hb hd hac
  go_enter Try.func105, Try.ntmps105
  go_wp2_with fail
  refine (fits_calls bs.length (by omega) w F p s HOK.out HW.out).mono ?_
  rintro e w1 (⟨he, hfit, rfl, hw1, hs1⟩ | ⟨hno, rfl, hw1, hs1⟩)
  · have HB1 := Lib.hid (HB.out.stA hs1 HD.out)
    have HP := Lib.hid (WS.put_eq s bs he hfit)
    obtain ⟨a1, c1, k0, k1, k2, f1, f2, hv, hc1, hc2, hnone, ho, hnp, hF⟩ := hw1.open
    have HV := Lib.hid hv
    have HO := Lib.hid ho
    have HN1 := Lib.hid hnp
    have HF1 := Lib.hid hF
    have HS1 := Lib.hid hs1
    have hl1 : s.out.length + bs.length ≤ 140737488355328 := by have := HOK.out.hi; omega
    have HL := Lib.hid hl1
    clear he hfit hw1 hs1 hv ho hnp hF hnone hc2 k0 k2 f2 hl1
    go_wp2_with (at_builtin; refine wpList_appB rfl (.tmp 12) (.tmp 13) rfl _ s.out rfl HV.out a bs.length c bs rfl rfl HB1.out HAC.out HL.out ?_; intro v' w2 ho2 hs2 hn2; have HO2 := Lib.hid ho2; have HS2 := Lib.hid hs2; clear ho2 hs2 hn2; have hob := HO.out.behind HN1.out HS2.out; have k1' := hob.cell 1; have f1' := hob.free 1; simp only [List.getElem?_toArray, List.getElem?_cons_zero, List.getElem?_cons_succ] at k1'; obtain ⟨a', c', rfl, _, _, _, _⟩ := HO2.out.form; clear hob)
    go_end0
    have hst := Wr.setOut (s := s) HO.out HN1.out HF1.out HO2.out HS2.out
    rw [List.length_append] at hst
    refine ⟨rfl, ?_⟩
    rw [HP.out]
    exact ⟨_, hst.1, HS1.out.trans hst.2⟩
  · have HW1 := Lib.hid hw1
    have HS1 := Lib.hid hs1
    have HNO := Lib.hid hno
    clear hno hw1 hs1
    go_wp2
    go_end0
    refine ⟨rfl, F, ?_, HS1.out⟩
    rw [WS.put_no s bs HNO.out]
    exact HW1.out


theorem results_cell_row_tmp {P : Program} {fn : Func} {p u : Tmp} {ty : TypeId} (h : fn.results = #[.cell p ty, .tmp u]) (tmps : Array Value) (w : World) (g : Nat) (t : TypeId) (cs : Array Value) (fr : Nat × Nat) (d : TypeDesc)
    (hp : tmps.getD p undef = .pointer (some ⟨g, 0, none⟩)) (hg : w.heap[g]? = some (.cells cs t fr))
    (hu : P.underlying ty = some d) (hd : (match d with | .struct _ | .array _ _ => true | _ => false) = true) (hi : (P.info? ty).map (·.size) = some cs.size) :
    (results fn tmps).run P w = .ok (.tuple #[.agg cs, tmps.getD u undef]) w := by
  rw [results_cell_tmp h, hp]
  simp [asAddr, run_loadVar_row w g t ty cs fr d hg hu hd hi, Result.andThen]

/-- the groups of a number, with so many rounds at the most -/
def groupsF : Nat → Nat → List B8
  | 0, x => [BitVec.ofNat 8 x]
  | f + 1, x => if x < 128 then [BitVec.ofNat 8 x] else BitVec.ofNat 8 (x % 128 + 128) :: groupsF f (x / 128)
def groupsB (x : Nat) : List B8 := groupsF 9 x
theorem groupsF_len (f x : Nat) : 1 ≤ (groupsF f x).length ∧ (groupsF f x).length ≤ f + 1 := by
  induction f generalizing x with
  | zero => simp [groupsF]
  | succ f ih =>
    simp only [groupsF]
    split
    · simp
    · have := ih (x / 128)
      simp only [List.length_cons]
      omega
theorem groupsB_len (x : Nat) : 1 ≤ (groupsB x).length ∧ (groupsB x).length ≤ 10 := groupsF_len 9 x
theorem bv_one' (ms : List B8) : (bv ms).toArray.all (·.oneCell') = true := by
  rw [Array.all_eq_true_iff_forall_mem]
  intro v hv
  exact bv_one ms v (by simpa using hv)
theorem or128 (x : Nat) (h : x < 18446744073709551616) : bits .or .u8 (((x : Nat) : Int) % 256) 128 = (((BitVec.ofNat 8 (x % 128 + 128)).toNat : Nat) : Int) := by
  have e : ((x : Int) % 256) = (((x % 256 : Nat)) : Int) := by omega
  have e2 : (128 : Int) = ((128 : Nat) : Int) := rfl
  rw [e, e2, (bits_nat .u8 8 (by decide) wraps_u8 (x % 256) 128 (by omega) (by omega)).2]
  congr 1
  rw [BitVec.toNat_ofNat]
  have key : ∀ y : Fin 256, y.val ||| 128 = (y.val % 128 + 128) % 256 := by decide +kernel
  have := key ⟨x % 256, by omega⟩
  simp only at this
  rw [this]
  omega

end Go.Proofs.Ytoeafacamapofaa
