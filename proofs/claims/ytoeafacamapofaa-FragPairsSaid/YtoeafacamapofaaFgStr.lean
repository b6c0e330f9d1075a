
/-
  Bytes as strings; the walks over the statements' comparisons: sameAll.
-/
import Derived.Test.YtoeafacamapofaaFgGrams
import Derived.Laws.IdiomStrings
namespace Go.Proofs.Ytoeafacamapofaa
open Go.RowKit
set_option linter.unusedVariables false
set_option linter.unusedSimpArgs false

def ubs (xs : List B8) : List UInt8 := xs.map UInt8.ofBitVec
theorem ubs_len (xs : List B8) : (ubs xs).length = xs.length := by simp [ubs]
theorem ubs_inj {xs ys : List B8} : ubs xs = ubs ys ↔ xs = ys := by
  constructor
  · intro h
    unfold ubs at h
    exact (List.map_inj_right (f := UInt8.ofBitVec) (fun a b e => by simpa using congrArg UInt8.toBitVec e)).1 h
  · rintro rfl; rfl
/-- bytes as a string -/
def strB (xs : List B8) : ByteArray := ⟨(ubs xs).toArray⟩
theorem strB_list (xs : List B8) : (strB xs).toList = ubs xs := by unfold strB; simp
theorem strB_beq (xs ys : List B8) : ((strB xs).toList == (strB ys).toList) = decide (xs = ys) := by
  rw [strB_list, strB_list]
  by_cases h : xs = ys
  · subst h; simp
  · rw [decide_eq_false h]
    exact beq_eq_false_iff_ne.2 (fun e => h (ubs_inj.1 e))
theorem conv_bs {w : World} {a : Option Addr} {c : Nat} {xs : List B8} (h : Bs w a xs) : (convert 25 9 (.slice a xs.length c)).run Try.prog w = .ok (.string (strB xs)) w := by
  cases a with
  | none =>
    obtain rfl : xs = [] := by
      cases xs with
      | nil => rfl
      | cons x l => obtain ⟨y, e, _⟩ := h.at 0 (by simp); cases e
    rw [run_convert_bytes_string w _ _ 5 none _ c Try.underlying25 Try.underlying5 Try.underlying9]
    simp [Conv.bytesToString]
    rfl
  | some x =>
    have := run_convert_bytes_back (P := Try.prog) w 25 9 5 x c (ubs xs) Try.underlying25 Try.underlying5 Try.underlying9 (fun j hj => by
      rw [ubs_len] at hj
      rw [h.at_some j hj]
      simp [ubs])
    rw [ubs_len] at this
    exact this

/-- a list of lists that can be read -/
def RdL (w : World) (a : Option Addr) (ds : List (List B8)) : Prop :=
  ∃ vs : List Value, Rd w a vs ∧ vs.length = ds.length ∧ ∀ (i : Nat) (v : Value) (d : List B8), vs[i]? = some v → ds[i]? = some d → ∃ b c, v = .slice b d.length c ∧ Bs w b d
theorem Grams.rdl {w : World} {a : Option Addr} {c : Nat} {vs : List Value} {ds : List (List B8)} (h : Grams w (.slice a ds.length c) vs ds) : RdL w a ds :=
  ⟨vs, h.own.rd, h.len, fun i v d hv hd => by obtain ⟨b, c, e, hb, _⟩ := (h.each i v d hv hd).any; exact ⟨b, c, e, hb⟩⟩
theorem Grams.form {w : World} {V : Value} {vs : List Value} {ds : List (List B8)} (h : Grams w V vs ds) : ∃ a c, V = .slice a ds.length c := by
  obtain ⟨a, c, e, _⟩ := h.own.form
  exact ⟨a, c, e⟩
theorem RdL.at {w : World} {a : Option Addr} {ds : List (List B8)} (h : RdL w a ds) (i : Nat) (hi : i < ds.length) : ∃ x b c, a = some x ∧ w.cell? (x.add i) = some (.slice b ds[i].length c) ∧ Bs w b ds[i] := by
  obtain ⟨vs, hr, hl, he⟩ := h
  have hv : i < vs.length := by omega
  obtain ⟨b, c, e, hb⟩ := he i _ _ (List.getElem?_eq_getElem hv) (List.getElem?_eq_getElem hi)
  obtain ⟨x, hx, hc⟩ := hr i _ (List.getElem?_eq_getElem hv)
  exact ⟨x, b, c, hx, by rw [hc, e], hb⟩
theorem RdL.drewN {w : World} {a : Option Addr} {ds : List (List B8)} (h : RdL w a ds) (n : Nat) : RdL (w.drewN n) a ds := h

theorem splitB_few (xs : List B8) (id : BitVec 64) (mtu : Int) : (splitB xs id mtu).length ≤ 90 := by
  unfold splitB
  split
  · rename_i h
    rw [splitL_len]
    unfold splitE at h
    split at h
    · cases h
    · split at h
      · cases h
      · exact (split_facts (by omega) (by omega) (by omega) (by omega)).2.1
  · simp
theorem splitB_small (xs : List B8) (id : BitVec 64) (mtu : Int) (i : Nat) (d : List B8) (h : (splitB xs id mtu)[i]? = some d) : d.length ≤ 1024 := by
  unfold splitB at h
  split at h
  · rename_i he
    have hf : 64 ≤ mtu ∧ mtu ≤ 1024 ∧ 1 ≤ xs.length ∧ xs.length ≤ 4096 := by
      unfold splitE at he
      split at he
      · cases he
      · split at he
        · cases he
        · omega
    have hs := split_facts (len := xs.length) (mtu := mtu.toNat) (by omega) (by omega) hf.2.2.1 hf.2.2.2
    unfold splitL at h
    rw [List.getElem?_map] at h
    cases hr : (List.range (countN xs.length mtu.toNat))[i]? with
    | none => rw [hr] at h; cases h
    | some j =>
      rw [hr] at h
      cases h
      rw [dgram_len]
      have hp : (fragB xs id (countN xs.length mtu.toNat) j).part.length ≤ sizeN xs.length (countN xs.length mtu.toNat) := by
        show (partB _ _ _).length ≤ _
        rw [partB_len]
        exact Nat.min_le_left _ _
      omega
  · simp at h
theorem Dr.no {w w' : World} (h : Dr w w') : St No w No w' := h.st No
theorem Own.atG {w : World} {a : Option Addr} {c n : Nat} {vs : List Value} (h : Own w 25 1 (.slice a n c) n vs) (i : Nat) (hi : i < vs.length) : ∃ x, a = some x ∧ w.cell? (x.add i) = some vs[i] := h.rd i _ (List.getElem?_eq_getElem hi)

set_option maxRecDepth 100000 in
set_option maxHeartbeats 1000000 in
theorem sameAll_calls (a : Option Addr) (c : Nat) (xs : List (List B8)) (b : Option Addr) (d : Nat) (ys : List (List B8)) (hx : xs.length ≤ 4294967296) (hy : ys.length ≤ 4294967296) (w : World) (ha : RdL w a xs) (hb : RdL w b ys) :
    Calls Try.prog 34 #[.slice a xs.length c, .slice b ys.length d] w fun e w' => e = .returned (.bool (decide (xs = ys))) ∧ Dr w w' := by
  have HA := Lib.hid ha
  have HB := Lib.hid hb
  clear ha hb
  by_cases hl : xs.length = ys.length
  · have HL := Lib.hid hl
    have g1 : (((xs.length : Nat) : Int) != ((ys.length : Nat) : Int)) = false := by rw [hl]; simp
    have g2 : (xs.length != ys.length) = false := by rw [hl]; simp
    clear hl
    go_enter Try.func34, Try.ntmps34
    go_wp2
    go_loopw [5] (fun i wr => ∃ k : Nat, k ≤ xs.length ∧ i = .int .i64 k ∧ Hid (xs.take k = ys.take k) ∧ Dr w wr) (fun i _ => xs.length - (intOf i).toNat)
    case atStart => exact ⟨0, by omega, rfl, Lib.hid rfl, Dr.refl w⟩
    case round =>
      obtain ⟨k, hk, rfl, HT, ⟨m, rfl⟩⟩ := hrel
      by_cases hlt : k < xs.length
      · have hlt2 : k < ys.length := by have := HL.out; omega
        obtain ⟨x, b1, c1, rfl, hc1, hb1⟩ := HA.out.at k hlt
        obtain ⟨y, b2, c2, rfl, hc2, hb2⟩ := HB.out.at k hlt2
        have hv1 := fun n => conv_bs (w := w.drewN n) (c := c1) hb1
        have hv2 := fun n => conv_bs (w := w.drewN n) (c := c2) hb2
        have hbq := strB_beq xs[k] ys[k]
        have hT1 : xs.take (k + 1) = xs.take k ++ [xs[k]] := List.take_succ_eq_append_getElem hlt
        have hT2 : ys.take (k + 1) = ys.take k ++ [ys[k]] := List.take_succ_eq_append_getElem hlt2
        have HTA := Lib.hid hT1
        have HTB := Lib.hid hT2
        clear hb1 hb2 hT1 hT2
        generalize hxk : xs[k] = x0 at *
        generalize hyk : ys[k] = y0 at *
        have HXK := Lib.hid hxk
        have HYK := Lib.hid hyk
        clear hxk hyk
        by_cases he : x0 = y0
        · subst he
          rw [decide_eq_true rfl] at hbq
          go_wp2
          go_quiet (fail)
          go_wp2
          go_roundw
          case rel => exact ⟨k + 1, by omega, by go_num, Lib.hid (by rw [HTA.out, HTB.out, HT.out]), (by first | exact Dr.one _ | exact Dr.step _ _)⟩
          case measure => simp [intOf]; omega
        · rw [decide_eq_false he] at hbq
          have HNE : Hid (decide (xs = ys) = false) := Lib.hid (decide_eq_false (fun e => by subst e; exact he (HXK.out.symm.trans HYK.out)))
          clear he
          go_wp2
          go_quiet (fail)
          go_wp2
          go_ret
          exact ⟨by rw [HNE.out]; rfl, (by first | exact Dr.one _ | exact Dr.step _ _)⟩
      · obtain rfl : k = xs.length := by omega
        have HEQ : Hid (decide (xs = ys) = true) := Lib.hid (decide_eq_true (by have h := HT.out; rw [List.take_length, HL.out, List.take_length] at h; exact h))
        go_wp2
        go_ret
        exact ⟨by rw [HEQ.out]; rfl, Dr.one _⟩
  · have HNE : Hid (decide (xs = ys) = false) := Lib.hid (decide_eq_false (fun e => hl (by rw [e])))
    have g1 : (((xs.length : Nat) : Int) != ((ys.length : Nat) : Int)) = true := by rw [bne_iff_ne]; omega
    have g2 : (xs.length != ys.length) = true := by rw [bne_iff_ne]; exact hl
    clear hl
    go_enter Try.func34, Try.ntmps34
    go_wp2
    go_ret
    exact ⟨by rw [HNE.out]; rfl, Dr.refl w⟩
end Go.Proofs.Ytoeafacamapofaa
