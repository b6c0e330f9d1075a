
/-
  The walks over the statements' helpers of layer 4: clone, roomy, roomKept, spoil, num.
-/
import Derived.Test.YtoeafacamapofaaBytes
import Derived.Test.YtoeafacamapofaaCwWriter4
namespace Go.Proofs.Ytoeafacamapofaa
open Go.RowKit
set_option linter.unusedVariables false
set_option linter.unusedSimpArgs false

theorem bs_oneB {w : World} {v : Int} {b : B8} (h : v = (b.toNat : Int)) : Bs (w.alloc (.cells #[.int .u8 v] 5)) (some ⟨w.heap.size, 0, none⟩) [b] := by
  subst h
  exact rd_row (heap_alloc_new w (.cells #[.int .u8 (b.toNat : Int)] 5))
theorem OwB.newB {w : World} {v : Value} {xs : List B8} (h : OwB w v xs) (o : Obj) : OwB (w.alloc o) v xs := h.move (fun k hk => Below.heap_alloc _ _ _ (h.in k hk))
theorem St.oneB {F F' : Nat → Prop} {w w' : World} (o : Obj) (h : St F (w.alloc o) F' w') : St F w F' w' := (St.alloc' F w o).trans h
/-- bytes in new memory -/
def BOut (w : World) (bs : List B8) (e : Ending) (w' : World) : Prop := ∃ v, e = .returned v ∧ OwB w' v bs ∧ St No w (fpV v) w'

set_option maxRecDepth 100000 in
set_option maxHeartbeats 1000000 in
theorem clone4w_calls (a : Option Addr) (c : Nat) (xs : List B8) (hl : xs.length ≤ 140737488351300) (w : World) (ha : Bs w a xs) :
    Calls Try.prog 28 #[.slice a xs.length c] w (BOut w xs) := by
  have HA := Lib.hid ha
  clear ha
  go_enter Try.func28, Try.ntmps28
  go_wp2
  go_loopw [3, 4] (fun v i wr => ∃ k : Nat, k ≤ xs.length ∧ i = .int .i64 k ∧ Hid (OwB wr v (xs.take k)) ∧ Hid (St No w (fpV v) wr)) (fun _ i _ => xs.length - (intOf i).toNat)
  case atStart => exact ⟨0, by omega, rfl, Lib.hid (OwB.nil _), Lib.hid ((St.refl No w).drop (fun k hk => by simp [fpV, Value.ownBlock] at hk))⟩
  case round =>
    obtain ⟨k, hk, rfl, HO, HS⟩ := hrel
    by_cases hlt : k < xs.length
    · obtain ⟨x, hx, hc⟩ := (HA.out.st HS.out (Dj.no _)).at k hlt
      have hts : xs.take (k + 1) = xs.take k ++ [xs[k]] := List.take_succ_eq_append_getElem hlt
      have htl : (xs.take k).length = k := by simp; omega
      generalize xs[k] = x0 at *
      generalize xs.take k = pre at *
      have HTS := Lib.hid hts
      have HTL := Lib.hid htl
      have HX := Lib.hid hx
      subst hx
      clear hts htl
      go_wp2_with (at_builtin; refine wpList_appB rfl (.tmp 11) (.tmp 16) rfl _ pre rfl (HO.out.newB _) (some ⟨wr.heap.size, 0, none⟩) 1 1 [x0] rfl rfl (bs_oneB rfl) (fun h => by cases h) (by have := HTL.out; simp; omega) ?_; intro v2 w2 ho2 hs2 hn2; have HO2 := Lib.hid ho2; have HS2 := Lib.hid (hs2.oneB); clear ho2 hs2 hn2)
      go_roundw
      case rel => exact ⟨k + 1, by omega, by go_num, Lib.hid (by rw [HTS.out]; exact HO2.out), Lib.hid (HS.out.trans HS2.out)⟩
      case measure => simp [intOf]; omega
    · obtain rfl : k = xs.length := by omega
      have ho := HO.out
      rw [List.take_length] at ho
      have HO1 := Lib.hid ho
      clear ho HO
      go_wp2
      go_ret
      exact ⟨_, rfl, HO1.out, HS.out⟩

/-- bytes with room behind them that holds marks -/
def marks (xs : List B8) : List B8 := xs ++ List.replicate 24 165#8
theorem marks_len (xs : List B8) : (marks xs).length = xs.length + 24 := by simp [marks]
def Roomy (w : World) (g c : Nat) (xs : List B8) : Prop := OwB w (.slice (some ⟨g, 0, none⟩) (xs.length + 24) c) (marks xs)
theorem Own.front {w : World} {e g c n m : Nat} {xs : List Value} (h : Own w e 1 (.slice (some ⟨g, 0, none⟩) n c) n xs) (hm : m ≤ n) : Own w e 1 (.slice (some ⟨g, 0, none⟩) m c) m (xs.take m) := by
  obtain ⟨h1, h2⟩ := h
  refine ⟨by simp at h1 ⊢; omega, ?_⟩
  rcases h2 with ⟨h2, _⟩ | ⟨g', cap, cur, he, hg, hh, r1, r2, r3, r4⟩
  · cases h2
  · injection he with e1 e2 e3
    refine .inr ⟨g', cap, cur, by rw [e1, e3], hg, hh, by omega, r2, r3, ?_⟩
    rw [← r4, List.take_take, Nat.mul_one, Nat.mul_one, Nat.min_eq_left hm]
theorem Roomy.own {w : World} {g c : Nat} {xs : List B8} (h : Roomy w g c xs) : OwB w (.slice (some ⟨g, 0, none⟩) xs.length c) xs := by
  have h2 : Own w 5 1 (.slice (some ⟨g, 0, none⟩) (xs.length + 24) c) (xs.length + 24) (bv (marks xs)) := by
    have := h
    unfold Roomy OwB at this
    rw [marks_len] at this
    exact this
  have := h2.front (m := xs.length) (by omega)
  rw [bv_take] at this
  have e : (marks xs).take xs.length = xs := by simp [marks]
  rw [e] at this
  exact this
theorem Roomy.st {w w' : World} {g c : Nat} {xs : List B8} {F F' : Nat → Prop} (h : Roomy w g c xs) (s : St F w F' w') (hd : ¬ F g) : Roomy w' g c xs :=
  OwB.st h s (fun k hk hf => hd (by simp [fpV, Value.ownBlock] at hf; rw [hf]; exact hk))
def ROut (w : World) (xs : List B8) (e : Ending) (w' : World) : Prop :=
  ∃ g c, e = .returned (.slice (some ⟨g, 0, none⟩) xs.length c) ∧ xs.length + 24 ≤ c ∧ c ≤ maxLen ∧ Roomy w' g c xs ∧ w.heap.size ≤ g ∧ St No w No w'

set_option maxRecDepth 100000 in
set_option maxHeartbeats 1000000 in
theorem roomyw_calls (a : Option Addr) (c : Nat) (xs : List B8) (hl : xs.length ≤ 140737488351300) (w : World) (ha : Bs w a xs) :
    Calls Try.prog 31 #[.slice a xs.length c] w (ROut w xs) := by
  have HA := Lib.hid ha
  clear ha
  go_enter Try.func31, Try.ntmps31
  go_wp2_with fail
  refine (clone4w_calls a c xs hl w HA.out).mono ?_
  rintro e w1 ⟨v1, rfl, ho1, hs1⟩
  have HO1 : Hid (OwB w1 v1 (xs ++ List.replicate 0 165#8)) := Lib.hid (by simpa using ho1)
  have HS1 := Lib.hid hs1
  clear ho1 hs1
  go_wp2
  go_loopw [3, 4] (fun v i wr => ∃ k : Nat, k ≤ 24 ∧ i = .int .i64 k ∧ Hid (OwB wr v (xs ++ List.replicate k 165#8)) ∧ Hid (St No w (fpV v) wr)) (fun _ i _ => 24 - (intOf i).toNat)
  case atStart => exact ⟨0, by omega, rfl, HO1, HS1⟩
  case round =>
    clear HO1 HS1
    obtain ⟨k, hk, rfl, HO, HS⟩ := hrel
    by_cases hlt : k < 24
    · have hts : xs ++ List.replicate (k + 1) 165#8 = (xs ++ List.replicate k 165#8) ++ [165#8] := by rw [List.replicate_succ', List.append_assoc]
      have htl : (xs ++ List.replicate k 165#8).length = xs.length + k := by simp
      generalize xs ++ List.replicate k 165#8 = pre at *
      have HTS := Lib.hid hts
      have HTL := Lib.hid htl
      clear hts htl
      go_wp2_with (at_builtin; refine wpList_appB rfl (.tmp 11) (.tmp 12) rfl _ pre rfl (HO.out.newB _) (some ⟨wr.heap.size, 0, none⟩) 1 1 [165#8] rfl rfl (bs_oneB rfl) (fun h => by cases h) (by have := HTL.out; simp; omega) ?_; intro v2 w2 ho2 hs2 hn2; have HO2 := Lib.hid ho2; have HS2 := Lib.hid (hs2.oneB); clear ho2 hs2 hn2)
      go_roundw
      case rel => exact ⟨k + 1, by omega, by go_num, Lib.hid (by rw [HTS.out]; exact HO2.out), Lib.hid (HS.out.trans HS2.out)⟩
      case measure => simp [intOf]; omega
    · obtain rfl : k = 24 := by omega
      obtain ⟨b, d, rfl, h1, h2, h3, h4⟩ := HO.out.form
      cases b with
      | none => have := (h4 rfl).1; simp at this
      | some y =>
        obtain ⟨g, off, fl⟩ := y
        have hy : off = 0 ∧ fl = none := by
          rcases HO.out.2 with ⟨h, _⟩ | ⟨g', cap, cur, he, _⟩
          · cases h
          · injection he with e1; injection e1 with e1; injection e1 with e1 e2 e3; exact ⟨e2, e3⟩
        obtain ⟨rfl, rfl⟩ := hy
        have hlen : (xs ++ List.replicate 24 165#8).length = xs.length + 24 := by simp
        have HL := Lib.hid hlen
        rw [hlen] at h1
        rw [hlen]
        have hd : xs.length ≤ d := by omega
        have HD := Lib.hid h1
        have HD2 := Lib.hid h2
        unfold maxLen at h2
        clear hlen h3 h4 h1
        go_wp2
        go_ret
        refine ⟨g, d, rfl, HD.out, HD2.out, ?_, ?_, HS.out.drop (fun _ h => h.elim)⟩
        · have := HO.out
          rw [HL.out] at this
          exact this
        · exact (HS.out.new g (by simp [fpV, Value.ownBlock])).elim (fun h => h.elim) id

set_option maxRecDepth 100000 in
theorem num4_calls (x : Int) (w : World) : Calls Try.prog 36 #[.int .i64 x] w fun e w' => e = .returned (.int .i64 x) ∧ w = w' := by
  go_enter Try.func36, Try.ntmps36
  go_wp2
  go_ret
  exact ⟨rfl, rfl⟩

set_option maxRecDepth 100000 in
set_option maxHeartbeats 1000000 in
theorem roomKeptw_calls (g c : Nat) (xs : List B8) (hl : xs.length ≤ 140737488351300) (hc : xs.length + 24 ≤ c) (hcm : c ≤ maxLen) (w : World) (ha : Roomy w g c xs) :
    Calls Try.prog 35 #[.slice (some ⟨g, 0, none⟩) xs.length c] w fun e w' => e = .returned (.bool true) ∧ w = w' := by
  have HA := Lib.hid ha
  unfold maxLen at hcm
  clear ha
  go_enter Try.func35, Try.ntmps35
  go_wp2
  go_loopw [4] (fun i wr => ∃ k : Nat, k ≤ 24 ∧ i = .int .i64 ((xs.length + k : Nat) : Int) ∧ w = wr) (fun i _ => xs.length + 24 - (intOf i).toNat)
  case atStart => exact ⟨0, by omega, rfl, rfl⟩
  case round =>
    obtain ⟨k, hk, rfl, rfl⟩ := hrel
    by_cases hlt : k < 24
    · have hcell := HA.out.cell (xs.length + k) (by rw [marks_len]; omega)
      have e : (marks xs)[xs.length + k]'(by rw [marks_len]; omega) = 165#8 := by
        simp only [marks]
        rw [List.getElem_append_right (by omega), List.getElem_replicate]
      rw [e] at hcell
      replace hcell : w.cell? ⟨g, xs.length + k, none⟩ = some (.int .u8 165) := hcell
      clear e
      go_wp2
      go_roundw
      case rel => exact ⟨k + 1, by omega, by go_num, trivial⟩
      case measure => simp [intOf]; omega
    · obtain rfl : k = 24 := by omega
      go_wp2
      go_ret
      exact ⟨rfl, rfl⟩

/-- what a spoiling leaves: what was there but for the list's own block stays -/
def SpOut (w : World) (v : Value) (e : Ending) (w' : World) : Prop := e = .returned (.tuple #[]) ∧ ∃ F', St (fpV v) w F' w'
set_option maxRecDepth 100000 in
set_option maxHeartbeats 1000000 in
theorem spoilw_calls (v : Value) (xs : List B8) (hl : xs.length ≤ 140737488351300) (m : B8) (w : World) (ho : OwB w v xs) :
    Calls Try.prog 37 #[v, .int .u8 (m.toNat : Int)] w (SpOut w v) := by
  obtain ⟨a, c, rfl, hc1, hc2, hfp, hn⟩ := ho.form
  have HO := Lib.hid ho
  have HFP := Lib.hid hfp
  have HN := Lib.hid hn
  clear ho hfp hn hc1 hc2
  go_enter Try.func37, Try.ntmps37
  go_wp2
  go_loopw [4] (fun i wr => ∃ (k : Nat) (ys : List B8), k ≤ xs.length ∧ i = .int .i64 k ∧ Hid (ys.length = xs.length) ∧ Hid (OwB wr (.slice a xs.length c) ys) ∧ Hid (St (fpV (.slice a xs.length c)) w (fpV (.slice a xs.length c)) wr)) (fun i _ => xs.length - (intOf i).toNat)
  case atStart => exact ⟨0, xs, by omega, rfl, Lib.hid rfl, HO, Lib.hid (St.refl _ _)⟩
  case round =>
    obtain ⟨k, ys, hk, rfl, HYL, HOY, HS⟩ := hrel
    by_cases hlt : k < xs.length
    · cases a with
      | none => have := (HN.out rfl).1; omega
      | some y =>
        obtain ⟨g, off, fl⟩ := y
        have hy : off = 0 ∧ fl = none := by
          rcases HOY.out.2 with ⟨h, _⟩ | ⟨g', cap, cur, he, _⟩
          · cases h
          · injection he with e1; injection e1 with e1; injection e1 with e1 e2 e3; exact ⟨e2, e3⟩
        obtain ⟨rfl, rfl⟩ := hy
        have hcell := HOY.out.cell k (by rw [HYL.out]; exact hlt)
        have hfree := HOY.out.free k
        generalize ys[k]'(by rw [HYL.out]; exact hlt) = y0 at hcell
        have HST : Hid (OwB (wr.setCell ⟨g, k, none⟩ (.int .u8 (m.toNat : Int))) (.slice (some ⟨g, 0, none⟩) xs.length c) (ys.set k m)) := Lib.hid (HOY.out.set HYL.out.symm k m)
        have HSS : Hid (St (fpV (.slice (some ⟨g, 0, none⟩) xs.length c)) w (fpV (.slice (some ⟨g, 0, none⟩) xs.length c)) (wr.setCell ⟨g, k, none⟩ (.int .u8 (m.toNat : Int)))) := Lib.hid (HS.out.trans (St.setCell _ _ _ (by simp [fpV, Value.ownBlock])))
        go_wp2
        go_roundw
        case rel => exact ⟨k + 1, ys.set k m, by omega, by go_num, Lib.hid (by rw [List.length_set]; exact HYL.out), HST, HSS⟩
        case measure => simp [intOf]; omega
    · obtain rfl : k = xs.length := by omega
      have HO1 : Hid (OwB wr (.slice a xs.length c) ys) := HOY
      have HS1 := HS
      have HYL1 := HYL
      obtain ⟨wo, rfl⟩ : ∃ wo : World, wo = wr := ⟨_, rfl⟩
      clear HOY HS HYL
      go_wp2
      go_loopw [0, 5] (fun v i wr => ∃ (k : Nat) (zs : List B8), k ≤ 40 ∧ i = .int .i64 k ∧ Hid (zs.length = xs.length + k) ∧ Hid (OwB wr v zs) ∧ Hid (St (fpV (.slice a xs.length c)) w (fpV v) wr)) (fun _ i _ => 40 - (intOf i).toNat)
      case atStart => exact ⟨0, ys, by omega, rfl, HYL1, HO1, HS1⟩
      case round =>
        clear HO1 HS1 HYL1
        obtain ⟨k, zs, hk, rfl, HZL, HOZ, HSZ⟩ := hrel
        by_cases hlt : k < 40
        · have hm1 : ((m.toNat : Int) + 1) % 256 = (((m + 1#8 : B8)).toNat : Int) := by rw [BitVec.toNat_add]; simp
          have HM := Lib.hid hm1
          clear hm1
          go_wp2_with (at_builtin; refine wpList_appB rfl (.tmp 20) (.tmp 23) rfl _ zs rfl (HOZ.out.newB _) (some ⟨wr.heap.size, 0, none⟩) 1 1 [m + 1#8] rfl rfl (bs_oneB (by first | exact HM.out | (rw [← HM.out, IntKind.wrap_u8]))) (fun h => by cases h) (by have := HZL.out; simp; omega) ?_; intro v2 w2 ho2 hs2 hn2; have HO2 := Lib.hid ho2; have HS2 := Lib.hid (hs2.oneB); clear ho2 hs2 hn2)
          go_roundw
          case rel => exact ⟨k + 1, zs ++ [m + 1#8], by omega, by go_num, Lib.hid (by rw [List.length_append, HZL.out]; rfl), HO2, Lib.hid (HSZ.out.trans HS2.out)⟩
          case measure => simp [intOf]; omega
        · obtain rfl : k = 40 := by omega
          go_wp2
          go_end0
          exact ⟨rfl, _, HSZ.out⟩

theorem clone4_calls (a : Option Addr) (c : Nat) (xs : List B8) (hl : xs.length ≤ 140737488351232) (w : World) (ha : Bs w a xs) :
    Calls Try.prog 28 #[.slice a xs.length c] w (BOut w xs) :=
  clone4w_calls a c xs (by omega) w ha
theorem roomy_calls (a : Option Addr) (c : Nat) (xs : List B8) (hl : xs.length ≤ 140737488351232) (w : World) (ha : Bs w a xs) :
    Calls Try.prog 31 #[.slice a xs.length c] w (ROut w xs) :=
  roomyw_calls a c xs (by omega) w ha
theorem roomKept_calls (g c : Nat) (xs : List B8) (hl : xs.length ≤ 140737488351232) (hc : xs.length + 24 ≤ c) (hcm : c ≤ maxLen) (w : World) (ha : Roomy w g c xs) :
    Calls Try.prog 35 #[.slice (some ⟨g, 0, none⟩) xs.length c] w fun e w' => e = .returned (.bool true) ∧ w = w' :=
  roomKeptw_calls g c xs (by omega) hc hcm w ha
theorem spoil_calls (v : Value) (xs : List B8) (hl : xs.length ≤ 140737488351232) (m : B8) (w : World) (ho : OwB w v xs) :
    Calls Try.prog 37 #[v, .int .u8 (m.toNat : Int)] w (SpOut w v) :=
  spoilw_calls v xs (by omega) m w ho
end Go.Proofs.Ytoeafacamapofaa
