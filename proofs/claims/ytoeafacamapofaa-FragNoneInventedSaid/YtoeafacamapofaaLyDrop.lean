
/-
  The walks over the network: Drop; the statements' inside and among.
-/
import Derived.Test.YtoeafacamapofaaLyTake
namespace Go.Proofs.Ytoeafacamapofaa
open Go.RowKit
set_option linter.unusedVariables false
set_option linter.unusedSimpArgs false

/-- numbers as the program's values -/
def iv (xs : List Int) : List Value := xs.map fun x => .int .i64 x
def Is (w : World) (a : Option Addr) (xs : List Int) : Prop := Rd w a (iv xs)
theorem Is.at {w : World} {a : Option Addr} {xs : List Int} (h : Is w a xs) (i : Nat) (hi : i < xs.length) : ∃ x, a = some x ∧ w.cell? (x.add i) = some (.int .i64 xs[i]) := h i _ (by simp [iv, hi])
theorem Is.st {w w' : World} {a : Option Addr} {xs : List Int} {F' : Nat → Prop} (h : Is w a xs) (s : St No w F' w') : Is w' a xs := Rd.st h s (Dj.no _)
theorem intInfo : (Try.prog.info? 3).map (fun i => (i.zero, i.size, i.bytes)) = some (some (.int .i64 0), 1, 8) := by kernel_rfl
theorem wpList_makeI {w : World} {ops : Array Oper} {rest : List Oper} {o : Oper} {ac : Act} {Q : Exit → Act → World → Prop} (hgd : o.guard = none) (l c : Operand)
    (ho : o.op = .makeSlice 22 l c) (kl kc : IntKind) (L C : Int) (n : Nat) (hl : ac.eval l = .int kl L) (hc : ac.eval c = .int kc C) (hL : L = (n : Int)) (hC : C = (n : Int)) (hn : n ≤ 35184372088832)
    (h : ∀ w', Ob w' w.heap.size 3 (iv (List.replicate n 0)).toArray → St No w (fun k => k = w.heap.size) w' →
      wpList Try.prog ops Q rest (ac.put o.dst (.slice (some ⟨w.heap.size, 0, none⟩) n n)) w') : wpList Try.prog ops Q (o :: rest) ac w := by
  refine wpList_plain hgd fun K hK => ?_
  obtain ⟨i, hi, hz, hs, hb⟩ := info_parts intInfo
  subst hL
  subst hC
  have hr := run_make (P := Try.prog) w 22 3 i (.int .i64 0) Try.underlying22 hi hz kl kc n n (by omega) (by omega) (by rw [hb]; omega) (by omega)
  rw [hs] at hr
  simp only [Int.toNat_natCast, Nat.mul_one] at hr
  have hcs : madeCells (Value.int .i64 0).cells n = (iv (List.replicate n 0)).toArray := by
    apply Array.ext'
    rw [show (Value.int .i64 0).cells = #[Value.int .i64 0] from rfl, toList_madeCells_one]
    simp [iv]
  rw [hcs] at hr
  unfold Oper.wp
  simp only [execOp, ho, Sem.run_bind, Sem.run_pure, hl, hc, hr, Result.andThen_ok]
  exact hK _ _ (h _ (Ob.alloc w _ _) ((St.alloc No w _).drop (fun k hk => .inr (.inr hk))))
/-- the places that are named -/
def insideB (ats : List Int) (n : Nat) : Bool := ats.all fun i => decide (0 ≤ i ∧ i < (n : Int))
def DropPost (w : World) (F : Nat → Prop) (p : Nat) (rs : List DR) (ats : List Int) (e : Ending) (w' : World) : Prop :=
  (insideB ats rs.length = true ∧ e = .returned (.tuple #[.int .i64 ((rs.length : Int) - ((keepI (fun i => ats.contains (i : Int)) 0 rs).length : Int)), .int .i64 0]) ∧ ∃ F', Nt w' F' p (keepI (fun i => ats.contains (i : Int)) 0 rs) ∧ St F w F' w') ∨
  (insideB ats rs.length = false ∧ e = .returned (.tuple #[.int .i64 0, .int .i64 54]) ∧ Nt w' F p rs ∧ St F w F w')
theorem cnt_set (cnt : List Int) (ats : List Int) (k : Nat) (hk : k < ats.length) (j : Nat) (hj : (j : Int) = ats[k]) (hl : j < cnt.length) (h : ∀ i, i < cnt.length → cnt.getD i 0 = ((ats.take k).count (i : Int) : Int)) :
    ∀ i, i < (cnt.set j (cnt.getD j 0 + 1)).length → (cnt.set j (cnt.getD j 0 + 1)).getD i 0 = ((ats.take (k + 1)).count (i : Int) : Int) := by
  intro i hi
  rw [List.length_set] at hi
  rw [List.take_succ_eq_append_getElem hk, List.count_append, ← hj]
  by_cases hij : i = j
  · subst hij
    rw [List.getD_eq_getElem?_getD, List.getElem?_set_self hl]
    have := h i hi
    rw [Option.getD_some, this]
    simp
  · rw [List.getD_eq_getElem?_getD, List.getElem?_set_ne (Ne.symm hij), ← List.getD_eq_getElem?_getD, h i hi]
    have : ¬ ((j : Int) = (i : Int)) := by omega
    simp [List.count_singleton, this]
theorem St.thn2 {H : Nat → Prop} {w a b : World} (h : St No w (Nw w) a) (k : St (Nw w) a H b) : St No w (Nw w) b :=
  ⟨k.os.trans h.os, k.tape.trans h.tape, k.output.trans h.output, Nat.le_trans h.size k.size, fun i hi hn => (k.block i (Nat.lt_of_lt_of_le hi h.size) (fun h => absurd hi (Nat.not_lt.2 h))).trans (h.block i hi hn), fun i hi => .inr hi⟩
theorem keepI_congr {q q' : Nat → Bool} (rs : List DR) (i0 : Nat) (h : ∀ i, i0 ≤ i → i < i0 + rs.length → q i = q' i) : keepI q i0 rs = keepI q' i0 rs := by
  induction rs generalizing i0 with
  | nil => rfl
  | cons r rs ih =>
    simp only [List.length_cons] at h
    simp only [keepI]
    rw [h i0 (Nat.le_refl _) (by omega), ih (i0 + 1) (fun i h1 h2 => h i (by omega) (by omega))]
theorem insideB_snoc (ats : List Int) (n k : Nat) (hk : k < ats.length) : insideB (ats.take (k + 1)) n = (insideB (ats.take k) n && decide (0 ≤ ats[k] ∧ ats[k] < (n : Int))) := by
  unfold insideB
  rw [List.take_succ_eq_append_getElem hk, List.all_append]
  simp
theorem insideB_false (ats : List Int) (n k : Nat) (hk : k < ats.length) (h : ¬ (0 ≤ ats[k] ∧ ats[k] < (n : Int))) : insideB ats n = false := by
  unfold insideB
  rw [List.all_eq_false]
  exact ⟨ats[k], List.getElem_mem hk, by simpa using h⟩
set_option maxRecDepth 100000 in
set_option maxHeartbeats 2000000 in
theorem drop_calls (a : Option Addr) (c : Nat) (ats : List Int) (hna : ats.length ≤ 35184372088832) (hwf : ∀ i ∈ ats, -9223372036854775808 ≤ i ∧ i ≤ 9223372036854775807) (w : World) (F : Nat → Prop) (p : Nat) (rs : List DR) (h : Nt w F p rs) (hi : Is w a ats) :
    Calls Try.prog 22 #[.pointer (some ⟨p, 0, none⟩), .slice a ats.length c] w (DropPost w F p rs ats) := by
  have HN := Lib.hid h
  have HIS := Lib.hid hi
  obtain ⟨va, vc, d0, d1, hr4⟩ := h.open
  have hpl : p < w.heap.size := World.block_lt_of_cell? w _ d0
  have HWF := Lib.hid hwf
  clear h hi hwf
  have hmf : ∀ (fn : Fn) (first cap : Array Value) (w : World), (Instr.makeFunc fn first cap).run Try.prog w = .ok (.func fn first cap) w := fun _ _ _ _ => rfl
  go_enter Try.func22, Try.ntmps22
  go_wp2_with (at_make; refine wpList_makeI rfl (.tmp 15) (.tmp 15) rfl .i64 .i64 (rs.length : Int) (rs.length : Int) rs.length rfl rfl rfl rfl (by omega) ?_; intro w1 ho1 hs1; have HO1 := Lib.hid ho1; have HS1 := Lib.hid hs1; clear ho1 hs1)
  have hnm0 : Named (w1.alloc (.cells #[.slice (some ⟨w.heap.size, 0, none⟩) rs.length rs.length] 22)) w1.heap.size w.heap.size (List.replicate rs.length 0) := by
    refine ⟨?_, HO1.out.move (Below.heap_alloc _ _ _ HO1.out.lt)⟩
    have := Ob.alloc w1 #[.slice (some ⟨w.heap.size, 0, none⟩) rs.length rs.length] 22
    simpa using this
  have HNM0 := Lib.hid hnm0
  have hgn : w.heap.size < w1.heap.size := HO1.out.lt
  clear hnm0
  go_loopw [19] (fun t wr => ∃ (k : Nat) (cnt : List Int), k ≤ ats.length ∧ t = .int .i64 k ∧ Hid (cnt.length = rs.length) ∧ Hid (Named wr w1.heap.size w.heap.size cnt) ∧ Hid (∀ i, i < cnt.length → cnt.getD i 0 = ((ats.take k).count (i : Int) : Int)) ∧ Hid (insideB (ats.take k) rs.length = true) ∧ Hid (St No w (Nw w) wr)) (fun t _ => ats.length - (intOf t).toNat)
  case atStart =>
    refine ⟨0, List.replicate rs.length 0, by omega, rfl, Lib.hid (by simp), HNM0, Lib.hid (fun i hi => ?_), Lib.hid rfl, Lib.hid (HS1.out.then (St.alloc' No w1 _))⟩
    simp at hi
    rw [List.getD_eq_getElem?_getD, List.getElem?_replicate, if_pos hi]
    simp
  case round =>
    clear HNM0 HO1
    obtain ⟨k, cnt, hk, rfl, HCL, HNM, HCS, HIN, HS⟩ := hrel
    have hnt := HN.out.st HS.out (Dj.no _)
    by_cases hlt : k < ats.length
    · obtain ⟨y, rfl, hc⟩ := HIS.out.at k hlt
      have hcr : wr.cell? (y.add k) = some (.int .i64 ats[k]) := (World.cell?_of_block (HS.out.block _ (World.block_lt_of_cell? w _ hc) (fun h => h))).trans hc
      have hsn := insideB_snoc ats rs.length k hlt
      have hfl := insideB_false ats rs.length k hlt
      have hcs := fun j hj hl => cnt_set cnt ats k hlt j hj hl HCS.out
      have hxw := HWF.out _ (List.getElem_mem hlt)
      have hcb : ∀ j : Nat, ((ats.take k).count (j : Int) : Int) ≤ 35184372088832 := fun j => by
        have h1 := List.count_le_length (a := (j : Int)) (l := ats.take k)
        rw [List.length_take] at h1
        omega
      have HTH := Lib.hid (there_calls ats[k] wr F p rs hnt)
      generalize ats[k] = x at *
      have HSN := Lib.hid hsn
      have HFL := Lib.hid hfl
      have HCT := Lib.hid hcs
      have HCB := Lib.hid hcb
      clear hsn hfl hcs hc hcb
      by_cases hins : 0 ≤ x ∧ x < (rs.length : Int)
      · rw [if_pos hins] at HTH
        obtain ⟨j, rfl⟩ := Int.eq_ofNat_of_zero_le hins.1
        have hjl : j < cnt.length := by rw [HCL.out]; omega
        have e0 : wr.cell? ⟨w1.heap.size, 0, none⟩ = some (.slice (some ⟨w.heap.size, 0, none⟩) rs.length rs.length) := by rw [HNM.out.1.cell 0, HCL.out]; rfl
        have e1 := HNM.out.cell j hjl
        have hgd : cnt.getD j 0 = cnt[j] := by simp [hjl]
        have hcv := HCS.out j hjl
        rw [hgd] at hcv
        have hcb := HCB.out j
        have hnx := HCT.out j rfl hjl
        rw [hgd] at hnx
        generalize hcx : cnt[j] = cx at *
        have e2 := HNM.out.2.free j
        have hc0 : 0 ≤ cx := by omega
        have hc1 : cx ≤ 35184372088832 := by omega
        have HNX := Lib.hid hnx
        have hjr : (j : Int) < (rs.length : Int) := hins.2
        clear hcv hcb hnx hgd hcx
        go_wp2_with (go_at_call 63; refine HTH.out.mono ?_; rintro e w2 ⟨rfl, rfl⟩)
        refine ⟨⟨k + 1, cnt.set j (cx + 1), by omega, by simp, Lib.hid (by rw [List.length_set]; exact HCL.out), Lib.hid ⟨?_, ?_⟩, HNX, Lib.hid ?_, Lib.hid (HS.out.thn2 (St.setCell (F := Nw w) _ _ _ (Nat.le_refl _)))⟩, by simp [intOf]; omega⟩
        · rw [List.length_set]
          exact HNM.out.1.move (Below.heap_setCell _ _ _ _ (by simp; omega))
        · have := HNM.out.2.set j (.int .i64 (cx + 1))
          rw [show (List.map (fun x => Value.int IntKind.i64 x) (cnt.set j (cx + 1))).toArray = ((cnt.map (fun x => Value.int .i64 x)).toArray).setIfInBounds j (.int .i64 (cx + 1)) by simp [List.map_set]]
          exact this
        · rw [HSN.out, HIN.out, decide_eq_true hins]; rfl
      · rw [if_neg hins] at HTH
        go_wp2_with (go_at_call 63; refine HTH.out.mono ?_; rintro e w2 ⟨rfl, rfl⟩)
        go_ret2
        exact .inr ⟨HFL.out hins, rfl, HN.out.st HS.out (Dj.no _), HS.out.wide (fun _ h => h.elim) (fun k hk => .inl hk)⟩
    · obtain rfl : k = ats.length := by omega
      have HTT : Hid (ats.take ats.length = ats) := Lib.hid List.take_length
      rw [HTT.out] at HCS HIN
      have hkc : keepI (fun i => decide (0 < cnt.getD i 0)) 0 rs = keepI (fun i => ats.contains (i : Int)) 0 rs := by
        refine keepI_congr rs 0 (fun i _ hi => ?_)
        have := HCS.out i (by rw [HCL.out]; omega)
        rw [this]
        by_cases hm : (i : Int) ∈ ats
        · have h1 : 0 < ats.count (i : Int) := List.count_pos_iff.2 hm
          simp [hm]
        · have h1 : ats.count (i : Int) = 0 := List.count_eq_zero.2 hm
          simp [hm, h1]
      have HTK := Lib.hid (takeN_calls wr F p rs hnt w1.heap.size w.heap.size cnt HNM.out HCL.out)
      rw [hkc] at HTK
      obtain ⟨L, hL⟩ : ∃ L, keepI (fun i => ats.contains (i : Int)) 0 rs = L := ⟨_, rfl⟩
      rw [hL] at HTK
      have HL := Lib.hid hL
      clear hkc hnt hL
      go_wp2_with (go_at_call 64; refine HTK.out.mono ?_; rintro e w3 ⟨rfl, F', hn3, hs3⟩; have HN3 := Lib.hid hn3; have HS3 := Lib.hid hs3; clear hn3 hs3)
      go_ret2
      unfold DropPost
      rw [HL.out]
      exact .inl ⟨HIN.out, rfl, F', HN3.out, (HS.out.wide (F' := F) (G' := F) (fun _ h => h.elim) (fun k hk => .inl hk)).trans HS3.out⟩
end Go.Proofs.Ytoeafacamapofaa
