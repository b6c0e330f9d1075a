
/-
  The program's Joiner: begin.
-/
import Derived.Test.YtoeafacamapofaaJnMore
namespace Go.Proofs.Ytoeafacamapofaa
open Go.RowKit
set_option linter.unusedVariables false
set_option linter.unusedSimpArgs false

/-- how many slots of a source; its first one -/
def srcN (a : Int) (ss : List SM) : Nat := (ss.filter (fun s => decide (s.key.1 = a))).length
def firstK (a : Int) (ss : List SM) : Nm := ((ss.find? (fun s => decide (s.key.1 = a))).map (·.key)).getD (0, 0)
theorem srcN_snoc (a : Int) (ss : List SM) (s : SM) : srcN a (ss ++ [s]) = srcN a ss + (if s.key.1 = a then 1 else 0) := by
  unfold srcN
  rw [List.filter_append, List.length_append]
  by_cases h : s.key.1 = a <;> simp [h]
theorem srcN_le (a : Int) (ss : List SM) : srcN a ss ≤ ss.length := List.length_filter_le _ _
theorem firstK_snoc (a : Int) (ss : List SM) (s : SM) : firstK a (ss ++ [s]) = if s.key.1 = a ∧ srcN a ss = 0 then s.key else firstK a ss := by
  unfold firstK srcN
  rw [List.find?_append]
  cases h : ss.find? (fun s => decide (s.key.1 = a)) with
  | none =>
    have hf : ss.filter (fun s => decide (s.key.1 = a)) = [] := by
      rw [List.filter_eq_nil_iff]
      exact List.find?_eq_none.1 h
    rw [hf]
    by_cases hs : s.key.1 = a <;> simp [hs]
  | some t =>
    have hm := List.mem_of_find?_eq_some h
    have hp := List.find?_some h
    have hne : (ss.filter (fun s => decide (s.key.1 = a))).length ≠ 0 := by
      intro e
      have := List.eq_nil_of_length_eq_zero e
      have : t ∈ ss.filter (fun s => decide (s.key.1 = a)) := List.mem_filter.2 ⟨hm, hp⟩
      simp_all
    rw [if_neg (fun h => hne h.2)]
    rfl
theorem new1 (w : World) (o : Obj) : St No w (Nw w) (w.alloc o) := (St.alloc' No w o).toNew
/-- what is left where a slot is begun -/
def beginS (sl : Nat) (x : Nm) (ss : List SM) : List SM := if sl ≤ srcN x.1 ss then keepS (fun y => decide (y = firstK x.1 ss)) ss else ss
def BeginJ (w : World) (pj bm : Nat) (V : Value) (D : Nat → Prop) (sl ag : Nat) (ss : List SM) (x : Nm) (total count : Nat) (e : Ending) (w' : World) : Prop :=
  ∃ p g V', e = .returned (.pointer (some ⟨p, 0, none⟩)) ∧ Jm w' pj bm V' D sl ag (beginS sl x ss ++ [newSM x p g total count]) ∧ St (fpJ pj bm V D ss) w (fpJ pj bm V' D (beginS sl x ss ++ [newSM x p g total count])) w'
set_option maxRecDepth 100000 in
set_option maxHeartbeats 2000000 in
theorem begin_calls (w : World) (pj bm : Nat) (V : Value) (D : Nat → Prop) (sl ag : Nat) (ss : List SM) (hlen : ss.length ≤ 65536) (h : Jm w pj bm V D sl ag ss) (x1 x2 : Int) (hx : 0 ≤ x1 ∧ x1 < 255) (hnew : ∀ s ∈ ss, s.key ≠ (x1, x2))
    (idv ix : Int) (total count : Nat) (ht : total ≤ 4096) (hc : count ≤ 128) (pv : Value) :
    Calls Try.prog 94 #[.pointer (some ⟨pj, 0, none⟩), nmV (x1, x2), .agg #[.int .u64 idv, .int .i64 ix, .int .i64 count, .int .i64 total, pv]] w (BeginJ w pj bm V D sl ag ss (x1, x2) total count) := by
  have HJ := Lib.hid h
  obtain ⟨va, vc, rfl, hv1, hv2, hv3, hv4⟩ := h.ord.form
  have hpl := h.ob.lt
  have hbl := h.mp.lt
  have hpb : pj ≠ bm := by have := h.apart; simp at this; exact this.1.1
  obtain ⟨i, hi, hz, hsz, hby⟩ := info_parts nminfo
  have HI := Lib.hid hi
  have HZ := Lib.hid hz
  have HSZ := Lib.hid hsz
  have HBY := Lib.hid hby
  have HNEW := Lib.hid hnew
  have HX := Lib.hid hx
  have hmf : ∀ (fn : Fn) (first cap : Array Value) (w : World), (Instr.makeFunc fn first cap).run Try.prog w = .ok (.func fn first cap) w := fun _ _ _ _ => rfl
  have HA3 : Hid (Ob (((w.alloc (.cells #[.int .u8 x1, .int .u64 x2] 174)).alloc (.cells #[.int .u64 idv, .int .i64 ix, .int .i64 count, .int .i64 total, pv] 70)).alloc (.cells #[.int .u8 0, .int .u64 0] 174)) w.heap.size 174 #[.int .u8 x1, .int .u64 x2]) := Lib.hid ((Below.heap_alloc _ _ _ (by simp; omega)).trans (lmid2 w _ _))
  have HB3 : Hid (Ob (((w.alloc (.cells #[.int .u8 x1, .int .u64 x2] 174)).alloc (.cells #[.int .u64 idv, .int .i64 ix, .int .i64 count, .int .i64 total, pv] 70)).alloc (.cells #[.int .u8 0, .int .u64 0] 174)) (w.heap.size + 1) 70 #[.int .u64 idv, .int .i64 ix, .int .i64 count, .int .i64 total, pv]) := Lib.hid ((Below.heap_alloc _ _ _ (by simp)).trans (lnew2 w _ _))
  have HC3 : Hid (Ob (((w.alloc (.cells #[.int .u8 x1, .int .u64 x2] 174)).alloc (.cells #[.int .u64 idv, .int .i64 ix, .int .i64 count, .int .i64 total, pv] 70)).alloc (.cells #[.int .u8 0, .int .u64 0] 174)) (w.heap.size + 1 + 1) 174 #[.int .u8 0, .int .u64 0]) := Lib.hid (by have := Ob.alloc ((w.alloc (.cells #[.int .u8 x1, .int .u64 x2] 174)).alloc (.cells #[.int .u64 idv, .int .i64 ix, .int .i64 count, .int .i64 total, pv] 70)) #[.int .u8 0, .int .u64 0] 174; simpa using this)
  have HS3 : Hid (St No w (Nw w) (((w.alloc (.cells #[.int .u8 x1, .int .u64 x2] 174)).alloc (.cells #[.int .u64 idv, .int .i64 ix, .int .i64 count, .int .i64 total, pv] 70)).alloc (.cells #[.int .u8 0, .int .u64 0] 174))) := Lib.hid (((St.alloc' No w _).then (St.alloc' No _ _)).then (St.alloc' No _ _))
  have HZ3 : Hid ((((w.alloc (.cells #[.int .u8 x1, .int .u64 x2] 174)).alloc (.cells #[.int .u64 idv, .int .i64 ix, .int .i64 count, .int .i64 total, pv] 70)).alloc (.cells #[.int .u8 0, .int .u64 0] 174)).heap.size = w.heap.size + 3) := Lib.hid (by simp)
  have d3 : (((w.alloc (.cells #[.int .u8 x1, .int .u64 x2] 174)).alloc (.cells #[.int .u64 idv, .int .i64 ix, .int .i64 count, .int .i64 total, pv] 70)).alloc (.cells #[.int .u8 0, .int .u64 0] 174)).cell? ⟨pj, 3, none⟩ = some (.slice va ss.length vc) := by rw [(h.ob.move (HS3.out.block pj hpl (fun h => h))).cell 3]; rfl
  have hqm : ∀ (w : World) (r : Option Nat), (binOp .eql 161 (.map r) (.map none)).run Try.prog w = .ok (.bool r.isNone) w := fun w r => run_eql_map_nil w _ _ _ r Try.underlying161
  simp only [nmV, key2]
  clear h hv1 hv2 hv3 hv4 hi hz hsz hby hnew hx
  go_enter Try.func94, Try.ntmps94
  go_wp2
  generalize (((w.alloc (.cells #[.int .u8 x1, .int .u64 x2] 174)).alloc (.cells #[.int .u64 idv, .int .i64 ix, .int .i64 count, .int .i64 total, pv] 70)).alloc (.cells #[.int .u8 0, .int .u64 0] 174)) = w3 at *
  clear d3
  go_loopw [7, 17] (fun x t wr => ∃ (k : Nat), k ≤ ss.length ∧ t = .int .i64 k ∧ x = .int .i64 (srcN x1 (ss.take k)) ∧ Hid (Ob wr (w.heap.size + 1 + 1) 174 #[.int .u8 (firstK x1 (ss.take k)).1, .int .u64 (firstK x1 (ss.take k)).2]) ∧ Hid (St (fpB (w.heap.size + 1 + 1)) w3 (Nb w3 (w.heap.size + 1 + 1)) wr)) (fun _ t _ => ss.length - (intOf t).toNat)
  case atStart =>
    exact ⟨0, by omega, rfl, rfl, HC3, Lib.hid ⟨rfl, rfl, rfl, Nat.le_refl _, fun _ _ _ => rfl, fun _ h => h⟩⟩
  case round =>
    obtain ⟨k, hk, rfl, rfl, HC, HS⟩ := hrel
    have hz3 := HZ3.out
    have hwr := HS.out.size
    have hoa := HA3.out.move (HS.out.block _ HA3.out.lt (fun e => by have e' : w.heap.size = w.heap.size + 1 + 1 := e; omega))
    have hsl : srcN x1 (ss.take k) ≤ 65536 := by have := srcN_le x1 (ss.take k); rw [List.length_take] at this; omega
    by_cases hlt : k < ss.length
    · obtain ⟨s, hs⟩ : ∃ s, ss[k] = s := ⟨_, rfl⟩
      have hsn : srcN x1 (ss.take (k + 1)) = srcN x1 (ss.take k) + (if s.key.1 = x1 then 1 else 0) := by rw [List.take_succ_eq_append_getElem hlt, srcN_snoc, hs]
      have hfn : firstK x1 (ss.take (k + 1)) = if s.key.1 = x1 ∧ srcN x1 (ss.take k) = 0 then s.key else firstK x1 (ss.take k) := by rw [List.take_succ_eq_append_getElem hlt, firstK_snoc, hs]
      have hws := HS3.out.thenN HS.out (fun j hj => by have e : j = w.heap.size + 1 + 1 := hj; omega)
      have hown := HJ.out.ord.st hws (Dj.no _)
      rw [← List.flatMap_map] at hown
      obtain ⟨y, rfl⟩ := rowL_some (rs := ss.map (·.key)) nmC_len (by decide) hown k (by simpa using hlt)
      have hel := fun j v => rowL_elem nmC_len hown k s.key (by simp [hlt, hs]) j v
      have hcc := HC.out
      generalize hfk : firstK x1 (ss.take k) = fk at *
      obtain ⟨f1, f2⟩ := fk
      obtain ⟨u0, u1, v0, v1⟩ := hcc.two
      have a0 : wr.cell? ⟨w.heap.size, 0, none⟩ = some (.int .u8 x1) := by rw [hoa.cell 0]; rfl
      have q1 : w.heap.size ≠ wr.heap.size := by omega
      have q2 : w.heap.size + 1 + 1 ≠ wr.heap.size := by omega
      have l1 : w.heap.size < wr.heap.size := by omega
      have l2 : w.heap.size + 1 + 1 < wr.heap.size := by omega
      clear hz3 hwr
      have HOA := Lib.hid hoa
      have HSN := Lib.hid hsn
      have HFN := Lib.hid hfn
      have HFK := Lib.hid hfk
      clear hsn hfn hfk hws hown hoa hcc hs
      obtain ⟨⟨y1, y2⟩, sp, sg, stt, sgt, sag, sps⟩ := s
      have c0 : wr.cell? (y.add (k * 2)) = some (.int .u8 y1) := hel 0 _ (by decide) rfl
      have c1 : wr.cell? ⟨(y.add (k * 2)).block, (y.add (k * 2)).off + 1, none⟩ = some (.int .u64 y2) := hel 1 _ (by decide) rfl
      clear hel
      generalize hsr : srcN x1 (ss.take k) = m at *
      have HSR := Lib.hid hsr
      clear hsr
      by_cases hy : x1 = y1
      · subst hy
        by_cases hm : m = 0
        · subst hm
          go_wp2
          have hlc := HC.out.lt
          refine ⟨⟨k + 1, by omega, by simp, ?_, Lib.hid ?_, Lib.hid ?_⟩, by simp [intOf]; omega⟩
          · rw [HSN.out, if_pos rfl]; rfl
          · rw [HFN.out, if_pos ⟨rfl, rfl⟩]
            exact ((HC.out.set 0 _).set 1 _).move (Below.heap_alloc _ _ _ (by simpa [World.setCell] using hlc))
          · exact ((HS.out.nb (St.setCell (F := fpB (w.heap.size + 1 + 1)) wr ⟨w.heap.size + 1 + 1, 0, none⟩ _ rfl) (fun j hj => .inl hj)).nb (St.setCell (F := fpB (w.heap.size + 1 + 1)) _ ⟨w.heap.size + 1 + 1, 1, none⟩ _ rfl) (fun j hj => .inl hj)).nb (St.alloc' No _ _) (fun j hj => hj.elim)
        · go_wp2
          have hlc := HC.out.lt
          refine ⟨⟨k + 1, by omega, by simp, ?_, Lib.hid ?_, Lib.hid ?_⟩, by simp [intOf]; omega⟩
          · rw [HSN.out, if_pos rfl]; simp
          · rw [HFN.out, if_neg (fun h => hm h.2)]
            exact HC.out.move (Below.heap_alloc _ _ _ hlc)
          · exact HS.out.nb (St.alloc' No _ _) (fun j hj => hj.elim)
      · go_wp2
        have hlc := HC.out.lt
        refine ⟨⟨k + 1, by omega, by simp, ?_, Lib.hid ?_, Lib.hid ?_⟩, by simp [intOf]; omega⟩
        · rw [HSN.out, if_neg (fun h => hy h.symm)]; simp
        · rw [HFN.out, if_neg (fun h => hy h.1.symm)]
          exact HC.out.move (Below.heap_alloc _ _ _ hlc)
        · exact HS.out.nb (St.alloc' No _ _) (fun j hj => hj.elim)
    · obtain rfl : k = ss.length := by omega
      have HTK : Hid (ss.take ss.length = ss) := Lib.hid List.take_length
      rw [HTK.out] at HC hsl ⊢
      have hws := HS3.out.thenN HS.out (fun j hj => by have e : j = w.heap.size + 1 + 1 := hj; omega)
      have hob := HJ.out.ob.move (hws.block pj hpl (fun h => h))
      have hobB := HB3.out.move (HS.out.block _ HB3.out.lt (fun e => by have e' : w.heap.size + 1 = w.heap.size + 1 + 1 := e; omega))
      have hjr := HJ.out.st hws (fun _ h => h.elim)
      have d0 : wr.cell? ⟨pj, 0, none⟩ = some (.int .i64 sl) := by rw [hob.cell 0]; rfl
      have HWS := Lib.hid hws
      have HOA := Lib.hid hoa
      have HOB := Lib.hid hobB
      have HJR := Lib.hid hjr
      clear hws hob hobB hoa hjr
      generalize hsr : srcN x1 ss = m at *
      have HSR := Lib.hid hsr
      clear hsr
      by_cases hge : sl ≤ m
      · have HBS : Hid (beginS sl (x1, x2) ss = keepS (fun y => decide (y = firstK x1 ss)) ss) := Lib.hid (by unfold beginS; rw [HSR.out, if_pos hge])
        go_wp2_with fail
        refine (jdrop_calls 124 (fun a b W => by kernel_rfl) (.pointer (some ⟨w.heap.size + 1 + 1, 0, none⟩)) (fun y => decide (y = firstK x1 ss)) wr pj bm _ D sl ag ss hlen HJR.out (asks_begin wr bm ss (w.heap.size + 1 + 1) (by omega) (firstK x1 ss) HC.out)).mono ?_
        rintro e wd ⟨rfl, V3, hj3, hs3⟩
        obtain ⟨V2, ss2, hss2, hj2, hs2, ha2, hb2⟩ : ∃ V2 ss2, beginS sl (x1, x2) ss = ss2 ∧ Jm wd pj bm V2 D sl ag ss2 ∧ St (fpJ pj bm (.slice va ss.length vc) D ss) w (fpJ pj bm V2 D ss2) wd ∧ Ob wd w.heap.size 174 #[.int .u8 x1, .int .u64 x2] ∧ Ob wd (w.heap.size + 1) 70 #[.int .u64 idv, .int .i64 ix, .int .i64 count, .int .i64 total, pv] := by
          have hin := HJ.out.in
          refine ⟨V3, _, HBS.out, hj3, (HWS.out.wide (G' := fpJ pj bm (.slice va ss.length vc) D ss) (fun _ h => h.elim) (fun k hk => .inl hk)).trans hs3, ?_, ?_⟩
          · exact HOA.out.move (hs3.block _ HOA.out.lt (fun hf => by have := hin _ hf; omega))
          · exact HOB.out.move (hs3.block _ HOB.out.lt (fun hf => by have := hin _ hf; omega))
        clear hj3 hs3
        go_wp2_with fail
        have hl2 : ss2.length ≤ 65536 := by
          rw [← hss2]
          unfold beginS
          split
          · exact Nat.le_trans (keepS_len _ _) hlen
          · exact hlen
        have hn2 : ∀ s ∈ ss2, s.key ≠ (x1, x2) := by
          intro s hs
          rw [← hss2] at hs
          unfold beginS at hs
          split at hs
          · exact HNEW.out s (List.mem_filter.1 hs).1
          · exact HNEW.out s hs
        obtain ⟨na, nc, rfl, _, _, _, _⟩ := hj2.ord.form
        have HSS := Lib.hid hss2
        have HJ2 := Lib.hid hj2
        have HS2 := Lib.hid hs2
        have HN2 := Lib.hid hn2
        have HA2 := Lib.hid ha2
        have HB2 := Lib.hid hb2
        have b2 : wd.cell? ⟨w.heap.size + 1, 2, none⟩ = some (.int .i64 count) := by rw [hb2.cell 2]; rfl
        have b3 : wd.cell? ⟨w.heap.size + 1, 3, none⟩ = some (.int .i64 total) := by rw [hb2.cell 3]; rfl
        have lb := hb2.lt
        clear hss2 hj2 hs2 hn2 ha2 hb2
        have hmk : ∀ W, (Instr.makeSlice 41 (.int .i64 (count : Int)) (.int .i64 (count : Int))).run Try.prog W = .ok (.slice (some ⟨W.heap.size, 0, none⟩) count count) (W.alloc (.cells (nilRow count) 25)) := fun W => make_parts W count (by omega)
        go_region
        have hin2 := HJ2.out.in
        have hpd : pj < wd.heap.size := HJ2.out.ob.lt
        have hbd : bm < wd.heap.size := HJ2.out.mp.lt
        have hla := HA2.out.lt
        have HG5 : Hid (Ob (((wd.alloc (.cells (nilRow count) 25)).alloc (.cells #[.int .i64 total, .int .i64 0, .int .i64 0, .slice (some ⟨wd.heap.size, 0, none⟩) count count] 177)).drew) wd.heap.size 25 (nilRow count)) := Lib.hid (lmid2 wd _ _)
        have HP5 : Hid (Ob (((wd.alloc (.cells (nilRow count) 25)).alloc (.cells #[.int .i64 total, .int .i64 0, .int .i64 0, .slice (some ⟨wd.heap.size, 0, none⟩) count count] 177)).drew) (wd.heap.size + 1) 177 #[.int .i64 total, .int .i64 0, .int .i64 0, .slice (some ⟨wd.heap.size, 0, none⟩) count count]) := Lib.hid (lnew2 wd _ _)
        have HS5 : Hid (St No wd (Nw wd) (((wd.alloc (.cells (nilRow count) 25)).alloc (.cells #[.int .i64 total, .int .i64 0, .int .i64 0, .slice (some ⟨wd.heap.size, 0, none⟩) count count] 177)).drew)) := Lib.hid (((St.alloc' No wd _).then (St.alloc' No _ _)).then (St.drew No _))
        generalize (((wd.alloc (.cells (nilRow count) 25)).alloc (.cells #[.int .i64 total, .int .i64 0, .int .i64 0, .slice (some ⟨wd.heap.size, 0, none⟩) count count] 177)).drew) = w5 at *
        have m5 := (HJ2.out.mp.st HS5.out (fun e => e)).st (St.drew No w5) (fun e => e)
        obtain ⟨w6, hr6, hm6, hs6, hz6⟩ := m5.push nmKey nmV_inj Try.underlying161 (x1, x2) (.pointer (some ⟨wd.heap.size + 1, 0, none⟩)) (by
          intro p hp
          obtain ⟨s, hs, rfl⟩ := List.mem_map.1 hp
          exact HN2.out s hs)
        have hmu : (Instr.mapUpdate 161 (.map (some bm)) (.agg #[.int .u8 x1, .int .u64 x2]) (.pointer (some ⟨wd.heap.size + 1, 0, none⟩))).run Try.prog w5.drew = .ok () w6 := hr6
        have hs56 : St (fpB bm) w5 (fpB bm) w6 := ⟨hs6.os, hs6.tape, hs6.output, hs6.size, hs6.block, hs6.new⟩
        have ho5 := HJ2.out.ob.move (HS5.out.block pj hpd (fun e => e))
        have d52 : w5.cell? ⟨pj, 2, none⟩ = some (.map (some bm)) := by rw [ho5.cell 2]; rfl
        have oa5 := HA2.out.move (HS5.out.block _ hla (fun e => e))
        obtain ⟨a50, a51, _, _⟩ := oa5.two
        have ho6 := ho5.move (hs56.block pj ho5.lt hpb)
        have oa6 := oa5.move (hs56.block _ oa5.lt (fun e => by have e' : w.heap.size = bm := e; omega))
        have d63 : w6.cell? ⟨pj, 3, none⟩ = some (.slice na ss2.length nc) := by rw [ho6.cell 3]; rfl
        have f63 := ho6.free 3
        obtain ⟨a60, a61, _, _⟩ := oa6.two
        have l6 := ho6.lt
        have l6a := oa6.lt
        have q6 : pj ≠ w6.heap.size := by omega
        have HOW : Hid (∀ o, Own (w6.alloc o) 174 2 (.slice na ss2.length nc) ss2.length (ss2.flatMap fun s => nmC s.key)) := Lib.hid (fun o => ((HJ2.out.ord.st HS5.out (Dj.no _)).st hs56 (fun j hj hf => by have e : j = bm := hj; subst e; exact HJ2.out.notV _ (by simp) hf)).st (St.alloc' No w6 o) (Dj.no _))
        have HM6 := Lib.hid hm6
        have HS6 := Lib.hid hs56
        have HO6 := Lib.hid ho6
        clear m5 hr6 hs6 hz6 hm6 hs56 ho5 ho6 oa5 oa6 hin2
        go_wp2
        go_region
        all_goals go_wp2
        go_region_law (refine step_app rfl (.tmp 67) (.tmp 69) 162 rfl 174 i _ 2 16 Try.underlying162 HI.out HZ.out HSZ.out HBY.out rfl (by decide) (.slice na ss2.length nc) ss2.length (ss2.flatMap fun (s : SM) => nmC s.key) rfl ((HOW.out (.cells #[.int .u8 x1, .int .u64 x2] 174)).move (fun _ _ => rfl)) (some ⟨w6.heap.size, 0, none⟩) 1 1 (nmC (x1, x2)) rfl ((nmOne w6 (x1, x2)).move (fun _ _ => rfl)) (fun h => by cases h) (by unfold maxLen; omega) (by omega) ?_
                       intro v' w7 ho7 hs7 hn7
                       have hob7 := (HO6.out.move (Below.heap_alloc w6 (.cells #[.int .u8 x1, .int .u64 x2] 174) pj l6)).move (hs7.block pj (Nat.lt_of_lt_of_le l6 (by simp)) (HJ2.out.notV pj (by simp)))
                       have e73 : w7.cell? ⟨pj, 3, none⟩ = some (.slice na ss2.length nc) := by rw [hob7.cell 3]; rfl
                       have g73 := hob7.free 3
                       obtain ⟨va', vc', rfl, _, _, _, _⟩ := ho7.form
                       have HO7 := Lib.hid ho7
                       have HS7 := Lib.hid hs7
                       clear ho7 hs7 hn7 hob7)
        all_goals go_wp2
        all_goals go_ret
        all_goals (unfold BeginJ; rw [HSS.out])
        all_goals
          have h7 := HS7.out
          refine ⟨wd.heap.size + 1, wd.heap.size, .slice va' (ss2.length + 1) vc', rfl, ?_⟩
          have hfin := begin_end (x := (x1, x2)) HJ2.out HX.out ht hc HS5.out HG5.out HP5.out (Nat.le_refl _) (Nat.le_succ _) (by omega) HM6.out HS6.out (new1 w6 (.cells #[.int .u8 x1, .int .u64 x2] 174)) HO7.out ⟨h7.os, h7.tape, h7.output, h7.size, h7.block, h7.new⟩
          exact ⟨hfin.1, HS2.out.trans hfin.2⟩
      · have HBS : Hid (beginS sl (x1, x2) ss = ss) := Lib.hid (by unfold beginS; rw [HSR.out, if_neg hge])
        go_wp2_with fail
        obtain ⟨wd, rfl⟩ : ∃ x, x = wr := ⟨_, rfl⟩
        obtain ⟨V2, ss2, hss2, hj2, hs2, ha2, hb2⟩ : ∃ V2 ss2, beginS sl (x1, x2) ss = ss2 ∧ Jm wd pj bm V2 D sl ag ss2 ∧ St (fpJ pj bm (.slice va ss.length vc) D ss) w (fpJ pj bm V2 D ss2) wd ∧ Ob wd w.heap.size 174 #[.int .u8 x1, .int .u64 x2] ∧ Ob wd (w.heap.size + 1) 70 #[.int .u64 idv, .int .i64 ix, .int .i64 count, .int .i64 total, pv] :=
          ⟨_, ss, HBS.out, HJR.out, HWS.out.wide (G' := fpJ pj bm (.slice va ss.length vc) D ss) (fun _ h => h.elim) (fun k hk => .inl hk), HOA.out, HOB.out⟩
        have hl2 : ss2.length ≤ 65536 := by
          rw [← hss2]
          unfold beginS
          split
          · exact Nat.le_trans (keepS_len _ _) hlen
          · exact hlen
        have hn2 : ∀ s ∈ ss2, s.key ≠ (x1, x2) := by
          intro s hs
          rw [← hss2] at hs
          unfold beginS at hs
          split at hs
          · exact HNEW.out s (List.mem_filter.1 hs).1
          · exact HNEW.out s hs
        obtain ⟨na, nc, rfl, _, _, _, _⟩ := hj2.ord.form
        have HSS := Lib.hid hss2
        have HJ2 := Lib.hid hj2
        have HS2 := Lib.hid hs2
        have HN2 := Lib.hid hn2
        have HA2 := Lib.hid ha2
        have HB2 := Lib.hid hb2
        have b2 : wd.cell? ⟨w.heap.size + 1, 2, none⟩ = some (.int .i64 count) := by rw [hb2.cell 2]; rfl
        have b3 : wd.cell? ⟨w.heap.size + 1, 3, none⟩ = some (.int .i64 total) := by rw [hb2.cell 3]; rfl
        have lb := hb2.lt
        clear hss2 hj2 hs2 hn2 ha2 hb2
        have hmk : ∀ W, (Instr.makeSlice 41 (.int .i64 (count : Int)) (.int .i64 (count : Int))).run Try.prog W = .ok (.slice (some ⟨W.heap.size, 0, none⟩) count count) (W.alloc (.cells (nilRow count) 25)) := fun W => make_parts W count (by omega)
        go_region
        have hin2 := HJ2.out.in
        have hpd : pj < wd.heap.size := HJ2.out.ob.lt
        have hbd : bm < wd.heap.size := HJ2.out.mp.lt
        have hla := HA2.out.lt
        have HG5 : Hid (Ob (((wd.alloc (.cells (nilRow count) 25)).alloc (.cells #[.int .i64 total, .int .i64 0, .int .i64 0, .slice (some ⟨wd.heap.size, 0, none⟩) count count] 177)).drew) wd.heap.size 25 (nilRow count)) := Lib.hid (lmid2 wd _ _)
        have HP5 : Hid (Ob (((wd.alloc (.cells (nilRow count) 25)).alloc (.cells #[.int .i64 total, .int .i64 0, .int .i64 0, .slice (some ⟨wd.heap.size, 0, none⟩) count count] 177)).drew) (wd.heap.size + 1) 177 #[.int .i64 total, .int .i64 0, .int .i64 0, .slice (some ⟨wd.heap.size, 0, none⟩) count count]) := Lib.hid (lnew2 wd _ _)
        have HS5 : Hid (St No wd (Nw wd) (((wd.alloc (.cells (nilRow count) 25)).alloc (.cells #[.int .i64 total, .int .i64 0, .int .i64 0, .slice (some ⟨wd.heap.size, 0, none⟩) count count] 177)).drew)) := Lib.hid (((St.alloc' No wd _).then (St.alloc' No _ _)).then (St.drew No _))
        generalize (((wd.alloc (.cells (nilRow count) 25)).alloc (.cells #[.int .i64 total, .int .i64 0, .int .i64 0, .slice (some ⟨wd.heap.size, 0, none⟩) count count] 177)).drew) = w5 at *
        have m5 := (HJ2.out.mp.st HS5.out (fun e => e)).st (St.drew No w5) (fun e => e)
        obtain ⟨w6, hr6, hm6, hs6, hz6⟩ := m5.push nmKey nmV_inj Try.underlying161 (x1, x2) (.pointer (some ⟨wd.heap.size + 1, 0, none⟩)) (by
          intro p hp
          obtain ⟨s, hs, rfl⟩ := List.mem_map.1 hp
          exact HN2.out s hs)
        have hmu : (Instr.mapUpdate 161 (.map (some bm)) (.agg #[.int .u8 x1, .int .u64 x2]) (.pointer (some ⟨wd.heap.size + 1, 0, none⟩))).run Try.prog w5.drew = .ok () w6 := hr6
        have hs56 : St (fpB bm) w5 (fpB bm) w6 := ⟨hs6.os, hs6.tape, hs6.output, hs6.size, hs6.block, hs6.new⟩
        have ho5 := HJ2.out.ob.move (HS5.out.block pj hpd (fun e => e))
        have d52 : w5.cell? ⟨pj, 2, none⟩ = some (.map (some bm)) := by rw [ho5.cell 2]; rfl
        have oa5 := HA2.out.move (HS5.out.block _ hla (fun e => e))
        obtain ⟨a50, a51, _, _⟩ := oa5.two
        have ho6 := ho5.move (hs56.block pj ho5.lt hpb)
        have oa6 := oa5.move (hs56.block _ oa5.lt (fun e => by have e' : w.heap.size = bm := e; omega))
        have d63 : w6.cell? ⟨pj, 3, none⟩ = some (.slice na ss2.length nc) := by rw [ho6.cell 3]; rfl
        have f63 := ho6.free 3
        obtain ⟨a60, a61, _, _⟩ := oa6.two
        have l6 := ho6.lt
        have l6a := oa6.lt
        have q6 : pj ≠ w6.heap.size := by omega
        have HOW : Hid (∀ o, Own (w6.alloc o) 174 2 (.slice na ss2.length nc) ss2.length (ss2.flatMap fun s => nmC s.key)) := Lib.hid (fun o => ((HJ2.out.ord.st HS5.out (Dj.no _)).st hs56 (fun j hj hf => by have e : j = bm := hj; subst e; exact HJ2.out.notV _ (by simp) hf)).st (St.alloc' No w6 o) (Dj.no _))
        have HM6 := Lib.hid hm6
        have HS6 := Lib.hid hs56
        have HO6 := Lib.hid ho6
        clear m5 hr6 hs6 hz6 hm6 hs56 ho5 ho6 oa5 oa6 hin2
        go_wp2
        go_region
        all_goals go_wp2
        go_region_law (refine step_app rfl (.tmp 67) (.tmp 69) 162 rfl 174 i _ 2 16 Try.underlying162 HI.out HZ.out HSZ.out HBY.out rfl (by decide) (.slice na ss2.length nc) ss2.length (ss2.flatMap fun (s : SM) => nmC s.key) rfl ((HOW.out (.cells #[.int .u8 x1, .int .u64 x2] 174)).move (fun _ _ => rfl)) (some ⟨w6.heap.size, 0, none⟩) 1 1 (nmC (x1, x2)) rfl ((nmOne w6 (x1, x2)).move (fun _ _ => rfl)) (fun h => by cases h) (by unfold maxLen; omega) (by omega) ?_
                       intro v' w7 ho7 hs7 hn7
                       have hob7 := (HO6.out.move (Below.heap_alloc w6 (.cells #[.int .u8 x1, .int .u64 x2] 174) pj l6)).move (hs7.block pj (Nat.lt_of_lt_of_le l6 (by simp)) (HJ2.out.notV pj (by simp)))
                       have e73 : w7.cell? ⟨pj, 3, none⟩ = some (.slice na ss2.length nc) := by rw [hob7.cell 3]; rfl
                       have g73 := hob7.free 3
                       obtain ⟨va', vc', rfl, _, _, _, _⟩ := ho7.form
                       have HO7 := Lib.hid ho7
                       have HS7 := Lib.hid hs7
                       clear ho7 hs7 hn7 hob7)
        all_goals go_wp2
        all_goals go_ret
        all_goals (unfold BeginJ; rw [HSS.out])
        all_goals
          have h7 := HS7.out
          refine ⟨wd.heap.size + 1, wd.heap.size, .slice va' (ss2.length + 1) vc', rfl, ?_⟩
          have hfin := begin_end (x := (x1, x2)) HJ2.out HX.out ht hc HS5.out HG5.out HP5.out (Nat.le_refl _) (Nat.le_succ _) (by omega) HM6.out HS6.out (new1 w6 (.cells #[.int .u8 x1, .int .u64 x2] 174)) HO7.out ⟨h7.os, h7.tape, h7.output, h7.size, h7.block, h7.new⟩
          exact ⟨hfin.1, HS2.out.trans hfin.2⟩
end Go.Proofs.Ytoeafacamapofaa
