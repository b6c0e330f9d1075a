
/-
  The program's Joiner: Slots.
-/
import Derived.Test.YtoeafacamapofaaJnTake
namespace Go.Proofs.Ytoeafacamapofaa
open Go.RowKit
set_option linter.unusedVariables false
set_option linter.unusedSimpArgs false

/-- what is told of a slot -/
structure FS where
  frm : Int
  id : Int
  got : Nat
  count : Nat
  age : Nat
deriving DecidableEq
def FS.cells (r : FS) : List Value := [.int .u8 r.frm, .int .u64 r.id, .int .i64 r.got, .int .i64 r.count, .int .i64 r.age]
theorem FS.cells_len (r : FS) : r.cells.length = 5 := rfl
def PS.tell (s : PS) : FS := ⟨s.key.1, s.key.2, s.got, s.parts.length, s.age⟩
def tellA (a : Int) (ss : List PS) : List FS := (ss.filter (fun s => decide (s.key.1 = a))).map PS.tell
def tellTo (n : Nat) (ss : List PS) : List FS := (List.range n).flatMap fun (a : Nat) => tellA (a : Int) ss
def tellP (ss : List PS) : List FS := tellTo 255 ss
theorem tellTo_succ (n : Nat) (ss : List PS) : tellTo (n + 1) ss = tellTo n ss ++ tellA (n : Int) ss := by
  unfold tellTo
  rw [List.range_succ, List.flatMap_append]
  simp
theorem tellA_take (a : Int) (ss : List PS) (k : Nat) (h : k < ss.length) : tellA a (ss.take (k + 1)) = tellA a (ss.take k) ++ if ss[k].key.1 = a then [ss[k].tell] else [] := by
  unfold tellA
  rw [List.take_succ_eq_append_getElem h, List.filter_append, List.map_append]
  congr 1
  by_cases e : ss[k].key.1 = a <;> simp [e]
theorem tellA_len (a : Int) (ss : List PS) : (tellA a ss).length ≤ ss.length := by
  unfold tellA
  rw [List.length_map]
  exact List.length_filter_le _ _
theorem tellTo_len (n : Nat) (ss : List PS) : (tellTo n ss).length ≤ n * ss.length := by
  induction n with
  | zero => simp [tellTo]
  | succ n ih =>
    rw [tellTo_succ, List.length_append, Nat.succ_mul]
    have := tellA_len (n : Int) ss
    omega
theorem fsinfo : (Try.prog.info? 109).map (fun i => (i.zero, i.size, i.bytes)) = some (some (.agg #[.int .u8 0, .int .u64 0, .int .i64 0, .int .i64 0, .int .i64 0]), 5, 40) := by kernel_rfl
theorem fsOne (w : World) (r : FS) : Src (w.alloc (.cells #[.int .u8 r.frm, .int .u64 r.id, .int .i64 r.got, .int .i64 r.count, .int .i64 r.age] 109)) (some ⟨w.heap.size, 0, none⟩) 1 5 r.cells := by
  refine ⟨rfl, ?_, ?_⟩
  · exact rd_row (heap_alloc_new w _)
  · intro u hu
    simp [FS.cells] at hu
    rcases hu with rfl | rfl | rfl | rfl | rfl <;> rfl
def SlotsJ (w : World) (ss : List PS) (e : Ending) (w' : World) : Prop :=
  ∃ V, e = .returned V ∧ Own w' 109 5 V (tellP ss).length ((tellP ss).flatMap FS.cells) ∧ St No w (fpV V) w'
set_option maxRecDepth 100000 in
set_option maxHeartbeats 1000000 in
theorem slots_calls (w : World) (F : Nat → Prop) (pj sl ag : Nat) (ss : List PS) (hlen : ss.length ≤ 4096) (h : Jn w F pj sl ag ss) :
    Calls Try.prog 51 #[.pointer (some ⟨pj, 0, none⟩)] w (SlotsJ w ss) := by
  obtain ⟨bm, V, D, sm, hj, hpl, hF⟩ := h
  have hll : sm.length = ss.length := by rw [← hpl, List.length_map]
  obtain ⟨va, vc, rfl, hv1, hv2, hv3, hv4⟩ := hj.ord.form
  have hpj := hj.ob.lt
  have hbm := hj.mp.lt
  have d3 : w.cell? ⟨pj, 3, none⟩ = some (.slice va sm.length vc) := by rw [hj.ob.cell 3]; rfl
  obtain ⟨i, hi, hz, hsz, hby⟩ := info_parts fsinfo
  have HI := Lib.hid hi
  have HZ := Lib.hid hz
  have HSZ := Lib.hid hsz
  have HBY := Lib.hid hby
  have HJ := Lib.hid hj
  have HPL := Lib.hid hpl
  have HLL := Lib.hid hll
  have hln : sm.length ≤ 4096 := by omega
  clear hj hpl hF hi hz hsz hby hv1 hv2 hv3 hv4 hll hlen
  go_enter Try.func51, Try.ntmps51
  go_wp2_with fail
  go_loopw [3, 10] (fun x t wr => ∃ (n : Nat) (V' : Value), n ≤ 255 ∧ t = .int .i64 n ∧ x = V' ∧ Hid (Own wr 109 5 V' (tellTo n ss).length ((tellTo n ss).flatMap FS.cells)) ∧ Hid (∀ j, fpV V' j → w.heap.size ≤ j) ∧ Hid (St No w (Nw w) wr)) (fun _ t _ => 255 - (intOf t).toNat)
  case atStart =>
    exact ⟨0, _, by omega, rfl, rfl, Lib.hid (Own.nil _ _ _), Lib.hid (fun j hj => by simp [fpV, Value.ownBlock] at hj), Lib.hid (St.refl No w).toNew⟩
  case round =>
    obtain ⟨n, V1, hn, rfl, hxv, HO1, HV1, HS1⟩ := hrel
    have hxv' := hxv.symm
    subst hxv'
    clear hxv
    by_cases hlt : n < 255
    · have d3r : wr.cell? ⟨pj, 3, none⟩ = some (.slice va sm.length vc) := (World.cell?_of_block (HS1.out.block pj hpj (fun e => e))).trans d3
      go_wp2_with fail
      go_loopw [3, 18] (fun x t wq => ∃ (k : Nat) (V' : Value), k ≤ sm.length ∧ t = .int .i64 k ∧ x = V' ∧ Hid (Own wq 109 5 V' (tellTo n ss ++ tellA (n : Int) (ss.take k)).length ((tellTo n ss ++ tellA (n : Int) (ss.take k)).flatMap FS.cells)) ∧ Hid (∀ j, fpV V' j → w.heap.size ≤ j) ∧ Hid (St No w (Nw w) wq)) (fun _ t _ => sm.length - (intOf t).toNat)
      case atStart =>
        exact ⟨0, _, by omega, rfl, rfl, by simpa [tellA] using HO1, HV1, HS1⟩
      case round =>
        obtain ⟨k, V2, hk, rfl, hxv, HO2, HV2, HS2⟩ := hrel
        have hxv' := hxv.symm
        subst hxv'
        clear hxv
        by_cases hlt2 : k < sm.length
        · obtain ⟨s, hs⟩ : ∃ s, sm[k] = s := ⟨_, rfl⟩
          have hki : (k : Int) < (sm.length : Int) := by omega
          have hsk : sm[k]? = some s := by rw [List.getElem?_eq_getElem hlt2, hs]
          have hjr := HJ.out.st HS2.out (Dj.no _)
          have hown := hjr.ord
          rw [← List.flatMap_map] at hown
          obtain ⟨y, rfl⟩ := rowL_some (rs := sm.map (·.key)) nmC_len (by decide) hown k (by simpa using hlt2)
          have hel := fun j v => rowL_elem nmC_len hown k s.key (by simp [hlt2, hs]) j v
          have hte : tellA (n : Int) (ss.take (k + 1)) = tellA (n : Int) (ss.take k) ++ if s.key.1 = (n : Int) then [s.pl.tell] else [] := by
            have hl2 : k < ss.length := by have := HLL.out; omega
            have e : ss[k] = s.pl := by
              have h1 : (sm.map SM.pl)[k]? = some s.pl := by rw [List.getElem?_map, hsk]; rfl
              rw [HPL.out, List.getElem?_eq_getElem hl2] at h1
              exact Option.some.inj h1
            rw [tellA_take _ _ _ hl2, e]
            rfl
          have hgl : getS s.key sm = some s := by
            have := getS_at HJ.out.keys k hlt2
            rw [hs] at this
            exact this
          have hsl := HJ.out.slots s (List.mem_of_getElem? hsk)
          have HTE := Lib.hid hte
          have HGL := Lib.hid hgl
          have HSL := Lib.hid hsl
          have HJR := Lib.hid hjr
          have hwr := HS2.out.size
          have hl5 : (tellTo n ss ++ tellA (n : Int) (ss.take k)).length ≤ 2097152 := by
            rw [List.length_append]
            have h1 := tellTo_len n ss
            have h2 := tellA_len (n : Int) (ss.take k)
            rw [List.length_take] at h2
            have h3 := HLL.out
            have h4 : n * ss.length ≤ 255 * 4096 := Nat.mul_le_mul hn (by omega)
            omega
          have q0 : pj ≠ wr.heap.size := by omega
          have q1 : pj < wr.heap.size := by omega
          have q2 : s.p ≠ wr.heap.size := by have := hsl.ob.lt; omega
          have q3 : 0 ≤ s.key.1 ∧ s.key.1 < 255 := hsl.from0
          clear hte hgl hsl hjr hown hs hsk hwr
          obtain ⟨⟨y1, y2⟩, sp, sg, stt, sgt, sag, sps⟩ := s
          have c0 : wr.cell? (y.add (k * 2)) = some (.int .u8 y1) := hel 0 _ (by decide) rfl
          have c1 : wr.cell? ⟨(y.add (k * 2)).block, (y.add (k * 2)).off + 1, none⟩ = some (.int .u64 y2) := hel 1 _ (by decide) rfl
          clear hel
          have hto := HO2.out
          generalize hR : tellTo n ss ++ tellA (n : Int) (ss.take k) = R at *
          have HR := Lib.hid hR
          clear hR hto
          by_cases hy : y1 = (n : Int)
          · subst hy
            go_wp2_with fail
            have HSA : Hid (St No wr (Nw wr) (wr.alloc (.cells #[.int .u8 (n : Int), .int .u64 y2] 174))) := Lib.hid (new1 wr _)
            have HNB : Hid (Ob (wr.alloc (.cells #[.int .u8 (n : Int), .int .u64 y2] 174)) wr.heap.size 174 #[.int .u8 (n : Int), .int .u64 y2]) := Lib.hid (Ob.alloc wr _ _)
            generalize (wr.alloc (.cells #[.int .u8 (n : Int), .int .u64 y2] 174)) = wa at *
            have hja := HJR.out.st HSA.out (Dj.no _)
            have d2 : wa.cell? ⟨pj, 2, none⟩ = some (.map (some bm)) := by rw [hja.ob.cell 2]; rfl
            obtain ⟨n0, n1, _, _⟩ := HNB.out.two
            have hlk : ∀ m, (Instr.lookup 161 (.map (some bm)) (.agg #[.int .u8 (n : Int), .int .u64 y2]) false).run Try.prog (wa.drewN m) = .ok (.pointer (some ⟨sp, 0, none⟩)) (wa.drewN m) := fun m => by
              have h1 := (hja.st (St.drewN No wa m) (Dj.no _)).lookup ((n : Int), y2)
              have h2 := HGL.out
              rw [h2] at h1
              exact h1
            have HJA := Lib.hid hja
            clear hja
            go_quiet (fail)
            rename Nat => nqa
            go_wp2_with fail
            have HSB : Hid (St No w (Nw w) (wa.drewN nqa)) := Lib.hid ((HS2.out.then HSA.out).then (St.drewN No wa nqa))
            have hjb := HJA.out.st (St.drewN No wa nqa) (Dj.no _)
            have hnb : Ob (wa.drewN nqa) wr.heap.size 174 #[.int .u8 (n : Int), .int .u64 y2] := HNB.out.drewN nqa
            have HOB : Hid (Own (wa.drewN nqa) 109 5 V2 R.length (R.flatMap FS.cells)) := Lib.hid ((HO2.out.st HSA.out (Dj.no _)).st (St.drewN No wa nqa) (Dj.no _))
            clear hlk d2 n0 n1
            generalize wa.drewN nqa = wb at *
            have hsb := (HSL.out.ob.move (HSB.out.block _ HSL.out.ob.lt (fun e => e)))
            have x1 : wb.cell? ⟨sp, 1, none⟩ = some (.int .i64 (sgt : Int)) := by rw [hsb.cell 1]; rfl
            have x2 : wb.cell? ⟨sp, 2, none⟩ = some (.int .i64 (sag : Int)) := by rw [hsb.cell 2]; rfl
            have x3 : wb.cell? ⟨sp, 3, none⟩ = some (.slice (some ⟨sg, 0, none⟩) sps.length sps.length) := by rw [hsb.cell 3]; rfl
            obtain ⟨m0, m1, _, _⟩ := hnb.two
            have HOW : Hid (∀ o, Own (wb.alloc o) 109 5 V2 R.length (R.flatMap FS.cells)) := Lib.hid (fun o => HOB.out.st (St.alloc' No wb o) (Dj.no _))
            have HSBO := Lib.hid hsb
            have HNBO := Lib.hid hnb
            have HNV : Hid (∀ q, fpV V2 q → q ≠ sp ∧ q ≠ wr.heap.size) := Lib.hid (fun q hq => by
              have h1 := HV2.out q hq
              have h2 := HO2.out.in q hq
              have h3 := HSL.out.ob.lt
              simp only at h3
              omega)
            obtain ⟨na, nc, rfl, _, _, _, _⟩ := HOB.out.form
            have HSD : Hid (St No w (Nw w) (wb.alloc (.cells #[.int .u8 (n : Int), .int .u64 y2, .int .i64 (sgt : Int), .int .i64 (sps.length : Int), .int .i64 (sag : Int)] 109))) := Lib.hid (HSB.out.then (new1 wb _))
            clear hjb hnb hsb
            go_region_held3 (fun w' => w'.cell? ⟨wr.heap.size, 0, none⟩ = some (.int .u8 (n : Int)) ∧ w'.cell? ⟨wr.heap.size, 1, none⟩ = some (.int .u64 y2) ∧ w'.cell? ⟨sp, 1, none⟩ = some (.int .i64 (sgt : Int)) ∧ w'.cell? ⟨sp, 2, none⟩ = some (.int .i64 (sag : Int)) ∧ w'.cell? ⟨sp, 3, none⟩ = some (.slice (some ⟨sg, 0, none⟩) sps.length sps.length)) (go_keep)
              (first
                | (refine step_app rfl (.tmp 33) (.tmp 52) 86 rfl 109 i _ 5 40 Try.underlying86 HI.out HZ.out HSZ.out HBY.out rfl (by decide) (.slice na R.length nc) R.length (R.flatMap FS.cells) rfl ((HOW.out (.cells #[.int .u8 (n : Int), .int .u64 y2, .int .i64 (sgt : Int), .int .i64 (sps.length : Int), .int .i64 (sag : Int)] 109)).move (fun _ _ => rfl)) (some ⟨wb.heap.size, 0, none⟩) 1 1 (FS.cells ⟨(n : Int), y2, sgt, sps.length, sag⟩) rfl ((fsOne wb ⟨(n : Int), y2, sgt, sps.length, sag⟩).move (fun _ _ => rfl)) (fun h => by cases h) (by unfold maxLen; omega) (by omega) ?_
                   intro v' w7 ho7 hs7 hn7
                   have hb7 : ∀ q, q < wb.heap.size → ¬ fpV (.slice na R.length nc) q → w7.heap[q]? = wb.heap[q]? := fun q hq hn => (hs7.block q (Nat.lt_of_lt_of_le hq (by simp)) hn).trans (Below.heap_alloc wb _ q hq)
                   have ob7 := HSBO.out.move (hb7 sp HSBO.out.lt (fun hv => (HNV.out sp hv).1 rfl))
                   have nb7 := HNBO.out.move (hb7 wr.heap.size HNBO.out.lt (fun hv => (HNV.out _ hv).2 rfl))
                   have y71 : w7.cell? ⟨sp, 1, none⟩ = some (.int .i64 (sgt : Int)) := by rw [ob7.cell 1]; rfl
                   have y72 : w7.cell? ⟨sp, 2, none⟩ = some (.int .i64 (sag : Int)) := by rw [ob7.cell 2]; rfl
                   have y73 : w7.cell? ⟨sp, 3, none⟩ = some (.slice (some ⟨sg, 0, none⟩) sps.length sps.length) := by rw [ob7.cell 3]; rfl
                   have y74 : w7.cell? ⟨wr.heap.size, 0, none⟩ = some (.int .u8 (n : Int)) := by rw [nb7.cell 0]; rfl
                   have y75 : w7.cell? ⟨wr.heap.size, 1, none⟩ = some (.int .u64 y2) := by rw [nb7.cell 1]; rfl
                   have HO7 := Lib.hid ho7
                   have HS7 := Lib.hid hs7
                   clear ho7 hs7 hn7 hb7 ob7 nb7))
            all_goals go_wp2
            all_goals
              have h7 := HS7.out
              have hz7 := HSD.out.size
              refine ⟨⟨v', _, _, _, ⟨k + 1, by omega, by simp, Lib.hid ?_, Lib.hid ?_, Lib.hid ?_⟩, rfl, rfl, rfl, rfl⟩, by simp [intOf]; omega⟩
            · rw [← List.length_append, ← List.flatMap_append, HTE.out, if_pos trivial, ← List.append_assoc, HR.out, List.length_append, List.flatMap_append]
              simpa [SM.pl, PS.tell] using HO7.out
            · intro j hj
              rcases h7.new j hj with h | h
              · exact HV2.out j h
              · simp at h hz7; omega
            · exact HSD.out.thenN ⟨h7.os, h7.tape, h7.output, h7.size, h7.block, h7.new⟩ (fun j hj => HV2.out j hj)
          · have q4 : 0 ≤ y1 ∧ y1 < 255 := q3
            have hyb : (wrap64 y1 != (n : Int)) = true := by rw [show wrap64 y1 = y1 by unfold wrap64; omega]; simpa using hy
            go_wp2
            refine ⟨⟨k + 1, V2, by omega, by simp, rfl, Lib.hid ?_, HV2, Lib.hid (HS2.out.then (new1 wr _))⟩, by simp [intOf]; omega⟩
            rw [HTE.out, if_neg hy, List.append_nil, HR.out]
            exact HO2.out.st (new1 wr _) (Dj.no _)
        · obtain rfl : k = sm.length := by omega
          have e : tellTo n ss ++ tellA (n : Int) (ss.take sm.length) = tellTo (n + 1) ss := by rw [tellTo_succ, HLL.out, List.take_length]
          rw [e] at HO2
          clear e
          go_wp2
          exact ⟨⟨n + 1, V2, by omega, by simp, rfl, HO2, HV2, HS2⟩, by simp [intOf]; omega⟩
    · obtain rfl : n = 255 := by omega
      go_wp2
      go_ret
      have h1 := HS1.out
      exact ⟨V1, rfl, HO1.out, h1.os, h1.tape, h1.output, h1.size, fun q hq hn => h1.block q hq (fun e => e), fun q hq => .inr (HV1.out q hq)⟩
end Go.Proofs.Ytoeafacamapofaa
