
/-
  The reference's Tell.
-/
import Derived.Test.YtoeafacamapofaaRjAdd
namespace Go.Proofs.Ytoeafacamapofaa
open Go.RowKit
set_option linter.unusedVariables false
set_option linter.unusedSimpArgs false

def rtC (r : FS) : List Value := [.int .i64 r.frm, .int .u64 r.id, .int .i64 r.got, .int .i64 r.count, .int .i64 r.age]
theorem rtC_len (r : FS) : (rtC r).length = 5 := rfl
def rTellA (a : Int) (rs : List RSl) : List FS := (rs.filter (fun r => decide (r.key.1 = a))).map RSl.tell
theorem rTellTo_succ (n : Nat) (rs : List RSl) : rTellTo (n + 1) rs = rTellTo n rs ++ rTellA (n : Int) rs := by
  unfold rTellTo
  rw [List.range_succ, List.flatMap_append]
  simp [rTellA]
theorem rTellA_take (a : Int) (rs : List RSl) (k : Nat) (h : k < rs.length) : rTellA a (rs.take (k + 1)) = rTellA a (rs.take k) ++ if rs[k].key.1 = a then [rs[k].tell] else [] := by
  unfold rTellA
  rw [List.take_succ_eq_append_getElem h, List.filter_append, List.map_append]
  congr 1
  by_cases e : rs[k].key.1 = a <;> simp [e]
theorem rTellA_at (a : Int) (rs : List RSl) (k : Nat) (r : RSl) (h : rs[k]? = some r) : rTellA a (rs.take (k + 1)) = rTellA a (rs.take k) ++ if r.key.1 = a then [r.tell] else [] := by
  obtain ⟨hl, rfl⟩ := List.getElem?_eq_some_iff.1 h
  exact rTellA_take a rs k hl
theorem rTellA_len (a : Int) (rs : List RSl) : (rTellA a rs).length ≤ rs.length := by
  unfold rTellA
  rw [List.length_map]
  exact List.length_filter_le _ _
theorem rTellTo_len (n : Nat) (rs : List RSl) : (rTellTo n rs).length ≤ n * rs.length := by
  induction n with
  | zero => simp [rTellTo]
  | succ n ih =>
    rw [rTellTo_succ, List.length_append, Nat.succ_mul]
    have := rTellA_len (n : Int) rs
    omega
theorem rtinfo : (Try.prog.info? 179).map (fun i => (i.zero, i.size, i.bytes)) = some (some (.agg #[.int .i64 0, .int .u64 0, .int .i64 0, .int .i64 0, .int .i64 0]), 5, 40) := by kernel_rfl
theorem rtOne (w : World) (r : FS) : Src (w.alloc (.cells #[.int .i64 r.frm, .int .u64 r.id, .int .i64 r.got, .int .i64 r.count, .int .i64 r.age] 179)) (some ⟨w.heap.size, 0, none⟩) 1 5 (rtC r) := by
  refine ⟨rfl, ?_, ?_⟩
  · exact rd_row (heap_alloc_new w _)
  · intro u hu
    simp [rtC] at hu
    rcases hu with rfl | rfl | rfl | rfl | rfl <;> rfl
def RTellJ (w : World) (rs : List RSl) (e : Ending) (w' : World) : Prop :=
  ∃ V, e = .returned V ∧ Own w' 179 5 V (rTellTo 255 rs).length ((rTellTo 255 rs).flatMap rtC) ∧ St No w (fpV V) w'
set_option maxRecDepth 100000 in
set_option maxHeartbeats 1000000 in
theorem rtell_calls (w : World) (F : Nat → Prop) (pr sl ag : Nat) (rs : List RSl) (hlen : rs.length ≤ 4096) (hok : ∀ r ∈ rs, r.l ≠ [] ∧ r.l.length < 128) (h : RJ w F pr sl ag rs) :
    Calls Try.prog 53 #[.pointer (some ⟨pr, 0, none⟩)] w (RTellJ w rs) := by
  obtain ⟨V, D, L, hj, hpl, hF⟩ := h
  have hll : L.length = rs.length := by rw [← hpl, List.length_map]
  obtain ⟨va, vc, rfl, _, _, _, _⟩ := hj.own.form
  obtain ⟨i, hi, hz, hsz, hby⟩ := info_parts rtinfo
  have HI := Lib.hid hi
  have HZ := Lib.hid hz
  have HSZ := Lib.hid hsz
  have HBY := Lib.hid hby
  have HJ := Lib.hid hj
  have HPL := Lib.hid hpl
  have HLL := Lib.hid hll
  have HOK := Lib.hid hok
  have hln : L.length ≤ 4096 := by omega
  have hprl := hj.ob.lt
  have d2 : w.cell? ⟨pr, 2, none⟩ = some (.slice va L.length vc) := by rw [hj.ob.cell 2]; rfl
  clear hj hpl hF hi hz hsz hby hll hlen hok
  go_enter Try.func53, Try.ntmps53
  go_wp2_with fail
  go_loopw [3, 4] (fun x t wr => ∃ (n : Nat) (V' : Value), n ≤ 255 ∧ t = .int .i64 n ∧ x = V' ∧ Hid (Own wr 179 5 V' (rTellTo n rs).length ((rTellTo n rs).flatMap rtC)) ∧ Hid (∀ j, fpV V' j → w.heap.size ≤ j) ∧ Hid (St No w (Nw w) wr)) (fun _ t _ => 255 - (intOf t).toNat)
  case atStart =>
    exact ⟨0, _, by omega, rfl, rfl, Lib.hid (Own.nil _ _ _), Lib.hid (fun j hj => by simp [fpV, Value.ownBlock] at hj), Lib.hid (St.refl No w).toNew⟩
  case round =>
    obtain ⟨n, V1, hn, rfl, hxv, HO1, HV1, HS1⟩ := hrel
    have hxv' := hxv.symm
    subst hxv'
    clear hxv
    by_cases hlt : n < 255
    · have hnd : decide ((n : Int) < 255) = true := decide_eq_true (by omega)
      go_wp2_with fail
      go_loopw [3, 5] (fun x t wq => ∃ (k : Nat) (V' : Value), k ≤ L.length ∧ t = .int .i64 k ∧ x = V' ∧ Hid (Own wq 179 5 V' (rTellTo n rs ++ rTellA (n : Int) (rs.take k)).length ((rTellTo n rs ++ rTellA (n : Int) (rs.take k)).flatMap rtC)) ∧ Hid (∀ j, fpV V' j → w.heap.size ≤ j) ∧ Hid (St No w (Nw w) wq)) (fun _ t _ => L.length - (intOf t).toNat)
      case atStart =>
        exact ⟨0, _, by omega, rfl, rfl, by simpa [rTellA] using HO1, HV1, HS1⟩
      case round =>
        obtain ⟨k, V2, hk, rfl, hxv, HO2, HV2, HS2⟩ := hrel
        have hxv' := hxv.symm
        subst hxv'
        clear hxv
        have hpw : pr < wr.heap.size := Nat.lt_of_lt_of_le hprl HS2.out.size
        have d2r : wr.cell? ⟨pr, 2, none⟩ = some (.slice va L.length vc) := (World.cell?_of_block (HS2.out.block pr hprl (fun e => e))).trans d2
        by_cases hlt2 : k < L.length
        · have hki : (k : Int) < (L.length : Int) := by omega
          have hown := HJ.out.own.st HS2.out (Dj.no _)
          obtain ⟨y, rfl⟩ := rowL_some SR.cells_len (by decide) hown k hlt2
          have hel := fun j v => rowL_elem SR.cells_len hown k L[k] (List.getElem?_eq_getElem hlt2) j v
          have hlr : k < rs.length := by have := HLL.out; omega
          have hpk : rs[k] = L[k].pl := by
            have h1 : (L.map SR.pl)[k]? = some L[k].pl := by rw [List.getElem?_map, List.getElem?_eq_getElem hlt2]; rfl
            rw [HPL.out, List.getElem?_eq_getElem hlr] at h1
            exact Option.some.inj h1
          have hte : rs[k]? = some L[k].pl := by rw [List.getElem?_eq_getElem hlr, hpk]
          have hok1 := HOK.out _ (List.getElem_mem hlr)
          rw [hpk] at hok1
          have how2 := (HJ.out.lst L[k] (List.getElem_mem hlt2)).st HS2.out (Dj.no _)
          have hl5 : (rTellTo n rs ++ rTellA (n : Int) (rs.take k)).length ≤ 2097152 := by
            rw [List.length_append]
            have h1 := rTellTo_len n rs
            have h2 := rTellA_len (n : Int) (rs.take k)
            rw [List.length_take] at h2
            have h3 := HLL.out
            have h4 : n * rs.length ≤ 255 * 4096 := Nat.mul_le_mul hn (by omega)
            omega
          have hgw : ∀ j, fpV L[k].V j → j < w.heap.size := (HJ.out.lst L[k] (List.getElem_mem hlt2)).in
          clear hown hpk
          generalize L[k] = s at *
          obtain ⟨⟨k1, k2⟩, age, sv, l⟩ := s
          simp only [SR.pl] at hok1 how2 hte hgw
          obtain ⟨sa, sc, hsv, _, _, _, _⟩ := how2.form
          subst hsv
          have hl0 : 0 < l.length := by
            have := hok1.1
            simp only [ne_eq, List.map_eq_nil_iff] at this
            exact List.length_pos_iff.2 this
          obtain ⟨gs, rfl⟩ := Own.block'r how2 hl0
          have c0 : wr.cell? (y.add (k * 4)) = some (.int .i64 k1) := hel 0 _ (by decide) rfl
          have c1 : wr.cell? ⟨(y.add (k * 4)).block, (y.add (k * 4)).off + 1, none⟩ = some (.int .u64 k2) := hel 1 _ (by decide) rfl
          have c2 : wr.cell? ⟨(y.add (k * 4)).block, (y.add (k * 4)).off + 2, none⟩ = some (.int .i64 (age : Int)) := hel 2 _ (by decide) rfl
          have c3 : wr.cell? ⟨(y.add (k * 4)).block, (y.add (k * 4)).off + 3, none⟩ = some (.slice (some ⟨gs, 0, none⟩) l.length sc) := hel 3 _ (by decide) rfl
          clear hel
          obtain ⟨r0, hr0⟩ : ∃ r0, l[0]? = some r0 := ⟨l[0], List.getElem?_eq_getElem hl0⟩
          have z2 : wr.cell? ⟨gs, 2, none⟩ = some (.int .i64 r0.f.count) := how2.cellAt (0 * 5 + 2) _ ((flat_get FR.cells 5 FR.cells_len l 0 2 _ hr0 (by decide)).trans rfl)
          have HHD : Hid (((l.map (·.f)).map (·.count)).headD 0 = r0.f.count) := Lib.hid (by
            cases l with
            | nil => simp at hr0
            | cons u t => simp at hr0; subst hr0; rfl)
          have hgl : gs < wr.heap.size := how2.in gs rfl
          have HNG : Hid (¬ fpV V2 gs) := Lib.hid (fun hv => by
            have h1 := HV2.out gs hv
            have h2 := hgw gs rfl
            omega)
          have HTE : Hid (rTellA (n : Int) (rs.take (k + 1)) = rTellA (n : Int) (rs.take k) ++ if k1 = (n : Int) then [⟨k1, k2, l.length, r0.f.count, age⟩] else []) := Lib.hid (by
            rw [rTellA_at (n : Int) rs k ⟨(k1, k2), age, l.map (·.f)⟩ hte]
            congr 1
            by_cases hq : k1 = (n : Int)
            · rw [if_pos hq, if_pos hq]
              unfold RSl.tell
              simp only
              rw [HHD.out, List.length_map]
            · rw [if_neg hq, if_neg hq])
          clear hte hgw
          generalize hct : r0.f.count = ct at *
          clear hct hr0 how2 hok1
          generalize hR : rTellTo n rs ++ rTellA (n : Int) (rs.take k) = R at *
          have HR := Lib.hid hR
          clear hR
          by_cases hy : k1 = (n : Int)
          · subst hy
            have HBX : Hid (Ob (wr.alloc (.cells #[.int .i64 (n : Int), .int .u64 k2, .int .i64 age, .slice (some ⟨gs, 0, none⟩) l.length sc] 182)) wr.heap.size 182 #[.int .i64 (n : Int), .int .u64 k2, .int .i64 age, .slice (some ⟨gs, 0, none⟩) l.length sc]) := Lib.hid (Ob.alloc wr _ _)
            have HSX : Hid (St No wr (Nw wr) (wr.alloc (.cells #[.int .i64 (n : Int), .int .u64 k2, .int .i64 age, .slice (some ⟨gs, 0, none⟩) l.length sc] 182))) := Lib.hid (new1 wr _)
            go_wp2_with fail
            generalize (wr.alloc (.cells #[.int .i64 (n : Int), .int .u64 k2, .int .i64 age, .slice (some ⟨gs, 0, none⟩) l.length sc] 182)) = wb at *
            have x1 : wb.cell? ⟨wr.heap.size, 1, none⟩ = some (.int .u64 k2) := by rw [HBX.out.cell 1]; rfl
            have x2 : wb.cell? ⟨wr.heap.size, 2, none⟩ = some (.int .i64 (age : Int)) := by rw [HBX.out.cell 2]; rfl
            have x3 : wb.cell? ⟨wr.heap.size, 3, none⟩ = some (.slice (some ⟨gs, 0, none⟩) l.length sc) := by rw [HBX.out.cell 3]; rfl
            have x4 : wb.cell? ⟨gs, 2, none⟩ = some (.int .i64 (ct : Int)) := (World.cell?_of_block (HSX.out.block gs hgl (fun e => e))).trans z2
            have lb := HBX.out.lt
            have lg : gs < wb.heap.size := Nat.lt_of_lt_of_le hgl HSX.out.size
            have HOW : Hid (∀ o, Own (wb.alloc o) 179 5 V2 R.length (R.flatMap rtC)) := Lib.hid (fun o => (HO2.out.st HSX.out (Dj.no _)).st (St.alloc' No wb o) (Dj.no _))
            have HNB : Hid (¬ fpV V2 wr.heap.size) := Lib.hid (fun hv => by
              have := HO2.out.in _ hv
              omega)
            obtain ⟨na, nc, rfl, _, _, _, _⟩ := HO2.out.form
            clear c0 c1 c2 c3 z2 d2r
            go_region_held3 (fun w' => w'.cell? ⟨wr.heap.size, 1, none⟩ = some (.int .u64 k2) ∧ w'.cell? ⟨wr.heap.size, 2, none⟩ = some (.int .i64 (age : Int)) ∧ w'.cell? ⟨wr.heap.size, 3, none⟩ = some (.slice (some ⟨gs, 0, none⟩) l.length sc) ∧ w'.cell? ⟨gs, 2, none⟩ = some (.int .i64 (ct : Int))) (go_keep)
              (first
                | (refine step_app rfl (.tmp 34) (.tmp 49) 89 rfl 179 i _ 5 40 Try.underlying89 HI.out HZ.out HSZ.out HBY.out rfl (by decide) (.slice na R.length nc) R.length (R.flatMap rtC) rfl ((HOW.out (.cells #[.int .i64 (n : Int), .int .u64 k2, .int .i64 (l.length : Int), .int .i64 (ct : Int), .int .i64 (age : Int)] 179)).move (fun _ _ => rfl)) (some ⟨wb.heap.size, 0, none⟩) 1 1 (rtC ⟨(n : Int), k2, l.length, ct, age⟩) rfl ((rtOne wb ⟨(n : Int), k2, l.length, ct, age⟩).move (fun _ _ => rfl)) (fun h => by cases h) (by unfold maxLen; omega) (by omega) ?_
                   intro v' w7 ho7 hs7 hn7
                   have hb7 : ∀ q, q < wb.heap.size → ¬ fpV (.slice na R.length nc) q → w7.heap[q]? = wb.heap[q]? := fun q hq hn => (hs7.block q (Nat.lt_of_lt_of_le hq (by simp)) hn).trans (Below.heap_alloc wb _ q hq)
                   have ob7 := HBX.out.move (hb7 wr.heap.size lb HNB.out)
                   have y71 : w7.cell? ⟨wr.heap.size, 1, none⟩ = some (.int .u64 k2) := by rw [ob7.cell 1]; rfl
                   have y72 : w7.cell? ⟨wr.heap.size, 2, none⟩ = some (.int .i64 (age : Int)) := by rw [ob7.cell 2]; rfl
                   have y73 : w7.cell? ⟨wr.heap.size, 3, none⟩ = some (.slice (some ⟨gs, 0, none⟩) l.length sc) := by rw [ob7.cell 3]; rfl
                   have y74 : w7.cell? ⟨gs, 2, none⟩ = some (.int .i64 (ct : Int)) := (World.cell?_of_block (hb7 gs lg HNG.out)).trans x4
                   have HO7 := Lib.hid ho7
                   have HS7 := Lib.hid hs7
                   clear ho7 hs7 hn7 hb7 ob7))
            all_goals go_wp2
            all_goals go_roundw
            case rel =>
              have h7 := HS7.out
              have hzx := HSX.out.size
              refine ⟨k + 1, v', by omega, by simp, rfl, Lib.hid ?_, Lib.hid ?_, Lib.hid ?_⟩
              · rw [HTE.out, if_pos trivial, ← List.append_assoc, HR.out, List.length_append, List.flatMap_append]
                simpa using HO7.out
              · intro j hj
                rcases h7.new j hj with h | h
                · exact HV2.out j h
                · have := HS2.out.size
                  simp at h
                  omega
              · exact ((HS2.out.then HSX.out).then (new1 wb (.cells #[.int .i64 (n : Int), .int .u64 k2, .int .i64 (l.length : Int), .int .i64 (ct : Int), .int .i64 (age : Int)] 179))).thenN ⟨h7.os, h7.tape, h7.output, h7.size, h7.block, h7.new⟩ (fun j hj => HV2.out j hj)
            case measure => simp [intOf]; omega
          · have hyb : (k1 == (n : Int)) = false := by simpa using hy
            go_wp2
            refine ⟨⟨k + 1, V2, by omega, by simp, rfl, Lib.hid ?_, HV2, Lib.hid (HS2.out.then (new1 wr _))⟩, by simp [intOf]; omega⟩
            rw [HTE.out, if_neg hy, List.append_nil, HR.out]
            exact HO2.out.st (new1 wr _) (Dj.no _)
        · obtain rfl : k = L.length := by omega
          have e : rTellTo n rs ++ rTellA (n : Int) (rs.take L.length) = rTellTo (n + 1) rs := by rw [rTellTo_succ, HLL.out, List.take_length]
          rw [e] at HO2
          clear e
          go_wp2
          exact ⟨⟨n + 1, V2, by omega, by simp, rfl, HO2, HV2, HS2⟩, by simp [intOf]; omega⟩
    · obtain rfl : n = 255 := by omega
      go_wp2
      go_ret
      have h1 := HS1.out
      exact ⟨V1, rfl, HO1.out, h1.os, h1.tape, h1.output, h1.size, fun q hq hn => h1.block q hq (fun e => e), fun q hq => .inr (HV1.out q hq)⟩
end Go.Proofs.Ytoeafacamapofaa
