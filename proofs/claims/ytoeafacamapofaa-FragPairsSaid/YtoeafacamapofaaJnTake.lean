
/-
  The program's Joiner: Take.
-/
import Derived.Test.YtoeafacamapofaaJnTake0
namespace Go.Proofs.Ytoeafacamapofaa
open Go.RowKit
set_option linter.unusedVariables false
set_option linter.unusedSimpArgs false

set_option maxRecDepth 100000 in
set_option maxHeartbeats 2000000 in
theorem jtake_calls (a : Option Addr) (c : Nat) (d : List B8) (hl : d.length ≤ 140737488351300) (hlc : d.length ≤ c) (hcm : c ≤ maxLen) (w : World) (ha : Bs w a d) (frm : Int) (hfr : 0 ≤ frm ∧ frm ≤ 255) (F : Nat → Prop) (pj sl ag : Nat) (ss : List PS) (hlen : ss.length ≤ 4096) (h : Jn w F pj sl ag ss) :
    Calls Try.prog 55 #[.pointer (some ⟨pj, 0, none⟩), .int .u8 frm, .slice a d.length c] w (TakeJ w F pj sl ag (takeP sl ss frm d)) := by
  have HJ := Lib.hid h
  obtain ⟨T, hT⟩ : ∃ T, takeP sl ss frm d = T := ⟨_, rfl⟩
  have HT := Lib.hid hT
  rw [hT]
  clear hT h
  by_cases h255 : frm = 255
  · subst h255
    go_enter Try.func55, Try.ntmps55
    go_wp2
    go_ret3
    rw [← HT.out]
    unfold takeP
    rw [if_pos rfl]
    exact TakeJ.nothing 45 HJ.out (St.refl _ _)
  have HLK := Lib.hid (look_calls a c d hl hlc hcm w ha)
  obtain ⟨ler, hler⟩ : ∃ x, lookE d = x := ⟨_, rfl⟩
  obtain ⟨f, hf⟩ : ∃ x, lookF d = x := ⟨_, rfl⟩
  have HLE := Lib.hid hler
  have HLF := Lib.hid hf
  rw [hler, hf] at HLK
  clear hler hf ha
  go_enter Try.func55, Try.ntmps55
  go_wp2_with (go_at_call 46; refine HLK.out.mono ?_; rintro e w1 ⟨Vp, rfl, hop, hs1⟩; have HOP := Lib.hid hop; have HS1 := Lib.hid hs1; clear hop hs1)
  obtain ⟨fa, fc, rfl, p1, p2, p3, p4⟩ := HOP.out.form
  by_cases h0 : ler = 0
  · have hok := look_ok (d := d) (by rw [HLE.out, h0])
    rw [HLF.out] at hok
    subst h0
    have HOK := Lib.hid hok
    obtain ⟨⟨k1, k2, k3, k4, k5, k6, k7⟩, k8, k9⟩ := hok
    obtain ⟨fid, fix, fct, ftt, fpt⟩ := f
    simp only at k1 k2 k3 k4 k5 k6 k7 k8 k9 p1 p2 p3 p4
    have HK7 := Lib.hid k7
    have HP3 := Lib.hid p3
    have HFA : Hid (fa ≠ none) := Lib.hid (fun e => by have := (p4 e).1; omega)
    clear k7 p3 p4 k6
    by_cases h1 : fct = 1
    · subst h1
      go_wp2
      go_ret3
      rw [← HT.out]
      unfold takeP
      rw [if_neg h255, HLE.out, HLF.out, if_neg (by simp), if_pos rfl]
      have hsa := St.alloc' No w1 (.cells #[.int .u64 (fid.toNat : Int), .int .i64 (fix : Int), .int .i64 1, .int .i64 (ftt : Int), .slice fa fpt.length fc] 70)
      have hw := HS1.out.trans (hsa.wide (F' := fpV (.slice fa fpt.length fc)) (G' := fpV (.slice fa fpt.length fc)) (fun _ h => h.elim) (fun _ h => .inl h))
      refine ⟨_, F, rfl, HOP.out.st hsa (Dj.no _), HJ.out.st hw (Dj.no _), ⟨hw.os, hw.tape, hw.output, hw.size, fun k hk _ => hw.block k hk (fun e => e), ?_⟩, ?_⟩
      · rintro k (hk | hk)
        · exact .inl hk
        · exact .inr ((hw.new k hk).elim (fun h => h.elim) id)
      · intro k hk hv
        have := HJ.out.in k hk
        rcases hw.new k hv with h | h
        · exact h
        · omega
    · go_wp2
      obtain ⟨bm, V, D, sm, hjm, hpl, hF⟩ := HJ.out
      have HF := Lib.hid hF
      have HPL := Lib.hid hpl
      have HS2 : Hid (St No w (Nw w) ((w1.alloc (.cells #[.int .u64 (fid.toNat : Int), .int .i64 (fix : Int), .int .i64 (fct : Int), .int .i64 (ftt : Int), .slice fa fpt.length fc] 70)).alloc (.cells #[.int .u8 frm, .int .u64 (fid.toNat : Int)] 174))) := Lib.hid ((HS1.out.toNew.then (St.alloc' No _ _)).then (St.alloc' No _ _))
      have HRF : Hid (Ob ((w1.alloc (.cells #[.int .u64 (fid.toNat : Int), .int .i64 (fix : Int), .int .i64 (fct : Int), .int .i64 (ftt : Int), .slice fa fpt.length fc] 70)).alloc (.cells #[.int .u8 frm, .int .u64 (fid.toNat : Int)] 174)) w1.heap.size 70 #[.int .u64 (fid.toNat : Int), .int .i64 (fix : Int), .int .i64 (fct : Int), .int .i64 (ftt : Int), .slice fa fpt.length fc]) := Lib.hid (lmid2 w1 _ _)
      have HKB : Hid (Ob ((w1.alloc (.cells #[.int .u64 (fid.toNat : Int), .int .i64 (fix : Int), .int .i64 (fct : Int), .int .i64 (ftt : Int), .slice fa fpt.length fc] 70)).alloc (.cells #[.int .u8 frm, .int .u64 (fid.toNat : Int)] 174)) (w1.heap.size + 1) 174 #[.int .u8 frm, .int .u64 (fid.toNat : Int)]) := Lib.hid (lnew2 w1 _ _)
      have HOP2 : Hid (OwB ((w1.alloc (.cells #[.int .u64 (fid.toNat : Int), .int .i64 (fix : Int), .int .i64 (fct : Int), .int .i64 (ftt : Int), .slice fa fpt.length fc] 70)).alloc (.cells #[.int .u8 frm, .int .u64 (fid.toNat : Int)] 174)) (.slice fa fpt.length fc) fpt) := Lib.hid ((HOP.out.st (St.alloc' No _ _) (Dj.no _)).st (St.alloc' No _ _) (Dj.no _))
      generalize ((w1.alloc (.cells #[.int .u64 (fid.toNat : Int), .int .i64 (fix : Int), .int .i64 (fct : Int), .int .i64 (ftt : Int), .slice fa fpt.length fc] 70)).alloc (.cells #[.int .u8 frm, .int .u64 (fid.toNat : Int)] 174)) = w2 at *
      have hj2 := hjm.st HS2.out (Dj.no _)
      have hin := hjm.in
      have hfaN : ∀ k, fpA fa k → w.heap.size ≤ k ∧ k < w1.heap.size := fun k hk => ⟨(HS1.out.new k ((HP3.out k).2 hk)).elim (fun h => h.elim) id, HOP.out.in k ((HP3.out k).2 hk)⟩
      have HFN := Lib.hid hfaN
      have hw1 := HS1.out.size
      have hrl := HRF.out.lt
      have hkl := HKB.out.lt
      have d2 : w2.cell? ⟨pj, 2, none⟩ = some (.map (some bm)) := by rw [hj2.ob.cell 2]; rfl
      obtain ⟨n0, n1, _, _⟩ := HKB.out.two
      obtain ⟨r0, r1, r2, r3, r4⟩ := HRF.out.cells5
      have hlk : ∀ n, (Instr.lookup 161 (.map (some bm)) (.agg #[.int .u8 frm, .int .u64 (fid.toNat : Int)]) false).run Try.prog (w2.drewN n) = .ok (match getS (frm, (fid.toNat : Int)) sm with | some s => .pointer (some ⟨s.p, 0, none⟩) | none => .pointer none) (w2.drewN n) := fun n =>
        (hj2.st (St.drewN No w2 n) (Dj.no _)).lookup (frm, (fid.toNat : Int))
      have HJ2 := Lib.hid hj2
      have HJM := Lib.hid hjm
      have HIN := Lib.hid hin
      clear hjm hpl hF hj2 hfaN hin
      cases hgs : getS (frm, (fid.toNat : Int)) sm with
      | some s =>
        rw [hgs] at hlk
        simp only at hlk
        go_quiet (fail)
        go_wp2_with fail
        obtain ⟨V2, sm1, i, hX⟩ : ∃ V2 sm1 i, Jm (w2.drewN nq) pj bm V2 D sl ag sm1 ∧ sm1[i]? = some s ∧ s.key = (frm, (fid.toNat : Int)) ∧ sm1.map SM.pl = openP sl ss (frm, (fid.toNat : Int)) ⟨fid, fix, fct, ftt, fpt⟩ ∧ Ob (w2.drewN nq) w1.heap.size 70 #[.int .u64 (fid.toNat : Int), .int .i64 (fix : Int), .int .i64 (fct : Int), .int .i64 (ftt : Int), .slice fa fpt.length fc] ∧ Ob (w2.drewN nq) (w1.heap.size + 1) 174 #[.int .u8 frm, .int .u64 (fid.toNat : Int)] ∧ OwB (w2.drewN nq) (.slice fa fpt.length fc) fpt ∧ (∀ k, (fpA fa k ∨ k = w1.heap.size ∨ k = w1.heap.size + 1) → ¬ fpJ pj bm V2 D sm1 k) ∧ St F w (fpJ pj bm V2 D sm1) (w2.drewN nq) ∧ sm1.length ≤ 65536 := by
          obtain ⟨i, hi⟩ := List.getElem?_of_mem (List.mem_of_find?_eq_some hgs)
          refine ⟨V, sm, i, HJ2.out.st (St.drewN No w2 nq) (Dj.no _), hi, getS_key hgs, ?_, HRF.out, HKB.out, HOP2.out.move (fun _ _ => rfl), ?_, ?_, ?_⟩
          · unfold openP
            rw [← HPL.out, getS_pl, hgs]
            rfl
          · intro k hk hf
            have := HIN.out k hf
            rcases hk with hk | rfl | rfl
            · have := HFN.out k hk; omega
            · omega
            · omega
          · have h2 := HS2.out
            exact ⟨h2.os, h2.tape, h2.output, h2.size, fun k hk _ => h2.block k hk (fun e => e), fun k hk => .inl ((HF.out k).2 hk)⟩
          · have := congrArg List.length HPL.out
            simp at this
            omega
        generalize w2.drewN nq = wd at *
        clear hlk d2 n0 n1 r0 r1 r2 r3 r4
        obtain ⟨hjx, hix, hkx, hmx, hrx, hbx, hox, hax, hsx, hlx⟩ := hX
        have hs := hjx.slots s (List.mem_of_getElem? hix)
        have x0 : wd.cell? ⟨s.p, 0, none⟩ = some (.int .i64 (s.total : Int)) := by rw [hs.ob.cell 0]; rfl
        have x1 : wd.cell? ⟨s.p, 1, none⟩ = some (.int .i64 (s.got : Int)) := by rw [hs.ob.cell 1]; rfl
        have x3 : wd.cell? ⟨s.p, 3, none⟩ = some (.slice (some ⟨s.g, 0, none⟩) s.ps.length s.ps.length) := by rw [hs.ob.cell 3]; rfl
        obtain ⟨r0, r1, r2, r3, r4⟩ := hrx.cells5
        have hro : ∀ j (hj : j < s.ps.length), wd.cell? ⟨s.g, j, none⟩ = some s.ps[j].val := fun j hj => by rw [hs.row.cell j]; simp [hj]
        have HJX := Lib.hid hjx
        have HIX := Lib.hid hix
        have HKX := Lib.hid hkx
        have HMX := Lib.hid hmx
        have HRX := Lib.hid hrx
        have HBX := Lib.hid hbx
        have HOX := Lib.hid hox
        have HAX := Lib.hid hax
        have HSX := Lib.hid hsx
        have HSO := Lib.hid hs
        have HRO := Lib.hid hro
        have HJD : Hid (∀ n, Jm (wd.drewN n) pj bm V2 D sl ag sm1) := Lib.hid (fun n => hjx.st (St.drewN No wd n) (Dj.no _))
        have HSD : Hid (∀ n, St F w (fpJ pj bm V2 D sm1) (wd.drewN n)) := Lib.hid (fun n => hsx.trans (St.drewN _ wd n))
        clear hjx hix hkx hmx hrx hbx hox hax hsx hs hro
        by_cases ht : s.total = ftt
        · have b1 : (((s.total : Nat) : Int) != (ftt : Int)) = false := by rw [ht]; simp
          have b1' : (s.total != ftt) = false := by rw [ht]; simp
          by_cases hn : s.ps.length = fct
          · have b2 : (((s.ps.length : Nat) : Int) != (fct : Int)) = false := by rw [hn]; simp
            have b2' : (s.ps.length != fct) = false := by rw [hn]; simp
            go_quiet (fail)
            rename Nat => nqa
            go_wp2_with fail
            have hxl : fix < s.ps.length := by omega
            have hxi : (fix : Int) < (s.ps.length : Int) := by omega
            have HTT := Lib.hid ht
            have HNN := Lib.hid hn
            clear ht hn b1 b1' b2 b2'
            have cr := HRO.out fix hxl
            have hpr := HSO.out.parts s.ps[fix] (List.getElem_mem hxl)
            have hpd : s.pl.parts.getD fix [] = s.ps[fix].bs := by simp [SM.pl, hxl]
            have HPD := Lib.hid hpd
            have HPE : Hid (s.ps[fix]'hxl = s.ps[fix]'hxl) := Lib.hid rfl
            generalize hrr : s.ps[fix] = r at *
            obtain ⟨ra, rc, rb⟩ := r
            simp only [PR.val] at cr
            have HPR := Lib.hid hpr
            have HRR := Lib.hid hrr
            have hne := fun W => run_neq_slice_nil (P := Try.prog) W 25 5 ra rb.length rc Try.underlying25
            clear hpd hpr hrr HPE
            by_cases hra : ra = none
            · subst hra
              go_quiet (fail)
              go_wp2_with fail
              have hfg := HSO.out.row.free fix
              have hfp := HSO.out.ob.free 1
              have hgb : s.got ≤ 128 := by
                rw [HSO.out.got]
                have h1 := List.length_filter_le (fun r => !r.bs.isEmpty) s.ps
                have h2 := HSO.out.count
                omega
              have hpg : s.p ≠ s.g := by
                have h1 := HJX.out.apart
                simp only [List.nodup_cons] at h1
                exact blkS_self h1.2.2 HIX.out
              have hgp : s.g ≠ s.p := fun e => hpg e.symm
              go_region
              go_wp2_with fail
              have hr0 : (s.ps[fix]'hxl).bs = [] := by rw [HRR.out]; exact HPR.out.nil.1 rfl
              have hpa := fun n => put_all (HJD.out n) HIX.out hxl hr0 (HOX.out.move (fun _ _ => rfl) : OwB (wd.drewN n) _ _) k8 (by omega) (HRX.out.drewN n) (HBX.out.drewN n) HAX.out (HSD.out n) (fun k hk => (HFN.out k hk).1) ((s.got : Int) + 1) rfl
              obtain ⟨we, hwe⟩ : ∃ we, we = (((wd.drewN (nqa + nq + 1)).setCell ⟨s.g, fix, none⟩ (.slice fa fpt.length fc)).setCell ⟨s.p, 1, none⟩ (.int .i64 ((s.got : Int) + 1))) := ⟨_, rfl⟩
              have hpe := hpa (nqa + nq + 1)
              rw [← hwe] at hpe ⊢
              clear hwe hpa
              obtain ⟨hje, hse, hre, hbe⟩ := hpe
              have hil := (List.getElem?_eq_some_iff.1 HIX.out).1
              have hs2 := hje.slots (s.fill fix ⟨fa, fc, fpt⟩) (List.mem_iff_getElem?.2 ⟨i, List.getElem?_set_self hil⟩)
              have htl := HSO.out.total
              have hcl := HSO.out.count
              have y0 : we.cell? ⟨s.p, 0, none⟩ = some (.int .i64 (s.total : Int)) := (hs2.ob.cell 0).trans rfl
              have y1 : we.cell? ⟨s.p, 1, none⟩ = some (.int .i64 ((s.got : Int) + 1)) := (hs2.ob.cell 1).trans (by rw [← cast1]; rfl)
              have e2 : we.cell? ⟨w1.heap.size, 2, none⟩ = some (.int .i64 (fct : Int)) := by rw [hre.cell 2]; rfl
              have HJE := Lib.hid hje
              have HSE := Lib.hid hse
              have HBE := Lib.hid hbe
              have HS2O := Lib.hid hs2
              clear hje hse hre hbe hs2 x0 x1 x3 r0 r1 r2 r3 r4 cr hne hfg hfp hpg hgp
              have hc0 : ¬ (s.pl.total ≠ ftt ∨ s.pl.parts.length ≠ fct) := by simp only [SM.pl, List.length_map]; rw [HTT.out, HNN.out]; simp
              have hp0 : s.pl.parts.getD fix [] = [] := by rw [HPD.out]; exact HPR.out.nil.1 rfl
              have HC0 := Lib.hid hc0
              have HP0 := Lib.hid hp0
              clear hc0 hp0
              by_cases hlt : s.got + 1 < fct
              · go_quiet (fail)
                go_wp2
                go_ret3
                exact TakeJ.more h255 HT.out HLE.out HLF.out h1 HMX.out (getP_set HJX.out HIX.out HKX.out) HC0.out HP0.out hlt rfl HJX.out.keys HIX.out HKX.out (HJE.out.st (St.drewN No we _) (Dj.no _)) (HSE.out.trans (St.drewN _ we _))
              · have hml : ¬ ((s.got : Int) + 1 < (fct : Int)) := by omega
                go_quiet (fail)
                rename Nat => nqb
                have hmk : ∀ W, (Instr.makeSlice 25 (.int .i64 (s.total : Int)) (.int .i64 (s.total : Int))).run Try.prog W = .ok (.slice (some ⟨W.heap.size, 0, none⟩) s.total s.total) (W.alloc (.cells (zeroRow s.total) 5)) := fun W => make_bytes W s.total (by omega)
                have y3 : we.cell? ⟨s.p, 3, none⟩ = some (.slice (some ⟨s.g, 0, none⟩) s.ps.length s.ps.length) := (HS2O.out.ob.cell 3).trans (by simp [SM.cells, SM.fill])
                have hpl2 : s.p < we.heap.size := HS2O.out.ob.lt
                have z3 : ((we.drewN nqb).alloc (.cells (zeroRow s.total) 5)).cell? ⟨s.p, 3, none⟩ = some (.slice (some ⟨s.g, 0, none⟩) s.ps.length s.ps.length) := (World.cell?_of_block (w := we) (Below.heap_alloc (we.drewN nqb) _ s.p hpl2)).trans y3
                go_wp2
                have HOBM : Hid (Ob ((we.drewN nqb).alloc (.cells (zeroRow s.total) 5)) we.heap.size 5 (bv (layT s.total [])).toArray) := Lib.hid (by rw [layT_nil]; exact heap_alloc_new (we.drewN nqb) _)
                have HSM : Hid (St No we (Nw we) ((we.drewN nqb).alloc (.cells (zeroRow s.total) 5))) := Lib.hid (((St.drewN No we nqb).trans (St.alloc' No _ _)).toNew)
                generalize (we.drewN nqb).alloc (.cells (zeroRow s.total) 5) = wm at *
                go_loopw [15, 117] (fun x t wr => ∃ k : Nat, k ≤ s.ps.length ∧ t = .int .i64 k ∧ x = .int .i64 ((min s.total (((s.fill fix ⟨fa, fc, fpt⟩).ps.take k).map (·.bs)).flatten.length : Nat) : Int) ∧ Hid (Ob wr we.heap.size 5 (bv (layT s.total (((s.fill fix ⟨fa, fc, fpt⟩).ps.take k).map (·.bs)).flatten)).toArray) ∧ Hid (St (fpB we.heap.size) wm (Nb wm we.heap.size) wr)) (fun _ t _ => s.ps.length - (intOf t).toNat)
                case atStart =>
                  exact ⟨0, by omega, rfl, by simp, HOBM, Lib.hid ⟨rfl, rfl, rfl, Nat.le_refl _, fun _ _ _ => rfl, fun _ h => h⟩⟩
                case round =>
                  obtain ⟨k, hk, rfl, rfl, HO, HS⟩ := hrel
                  have hsm := HSM.out.thenN HS.out (fun j hj => by have e : j = we.heap.size := hj; omega)
                  have hm : min s.total (((s.fill fix ⟨fa, fc, fpt⟩).ps.take k).map (·.bs)).flatten.length ≤ s.total := Nat.min_le_left _ _
                  have hs2w := HS2O.out.st hsm (fun e => e) (fun e => e) (fun _ h => h.elim)
                  have hpn : (s.fill fix ⟨fa, fc, fpt⟩).ps.length = s.ps.length := by simp [SM.fill]
                  by_cases hkl : k < s.ps.length
                  · have hk2 : k < (s.fill fix ⟨fa, fc, fpt⟩).ps.length := by omega
                    have hcr : wr.cell? ⟨s.g, k, none⟩ = some ((s.fill fix ⟨fa, fc, fpt⟩).ps[k]).val := (hs2w.row.cell k).trans (by simp [hk2])
                    have hpr := hs2w.parts _ (List.getElem_mem hk2)
                    have hst := layT_step s.total (((s.fill fix ⟨fa, fc, fpt⟩).ps.take k).map (·.bs)).flatten ((s.fill fix ⟨fa, fc, fpt⟩).ps[k]).bs
                    have htk : ((((s.fill fix ⟨fa, fc, fpt⟩).ps.take (k + 1)).map (·.bs)).flatten) = ((((s.fill fix ⟨fa, fc, fpt⟩).ps.take k).map (·.bs)).flatten) ++ ((s.fill fix ⟨fa, fc, fpt⟩).ps[k]).bs := by
                      rw [List.take_succ_eq_append_getElem hk2, List.map_append, List.flatten_append]
                      simp
                    have HTK := Lib.hid htk
                    have hll := layT_len s.total (((s.fill fix ⟨fa, fc, fpt⟩).ps.take k).map (·.bs)).flatten
                    generalize hFk : (((s.fill fix ⟨fa, fc, fpt⟩).ps.take k).map (·.bs)).flatten = Fk at *
                    have HFK := Lib.hid hFk
                    generalize hrk : (s.fill fix ⟨fa, fc, fpt⟩).ps[k] = rk at *
                    have HRK := Lib.hid hrk
                    obtain ⟨qa, qc, qb⟩ := rk
                    simp only [PR.val] at hcr
                    generalize hmm : min s.total Fk.length = m at *
                    have HMM := Lib.hid hmm
                    have HST := Lib.hid hst
                    have HPRK := Lib.hid hpr
                    have HLL := Lib.hid hll
                    have HSMR := Lib.hid hsm
                    have hki : (k : Int) < (s.ps.length : Int) := by omega
                    clear htk hFk hrk hmm hst hpr hll hsm hs2w hpn
                    have hmf2 : min qb.length (s.total - m) ≤ s.total := by omega
                    by_cases hmt : m = s.total
                    · have hcp := fun W => run_copy0 W (some ⟨we.heap.size, 0, none⟩) qa 0 qb.length qc 3
                      have hz : min qb.length (s.total - m) = 0 := by omega
                      have HZ := Lib.hid hz
                      have HMT := Lib.hid hmt
                      subst hmt
                      clear hz hmf2
                      go_wp2
                      refine ⟨⟨k + 1, by omega, by simp, ?_, Lib.hid ?_, HS⟩, by simp [intOf]; omega⟩
                      · have h1 := HMM.out
                        rw [HTK.out, List.length_append]
                        congr 1
                        omega
                      · rw [HTK.out]
                        have h1 := HST.out
                        rw [HZ.out, Nat.add_zero, List.take_of_length_le (by rw [HLL.out]; exact Nat.le_refl _), List.drop_eq_nil_of_le (by rw [HLL.out]; exact Nat.le_refl _), List.take_zero, List.append_nil, List.append_nil] at h1
                        rw [h1]
                        exact HO.out
                    · obtain ⟨wc, hcp, hoc, hsc⟩ := run_copyAt wr we.heap.size m (s.total - m) _ HO.out (by rw [HLL.out]; exact hm) qa qc qb HPRK.out.bs 3
                      rw [HLL.out] at hcp hoc
                      rw [← HST.out] at hoc
                      generalize hmn : min qb.length (s.total - m) = mm at *
                      have HMN := Lib.hid hmn
                      have HOC := Lib.hid hoc
                      have HSC := Lib.hid hsc
                      clear hmn hoc hsc
                      go_wp2
                      refine ⟨⟨k + 1, by omega, by simp, ?_, Lib.hid ?_, Lib.hid (HS.out.nb HSC.out (fun j hj => .inl hj))⟩, by simp [intOf]; omega⟩
                      · have h1 := HMM.out
                        have h2 := HMN.out
                        rw [HTK.out, List.length_append]
                        show _ = Value.int .i64 ((min s.total (Fk.length + qb.length) : Nat) : Int)
                        congr 1
                        omega
                      · rw [HTK.out]
                        exact HOC.out
                  · obtain rfl : k = s.ps.length := by omega
                    have hall : (s.fill fix ⟨fa, fc, fpt⟩).ps.take s.ps.length = (s.fill fix ⟨fa, fc, fpt⟩).ps := by rw [← hpn, List.take_length]
                    rw [hall] at HO hm ⊢
                    have hjr := HJE.out.st hsm (Dj.no _)
                    have hkb := HBE.out.move (hsm.block _ HBE.out.lt (fun e => e))
                    have hnb : w1.heap.size + 1 ≠ bm := fun e => HAX.out _ (.inr (.inr rfl)) (.inl (by simp [e]))
                    have hll2 : (sm1.set i (s.fill fix ⟨fa, fc, fpt⟩)).length ≤ 65536 := by rw [List.length_set]; exact hlx
                    have HDR := Lib.hid (jdrop_calls 96 (fun a b W => by kernel_rfl) (.pointer (some ⟨w1.heap.size + 1, 0, none⟩)) (fun y => decide (y = (frm, (fid.toNat : Int)))) wr pj bm _ _ sl ag _ hll2 hjr (asks_take wr bm _ (w1.heap.size + 1) hnb (frm, (fid.toNat : Int)) hkb))
                    have hmf : ∀ (fn : Fn) (first cap : Array Value) (w : World), (Instr.makeFunc fn first cap).run Try.prog w = .ok (.func fn first cap) w := fun _ _ _ _ => rfl
                    have HSMR := Lib.hid hsm
                    generalize hmm : min s.total ((s.fill fix ⟨fa, fc, fpt⟩).ps.map (·.bs)).flatten.length = m at *
                    have hgl : we.heap.size < wr.heap.size := HO.out.lt
                    clear hsm hs2w hpn hall hjr hkb hmm
                    go_wp2_with (go_at_call 95; refine HDR.out.mono ?_; rintro e wf ⟨rfl, V4, hj4, hs4⟩; have HJ4 := Lib.hid hj4; have HS4 := Lib.hid hs4; clear hj4 hs4)
                    go_ret3
                    have hin4 := HJE.out.in
                    have hng : ¬ fpJ pj bm V2 (fun k => D k ∨ fpA fa k) (sm1.set i (s.fill fix ⟨fa, fc, fpt⟩)) we.heap.size := fun h => by have := hin4 _ h; omega
                    refine TakeJ.whole h255 HT.out HLE.out HLF.out h1 HMX.out (getP_set HJX.out HIX.out HKX.out) HC0.out HP0.out hlt rfl HJX.out.keys HIX.out HKX.out htl HJ4.out (HSE.out.trans ((HSMR.out.wide (F' := fpJ pj bm V2 (fun k => D k ∨ fpA fa k) (sm1.set i (s.fill fix ⟨fa, fc, fpt⟩))) (G' := fpJ pj bm V2 (fun k => D k ∨ fpA fa k) (sm1.set i (s.fill fix ⟨fa, fc, fpt⟩))) (fun _ h => h.elim) (fun k hk => .inl hk)).trans HS4.out)) (HO.out.move (HS4.out.block _ hgl hng)) HSE.out.size (fun h => ?_)
                    rcases HS4.out.new _ h with h | h
                    · exact hng h
                    · omega
            · obtain ⟨ya, rfl⟩ := Option.ne_none_iff_exists'.1 hra
              go_quiet (fail)
              have hv1 := fun n => conv_bs (w := wd.drewN n) (c := rc) (HPR.out.bs.drewN n)
              have hv2 := fun n => conv_bs (w := wd.drewN n) (c := fc) ((OwB.bs HOX.out).drewN n)
              have hbq := strB_beq rb fpt
              have hne1 : s.pl.parts.getD fix [] ≠ [] := by
                rw [HPD.out]
                intro e
                exact hra (HPR.out.nil.2 e)
              have HOLD := Lib.hid (fun n => TakeJ.old (s := s) h255 HT.out HLE.out HLF.out h1 HMX.out (getP_set HJX.out HIX.out HKX.out) (by simp only [SM.pl, List.length_map]; rw [HTT.out, HNN.out]; simp) hne1 (HJD.out n) (HSD.out n))
              simp only [HPD.out] at HOLD
              clear hne1
              by_cases he : rb = fpt
              · rw [decide_eq_true he] at hbq
                rw [if_pos he] at HOLD
                clear he
                go_wp2
                go_ret3
                exact HOLD.out _
              · rw [decide_eq_false he] at hbq
                rw [if_neg he] at HOLD
                clear he
                go_wp2
                go_ret3
                exact HOLD.out _
          · have b2 : (((s.ps.length : Nat) : Int) != (fct : Int)) = true := by rw [bne_iff_ne]; omega
            have b2' : (s.ps.length != fct) = true := by rw [bne_iff_ne]; exact hn
            go_quiet (fail)
            go_wp2_with fail
            go_ret3
            exact TakeJ.clash h255 HT.out HLE.out HLF.out h1 HMX.out (getP_set HJX.out HIX.out HKX.out) (.inr (by simpa [SM.pl] using hn)) (HJD.out _) (HSD.out _)
        · have b1 : (((s.total : Nat) : Int) != (ftt : Int)) = true := by rw [bne_iff_ne]; omega
          have b1' : (s.total != ftt) = true := by rw [bne_iff_ne]; exact ht
          go_quiet (fail)
          go_wp2_with fail
          go_ret3
          exact TakeJ.clash h255 HT.out HLE.out HLF.out h1 HMX.out (getP_set HJX.out HIX.out HKX.out) (.inl ht) (HJD.out _) (HSD.out _)
      | none =>
        rw [hgs] at hlk
        simp only at hlk
        go_quiet (fail)
        go_wp2_with fail
        have hln : sm.length ≤ 65536 := by
          have := congrArg List.length HPL.out
          simp at this
          omega
        refine (begin_calls (w2.drewN nq) pj bm V D sl ag sm hln (HJ2.out.st (St.drewN No w2 nq) (Dj.no _)) frm (fid.toNat : Int) ⟨hfr.1, by omega⟩ (fun s hs => getS_no hgs s hs) (fid.toNat : Int) (fix : Int) ftt fct (by omega) (by omega) (.slice fa fpt.length fc)).mono ?_
        rintro e wd ⟨bp, bg, V3, rfl, hj3, hs3⟩
        obtain ⟨V2, sm1, i, s, hsp, hX⟩ : ∃ (V2 : Value) (sm1 : List SM) (i : Nat) (s : SM), s.p = bp ∧ Jm wd pj bm V2 D sl ag sm1 ∧ sm1[i]? = some s ∧ s.key = (frm, (fid.toNat : Int)) ∧ sm1.map SM.pl = openP sl ss (frm, (fid.toNat : Int)) ⟨fid, fix, fct, ftt, fpt⟩ ∧ Ob wd w1.heap.size 70 #[.int .u64 (fid.toNat : Int), .int .i64 (fix : Int), .int .i64 (fct : Int), .int .i64 (ftt : Int), .slice fa fpt.length fc] ∧ Ob wd (w1.heap.size + 1) 174 #[.int .u8 frm, .int .u64 (fid.toNat : Int)] ∧ OwB wd (.slice fa fpt.length fc) fpt ∧ (∀ k, (fpA fa k ∨ k = w1.heap.size ∨ k = w1.heap.size + 1) → ¬ fpJ pj bm V2 D sm1 k) ∧ St F w (fpJ pj bm V2 D sm1) wd ∧ sm1.length ≤ 65536 := by
          have hlo : ∀ k, fpJ pj bm V3 D (beginS sl (frm, (fid.toNat : Int)) sm ++ [newSM (frm, (fid.toNat : Int)) bp bg ftt fct]) k → fpJ pj bm V D sm k ∨ w2.heap.size ≤ k := hs3.new
          refine ⟨V3, _, (beginS sl (frm, (fid.toNat : Int)) sm).length, newSM (frm, (fid.toNat : Int)) bp bg ftt fct, rfl, hj3, by simp, rfl, ?_, HRF.out.move (hs3.block _ (by simpa using hrl) (fun hf => by have := HIN.out _ hf; omega)), HKB.out.move (hs3.block _ (by simpa using hkl) (fun hf => by have := HIN.out _ hf; omega)), HOP2.out.move (fun k hk => hs3.block k (by simpa using HOP2.out.in k hk) (fun hf => by have := HIN.out _ hf; have := HFN.out k ((HP3.out k).1 hk); omega)), ?_, ?_, ?_⟩
          · unfold openP
            rw [← HPL.out, getS_pl, hgs, List.map_append, List.map_singleton, newSM_pl, beginS_pl]
            rfl
          · intro k hk hf
            rcases hlo k hf with h | h
            · have := HIN.out k h
              rcases hk with hk | rfl | rfl
              · have := HFN.out k hk; omega
              · omega
              · omega
            · rcases hk with hk | rfl | rfl
              · have := HFN.out k hk; omega
              · omega
              · omega
          · have h2 := HS2.out
            refine ⟨hs3.os.trans h2.os, hs3.tape.trans h2.tape, hs3.output.trans h2.output, Nat.le_trans h2.size hs3.size, fun k hk hn => ?_, fun k hk => (hlo k hk).imp (fun h => (HF.out k).2 h) (fun h => Nat.le_trans h2.size h)⟩
            rw [hs3.block k (Nat.lt_of_lt_of_le hk h2.size) (fun hf => hn ((HF.out k).2 hf))]
            exact h2.block k hk (fun e => e)
          · rw [List.length_append, List.length_singleton]
            have h1 : (beginS sl (frm, (fid.toNat : Int)) sm).length ≤ sm.length := by
              unfold beginS
              split
              · exact keepS_len _ _
              · exact Nat.le_refl _
            have := congrArg List.length HPL.out
            simp at this
            omega
        rw [← hsp]
        clear hlk d2 n0 n1 r0 r1 r2 r3 r4 hj3 hs3 hgs hsp
        go_wp2_with fail
        obtain ⟨hjx, hix, hkx, hmx, hrx, hbx, hox, hax, hsx, hlx⟩ := hX
        have hs := hjx.slots s (List.mem_of_getElem? hix)
        have x0 : wd.cell? ⟨s.p, 0, none⟩ = some (.int .i64 (s.total : Int)) := by rw [hs.ob.cell 0]; rfl
        have x1 : wd.cell? ⟨s.p, 1, none⟩ = some (.int .i64 (s.got : Int)) := by rw [hs.ob.cell 1]; rfl
        have x3 : wd.cell? ⟨s.p, 3, none⟩ = some (.slice (some ⟨s.g, 0, none⟩) s.ps.length s.ps.length) := by rw [hs.ob.cell 3]; rfl
        obtain ⟨r0, r1, r2, r3, r4⟩ := hrx.cells5
        have hro : ∀ j (hj : j < s.ps.length), wd.cell? ⟨s.g, j, none⟩ = some s.ps[j].val := fun j hj => by rw [hs.row.cell j]; simp [hj]
        have HJX := Lib.hid hjx
        have HIX := Lib.hid hix
        have HKX := Lib.hid hkx
        have HMX := Lib.hid hmx
        have HRX := Lib.hid hrx
        have HBX := Lib.hid hbx
        have HOX := Lib.hid hox
        have HAX := Lib.hid hax
        have HSX := Lib.hid hsx
        have HSO := Lib.hid hs
        have HRO := Lib.hid hro
        have HJD : Hid (∀ n, Jm (wd.drewN n) pj bm V2 D sl ag sm1) := Lib.hid (fun n => hjx.st (St.drewN No wd n) (Dj.no _))
        have HSD : Hid (∀ n, St F w (fpJ pj bm V2 D sm1) (wd.drewN n)) := Lib.hid (fun n => hsx.trans (St.drewN _ wd n))
        clear hjx hix hkx hmx hrx hbx hox hax hsx hs hro
        by_cases ht : s.total = ftt
        · have b1 : (((s.total : Nat) : Int) != (ftt : Int)) = false := by rw [ht]; simp
          have b1' : (s.total != ftt) = false := by rw [ht]; simp
          by_cases hn : s.ps.length = fct
          · have b2 : (((s.ps.length : Nat) : Int) != (fct : Int)) = false := by rw [hn]; simp
            have b2' : (s.ps.length != fct) = false := by rw [hn]; simp
            go_quiet (fail)
            rename Nat => nqa
            go_wp2_with fail
            have hxl : fix < s.ps.length := by omega
            have hxi : (fix : Int) < (s.ps.length : Int) := by omega
            have HTT := Lib.hid ht
            have HNN := Lib.hid hn
            clear ht hn b1 b1' b2 b2'
            have cr := HRO.out fix hxl
            have hpr := HSO.out.parts s.ps[fix] (List.getElem_mem hxl)
            have hpd : s.pl.parts.getD fix [] = s.ps[fix].bs := by simp [SM.pl, hxl]
            have HPD := Lib.hid hpd
            have HPE : Hid (s.ps[fix]'hxl = s.ps[fix]'hxl) := Lib.hid rfl
            generalize hrr : s.ps[fix] = r at *
            obtain ⟨ra, rc, rb⟩ := r
            simp only [PR.val] at cr
            have HPR := Lib.hid hpr
            have HRR := Lib.hid hrr
            have hne := fun W => run_neq_slice_nil (P := Try.prog) W 25 5 ra rb.length rc Try.underlying25
            clear hpd hpr hrr HPE
            by_cases hra : ra = none
            · subst hra
              go_quiet (fail)
              go_wp2_with fail
              have hfg := HSO.out.row.free fix
              have hfp := HSO.out.ob.free 1
              have hgb : s.got ≤ 128 := by
                rw [HSO.out.got]
                have h1 := List.length_filter_le (fun r => !r.bs.isEmpty) s.ps
                have h2 := HSO.out.count
                omega
              have hpg : s.p ≠ s.g := by
                have h1 := HJX.out.apart
                simp only [List.nodup_cons] at h1
                exact blkS_self h1.2.2 HIX.out
              have hgp : s.g ≠ s.p := fun e => hpg e.symm
              go_region
              go_wp2_with fail
              have hr0 : (s.ps[fix]'hxl).bs = [] := by rw [HRR.out]; exact HPR.out.nil.1 rfl
              have hpa := fun n => put_all (HJD.out n) HIX.out hxl hr0 (HOX.out.move (fun _ _ => rfl) : OwB (wd.drewN n) _ _) k8 (by omega) (HRX.out.drewN n) (HBX.out.drewN n) HAX.out (HSD.out n) (fun k hk => (HFN.out k hk).1) ((s.got : Int) + 1) rfl
              obtain ⟨we, hwe⟩ : ∃ we, we = (((wd.drewN (nqa + nq + 1)).setCell ⟨s.g, fix, none⟩ (.slice fa fpt.length fc)).setCell ⟨s.p, 1, none⟩ (.int .i64 ((s.got : Int) + 1))) := ⟨_, rfl⟩
              have hpe := hpa (nqa + nq + 1)
              rw [← hwe] at hpe ⊢
              clear hwe hpa
              obtain ⟨hje, hse, hre, hbe⟩ := hpe
              have hil := (List.getElem?_eq_some_iff.1 HIX.out).1
              have hs2 := hje.slots (s.fill fix ⟨fa, fc, fpt⟩) (List.mem_iff_getElem?.2 ⟨i, List.getElem?_set_self hil⟩)
              have htl := HSO.out.total
              have hcl := HSO.out.count
              have y0 : we.cell? ⟨s.p, 0, none⟩ = some (.int .i64 (s.total : Int)) := (hs2.ob.cell 0).trans rfl
              have y1 : we.cell? ⟨s.p, 1, none⟩ = some (.int .i64 ((s.got : Int) + 1)) := (hs2.ob.cell 1).trans (by rw [← cast1]; rfl)
              have e2 : we.cell? ⟨w1.heap.size, 2, none⟩ = some (.int .i64 (fct : Int)) := by rw [hre.cell 2]; rfl
              have HJE := Lib.hid hje
              have HSE := Lib.hid hse
              have HBE := Lib.hid hbe
              have HS2O := Lib.hid hs2
              clear hje hse hre hbe hs2 x0 x1 x3 r0 r1 r2 r3 r4 cr hne hfg hfp hpg hgp
              have hc0 : ¬ (s.pl.total ≠ ftt ∨ s.pl.parts.length ≠ fct) := by simp only [SM.pl, List.length_map]; rw [HTT.out, HNN.out]; simp
              have hp0 : s.pl.parts.getD fix [] = [] := by rw [HPD.out]; exact HPR.out.nil.1 rfl
              have HC0 := Lib.hid hc0
              have HP0 := Lib.hid hp0
              clear hc0 hp0
              by_cases hlt : s.got + 1 < fct
              · go_quiet (fail)
                go_wp2
                go_ret3
                exact TakeJ.more h255 HT.out HLE.out HLF.out h1 HMX.out (getP_set HJX.out HIX.out HKX.out) HC0.out HP0.out hlt rfl HJX.out.keys HIX.out HKX.out (HJE.out.st (St.drewN No we _) (Dj.no _)) (HSE.out.trans (St.drewN _ we _))
              · have hml : ¬ ((s.got : Int) + 1 < (fct : Int)) := by omega
                go_quiet (fail)
                rename Nat => nqb
                have hmk : ∀ W, (Instr.makeSlice 25 (.int .i64 (s.total : Int)) (.int .i64 (s.total : Int))).run Try.prog W = .ok (.slice (some ⟨W.heap.size, 0, none⟩) s.total s.total) (W.alloc (.cells (zeroRow s.total) 5)) := fun W => make_bytes W s.total (by omega)
                have y3 : we.cell? ⟨s.p, 3, none⟩ = some (.slice (some ⟨s.g, 0, none⟩) s.ps.length s.ps.length) := (HS2O.out.ob.cell 3).trans (by simp [SM.cells, SM.fill])
                have hpl2 : s.p < we.heap.size := HS2O.out.ob.lt
                have z3 : ((we.drewN nqb).alloc (.cells (zeroRow s.total) 5)).cell? ⟨s.p, 3, none⟩ = some (.slice (some ⟨s.g, 0, none⟩) s.ps.length s.ps.length) := (World.cell?_of_block (w := we) (Below.heap_alloc (we.drewN nqb) _ s.p hpl2)).trans y3
                go_wp2
                have HOBM : Hid (Ob ((we.drewN nqb).alloc (.cells (zeroRow s.total) 5)) we.heap.size 5 (bv (layT s.total [])).toArray) := Lib.hid (by rw [layT_nil]; exact heap_alloc_new (we.drewN nqb) _)
                have HSM : Hid (St No we (Nw we) ((we.drewN nqb).alloc (.cells (zeroRow s.total) 5))) := Lib.hid (((St.drewN No we nqb).trans (St.alloc' No _ _)).toNew)
                generalize (we.drewN nqb).alloc (.cells (zeroRow s.total) 5) = wm at *
                go_loopw [15, 117] (fun x t wr => ∃ k : Nat, k ≤ s.ps.length ∧ t = .int .i64 k ∧ x = .int .i64 ((min s.total (((s.fill fix ⟨fa, fc, fpt⟩).ps.take k).map (·.bs)).flatten.length : Nat) : Int) ∧ Hid (Ob wr we.heap.size 5 (bv (layT s.total (((s.fill fix ⟨fa, fc, fpt⟩).ps.take k).map (·.bs)).flatten)).toArray) ∧ Hid (St (fpB we.heap.size) wm (Nb wm we.heap.size) wr)) (fun _ t _ => s.ps.length - (intOf t).toNat)
                case atStart =>
                  exact ⟨0, by omega, rfl, by simp, HOBM, Lib.hid ⟨rfl, rfl, rfl, Nat.le_refl _, fun _ _ _ => rfl, fun _ h => h⟩⟩
                case round =>
                  obtain ⟨k, hk, rfl, rfl, HO, HS⟩ := hrel
                  have hsm := HSM.out.thenN HS.out (fun j hj => by have e : j = we.heap.size := hj; omega)
                  have hm : min s.total (((s.fill fix ⟨fa, fc, fpt⟩).ps.take k).map (·.bs)).flatten.length ≤ s.total := Nat.min_le_left _ _
                  have hs2w := HS2O.out.st hsm (fun e => e) (fun e => e) (fun _ h => h.elim)
                  have hpn : (s.fill fix ⟨fa, fc, fpt⟩).ps.length = s.ps.length := by simp [SM.fill]
                  by_cases hkl : k < s.ps.length
                  · have hk2 : k < (s.fill fix ⟨fa, fc, fpt⟩).ps.length := by omega
                    have hcr : wr.cell? ⟨s.g, k, none⟩ = some ((s.fill fix ⟨fa, fc, fpt⟩).ps[k]).val := (hs2w.row.cell k).trans (by simp [hk2])
                    have hpr := hs2w.parts _ (List.getElem_mem hk2)
                    have hst := layT_step s.total (((s.fill fix ⟨fa, fc, fpt⟩).ps.take k).map (·.bs)).flatten ((s.fill fix ⟨fa, fc, fpt⟩).ps[k]).bs
                    have htk : ((((s.fill fix ⟨fa, fc, fpt⟩).ps.take (k + 1)).map (·.bs)).flatten) = ((((s.fill fix ⟨fa, fc, fpt⟩).ps.take k).map (·.bs)).flatten) ++ ((s.fill fix ⟨fa, fc, fpt⟩).ps[k]).bs := by
                      rw [List.take_succ_eq_append_getElem hk2, List.map_append, List.flatten_append]
                      simp
                    have HTK := Lib.hid htk
                    have hll := layT_len s.total (((s.fill fix ⟨fa, fc, fpt⟩).ps.take k).map (·.bs)).flatten
                    generalize hFk : (((s.fill fix ⟨fa, fc, fpt⟩).ps.take k).map (·.bs)).flatten = Fk at *
                    have HFK := Lib.hid hFk
                    generalize hrk : (s.fill fix ⟨fa, fc, fpt⟩).ps[k] = rk at *
                    have HRK := Lib.hid hrk
                    obtain ⟨qa, qc, qb⟩ := rk
                    simp only [PR.val] at hcr
                    generalize hmm : min s.total Fk.length = m at *
                    have HMM := Lib.hid hmm
                    have HST := Lib.hid hst
                    have HPRK := Lib.hid hpr
                    have HLL := Lib.hid hll
                    have HSMR := Lib.hid hsm
                    have hki : (k : Int) < (s.ps.length : Int) := by omega
                    clear htk hFk hrk hmm hst hpr hll hsm hs2w hpn
                    have hmf2 : min qb.length (s.total - m) ≤ s.total := by omega
                    by_cases hmt : m = s.total
                    · have hcp := fun W => run_copy0 W (some ⟨we.heap.size, 0, none⟩) qa 0 qb.length qc 3
                      have hz : min qb.length (s.total - m) = 0 := by omega
                      have HZ := Lib.hid hz
                      have HMT := Lib.hid hmt
                      subst hmt
                      clear hz hmf2
                      go_wp2
                      refine ⟨⟨k + 1, by omega, by simp, ?_, Lib.hid ?_, HS⟩, by simp [intOf]; omega⟩
                      · have h1 := HMM.out
                        rw [HTK.out, List.length_append]
                        congr 1
                        omega
                      · rw [HTK.out]
                        have h1 := HST.out
                        rw [HZ.out, Nat.add_zero, List.take_of_length_le (by rw [HLL.out]; exact Nat.le_refl _), List.drop_eq_nil_of_le (by rw [HLL.out]; exact Nat.le_refl _), List.take_zero, List.append_nil, List.append_nil] at h1
                        rw [h1]
                        exact HO.out
                    · obtain ⟨wc, hcp, hoc, hsc⟩ := run_copyAt wr we.heap.size m (s.total - m) _ HO.out (by rw [HLL.out]; exact hm) qa qc qb HPRK.out.bs 3
                      rw [HLL.out] at hcp hoc
                      rw [← HST.out] at hoc
                      generalize hmn : min qb.length (s.total - m) = mm at *
                      have HMN := Lib.hid hmn
                      have HOC := Lib.hid hoc
                      have HSC := Lib.hid hsc
                      clear hmn hoc hsc
                      go_wp2
                      refine ⟨⟨k + 1, by omega, by simp, ?_, Lib.hid ?_, Lib.hid (HS.out.nb HSC.out (fun j hj => .inl hj))⟩, by simp [intOf]; omega⟩
                      · have h1 := HMM.out
                        have h2 := HMN.out
                        rw [HTK.out, List.length_append]
                        show _ = Value.int .i64 ((min s.total (Fk.length + qb.length) : Nat) : Int)
                        congr 1
                        omega
                      · rw [HTK.out]
                        exact HOC.out
                  · obtain rfl : k = s.ps.length := by omega
                    have hall : (s.fill fix ⟨fa, fc, fpt⟩).ps.take s.ps.length = (s.fill fix ⟨fa, fc, fpt⟩).ps := by rw [← hpn, List.take_length]
                    rw [hall] at HO hm ⊢
                    have hjr := HJE.out.st hsm (Dj.no _)
                    have hkb := HBE.out.move (hsm.block _ HBE.out.lt (fun e => e))
                    have hnb : w1.heap.size + 1 ≠ bm := fun e => HAX.out _ (.inr (.inr rfl)) (.inl (by simp [e]))
                    have hll2 : (sm1.set i (s.fill fix ⟨fa, fc, fpt⟩)).length ≤ 65536 := by rw [List.length_set]; exact hlx
                    have HDR := Lib.hid (jdrop_calls 96 (fun a b W => by kernel_rfl) (.pointer (some ⟨w1.heap.size + 1, 0, none⟩)) (fun y => decide (y = (frm, (fid.toNat : Int)))) wr pj bm _ _ sl ag _ hll2 hjr (asks_take wr bm _ (w1.heap.size + 1) hnb (frm, (fid.toNat : Int)) hkb))
                    have hmf : ∀ (fn : Fn) (first cap : Array Value) (w : World), (Instr.makeFunc fn first cap).run Try.prog w = .ok (.func fn first cap) w := fun _ _ _ _ => rfl
                    have HSMR := Lib.hid hsm
                    generalize hmm : min s.total ((s.fill fix ⟨fa, fc, fpt⟩).ps.map (·.bs)).flatten.length = m at *
                    have hgl : we.heap.size < wr.heap.size := HO.out.lt
                    clear hsm hs2w hpn hall hjr hkb hmm
                    go_wp2_with (go_at_call 95; refine HDR.out.mono ?_; rintro e wf ⟨rfl, V4, hj4, hs4⟩; have HJ4 := Lib.hid hj4; have HS4 := Lib.hid hs4; clear hj4 hs4)
                    go_ret3
                    have hin4 := HJE.out.in
                    have hng : ¬ fpJ pj bm V2 (fun k => D k ∨ fpA fa k) (sm1.set i (s.fill fix ⟨fa, fc, fpt⟩)) we.heap.size := fun h => by have := hin4 _ h; omega
                    refine TakeJ.whole h255 HT.out HLE.out HLF.out h1 HMX.out (getP_set HJX.out HIX.out HKX.out) HC0.out HP0.out hlt rfl HJX.out.keys HIX.out HKX.out htl HJ4.out (HSE.out.trans ((HSMR.out.wide (F' := fpJ pj bm V2 (fun k => D k ∨ fpA fa k) (sm1.set i (s.fill fix ⟨fa, fc, fpt⟩))) (G' := fpJ pj bm V2 (fun k => D k ∨ fpA fa k) (sm1.set i (s.fill fix ⟨fa, fc, fpt⟩))) (fun _ h => h.elim) (fun k hk => .inl hk)).trans HS4.out)) (HO.out.move (HS4.out.block _ hgl hng)) HSE.out.size (fun h => ?_)
                    rcases HS4.out.new _ h with h | h
                    · exact hng h
                    · omega
            · obtain ⟨ya, rfl⟩ := Option.ne_none_iff_exists'.1 hra
              go_quiet (fail)
              have hv1 := fun n => conv_bs (w := wd.drewN n) (c := rc) (HPR.out.bs.drewN n)
              have hv2 := fun n => conv_bs (w := wd.drewN n) (c := fc) ((OwB.bs HOX.out).drewN n)
              have hbq := strB_beq rb fpt
              have hne1 : s.pl.parts.getD fix [] ≠ [] := by
                rw [HPD.out]
                intro e
                exact hra (HPR.out.nil.2 e)
              have HOLD := Lib.hid (fun n => TakeJ.old (s := s) h255 HT.out HLE.out HLF.out h1 HMX.out (getP_set HJX.out HIX.out HKX.out) (by simp only [SM.pl, List.length_map]; rw [HTT.out, HNN.out]; simp) hne1 (HJD.out n) (HSD.out n))
              simp only [HPD.out] at HOLD
              clear hne1
              by_cases he : rb = fpt
              · rw [decide_eq_true he] at hbq
                rw [if_pos he] at HOLD
                clear he
                go_wp2
                go_ret3
                exact HOLD.out _
              · rw [decide_eq_false he] at hbq
                rw [if_neg he] at HOLD
                clear he
                go_wp2
                go_ret3
                exact HOLD.out _
          · have b2 : (((s.ps.length : Nat) : Int) != (fct : Int)) = true := by rw [bne_iff_ne]; omega
            have b2' : (s.ps.length != fct) = true := by rw [bne_iff_ne]; exact hn
            go_quiet (fail)
            go_wp2_with fail
            go_ret3
            exact TakeJ.clash h255 HT.out HLE.out HLF.out h1 HMX.out (getP_set HJX.out HIX.out HKX.out) (.inr (by simpa [SM.pl] using hn)) (HJD.out _) (HSD.out _)
        · have b1 : (((s.total : Nat) : Int) != (ftt : Int)) = true := by rw [bne_iff_ne]; omega
          have b1' : (s.total != ftt) = true := by rw [bne_iff_ne]; exact ht
          go_quiet (fail)
          go_wp2_with fail
          go_ret3
          exact TakeJ.clash h255 HT.out HLE.out HLF.out h1 HMX.out (getP_set HJX.out HIX.out HKX.out) (.inl ht) (HJD.out _) (HSD.out _)
  · have g0 : (ler != 0) = true := bne_iff_ne.2 h0
    obtain ⟨fid, fix, fct, ftt, fpt⟩ := f
    go_wp2
    go_ret3
    rw [← HT.out]
    unfold takeP
    rw [if_neg h255, HLE.out, if_pos h0]
    exact TakeJ.nothing ler HJ.out (((HS1.out.drop (fun k (hk : No k) => hk.elim)).trans (St.alloc' No _ _)))
end Go.Proofs.Ytoeafacamapofaa
