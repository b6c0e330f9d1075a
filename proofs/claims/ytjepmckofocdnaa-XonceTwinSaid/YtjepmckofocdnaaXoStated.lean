
/-
  State: the walk.
-/
import Derived.Test.YtjepmckofocdnaaXoState
namespace Go.Proofs.Ytjepmckofocdnaa
open Go.RowKit
set_option linter.unusedVariables false
set_option linter.unusedSimpArgs false

theorem made_ps (n : Nat) : (madeCells (Value.agg sb0.v.cells).cells (n * 6)).toList = (List.replicate n sb0).flatMap SB.cells := by
  apply List.ext_getElem?
  intro j
  by_cases hj : j < n * 6
  · have hjq : j / 6 < n := by omega
    have hr : (List.replicate n sb0)[j / 6]? = some sb0 := by
      rw [List.getElem?_replicate, if_pos hjq]
    have hg := flat_get SB.cells 6 SB.cells_len (List.replicate n sb0) (j / 6) (j % 6) sb0 hr (by omega)
    have hd : j / 6 * 6 + j % 6 = j := by omega
    rw [hd] at hg
    rw [hg]
    simp only [madeCells, Array.toList_map, List.getElem?_map]
    rw [Array.toList_range, List.getElem?_range hj]
    simp only [Option.map_some]
    have h6 : j % 6 = 0 ∨ j % 6 = 1 ∨ j % 6 = 2 ∨ j % 6 = 3 ∨ j % 6 = 4 ∨ j % 6 = 5 := by omega
    have hsz : (Value.agg sb0.v.cells).cells.size = 6 := rfl
    rw [hsz]
    rcases h6 with h | h | h | h | h | h <;> rw [h] <;> rfl
  · rw [List.getElem?_eq_none (by simp [madeCells]; omega), List.getElem?_eq_none (by rw [flat_len SB.cells 6 SB.cells_len, List.length_replicate]; omega)]
/-- numbers that grow between two bounds are few -/
theorem grow_len : ∀ (L : List (Nat × List B8)) (a n : Nat), L.Pairwise (fun f g => f.1 < g.1) → (∀ f ∈ L, a ≤ f.1 ∧ f.1 < a + n) → L.length ≤ n
  | [], _, _, _, _ => Nat.zero_le _
  | f :: L, a, n, hp, hb => by
    have h1 := List.pairwise_cons.1 hp
    have hf := hb f (List.mem_cons_self ..)
    have ih := grow_len L (f.1 + 1) (a + n - (f.1 + 1)) h1.2 (fun g hg => ⟨h1.1 g hg, by have := hb g (List.mem_cons_of_mem _ hg); omega⟩)
    rw [List.length_cons]
    omega
theorem XP.Ok.early_len {c : PC} {x : XP} (h : x.Ok c) : x.early.length ≤ c.win :=
  Nat.le_trans (grow_len x.early (x.delivered + 2) (c.win - 1) h.eo (fun f hf => by have := h.er f hf; omega)) (Nat.sub_le _ _)
theorem StM.at {w : World} {g n h : Nat} {rows : List SB} (hM : StM w (.slice (some ⟨g, 0, none⟩) n n) rows) (hh : h < rows.length) :
    ∃ r0 : SB, w.cell? ⟨g, h * 6, none⟩ = some (.int .u64 r0.v.sent) ∧ w.cell? ⟨g, h * 6 + 1, none⟩ = some (.int .u64 r0.v.acked) ∧ w.cell? ⟨g, h * 6 + 2, none⟩ = some r0.Vq ∧ w.cell? ⟨g, h * 6 + 3, none⟩ = some (.int .u64 (r0.v.mask.toNat : Int)) ∧ w.cell? ⟨g, h * 6 + 4, none⟩ = some (.int .u64 r0.v.delivered) ∧ w.cell? ⟨g, h * 6 + 5, none⟩ = some r0.Ve ∧
      w.frozen? ⟨g, h * 6, none⟩ = false ∧ w.frozen? ⟨g, h * 6 + 1, none⟩ = false ∧ w.frozen? ⟨g, h * 6 + 2, none⟩ = false ∧ w.frozen? ⟨g, h * 6 + 3, none⟩ = false ∧ w.frozen? ⟨g, h * 6 + 4, none⟩ = false ∧ w.frozen? ⟨g, h * 6 + 5, none⟩ = false := by
  have hn := (show n = rows.length by obtain ⟨a, c, e, _⟩ := hM.own.form; cases e; rfl)
  subst hn
  have hr := List.getElem?_eq_getElem hh
  have hc : ∀ j v, j < 6 → (SB.cells rows[h])[j]? = some v → w.cell? ⟨g, h * 6 + j, none⟩ = some v := fun j v hj hv => by
    have h1 := rowL_elem SB.cells_len hM.own h _ hr j v hj hv
    have e : (Addr.add (Addr.add ⟨g, 0, none⟩ (h * 6)) j) = ⟨g, h * 6 + j, none⟩ := by rw [Go.Deep.add_add]; unfold Addr.add; split <;> simp_all
    rw [e] at h1
    exact h1
  exact ⟨rows[h], hc 0 _ (by decide) rfl, hc 1 _ (by decide) rfl, hc 2 _ (by decide) rfl, hc 3 _ (by decide) rfl, hc 4 _ (by decide) rfl, hc 5 _ (by decide) rfl, hM.own.freeAt _, hM.own.freeAt _, hM.own.freeAt _, hM.own.freeAt _, hM.own.freeAt _, hM.own.freeAt _⟩
theorem stL_zero {k : EC} {X : Nat → XP} : (List.replicate k.hosts sb0).map SB.pl = stL k 0 X := by
  apply List.ext_getElem
  · simp [stL]
  · intro i h1 h2
    simp [stL, sb0_pl]
theorem stL_skip {k : EC} {X : Nat → XP} {m : Nat} (hm : m = k.self) : stL k (m + 1) X = stL k m X := by
  unfold stL
  apply List.map_congr_left
  intro i hi
  by_cases h : i = k.self
  · rw [if_neg (fun x => x.2 h), if_neg (fun x => x.2 h)]
  · have e : (i < m + 1 ∧ i ≠ k.self) = (i < m ∧ i ≠ k.self) := propext ⟨fun x => ⟨by omega, x.2⟩, fun x => ⟨by omega, x.2⟩⟩
    simp only [e]
theorem stL_more {k : EC} {X : Nat → XP} {m : Nat} (hm : m ≠ k.self) (hk : m < k.hosts) : stL k (m + 1) X = (stL k m X).set m (X m) := by
  unfold stL
  apply List.ext_getElem
  · simp
  · intro i h1 h2
    rw [List.getElem_set]
    simp only [List.getElem_map, List.getElem_range]
    by_cases hi : m = i
    · subst hi
      rw [if_pos ⟨by omega, hm⟩, if_pos rfl]
    · rw [if_neg hi]
      have e : (i < m + 1 ∧ i ≠ k.self) = (i < m ∧ i ≠ k.self) := propext ⟨fun x => ⟨by omega, x.2⟩, fun x => ⟨by omega, x.2⟩⟩
      simp only [e]
set_option maxRecDepth 100000 in
set_option maxHeartbeats 2000000 in
theorem state_calls (w : World) (F : Nat → Prop) (e : Nat) (k : EC) (X : Nat → XP) (h : En w F e k X) (hk : k.hosts ≤ 16) (hx : EX k X) :
    Calls Try.prog 20 #[.pointer (some ⟨e, 0, none⟩)] w (StateJ w k X) := by
  obtain ⟨g, P, R, hE, rfl⟩ := h
  have HE := Lib.hid hE
  have hel := hE.in e (.inl rfl)
  have hne1 : e ≠ w.heap.size := by omega
  have c0 : w.cell? ⟨e, 0, none⟩ = some (.slice (some ⟨g, 0, none⟩) k.hosts k.hosts) := by rw [hE.ob.cell 0]; rfl
  obtain ⟨i, hi, hz, hsz, hby⟩ := infPS'
  have HI := Lib.hid hi
  have HZ := Lib.hid hz
  have HSZ := Lib.hid hsz
  have HBY := Lib.hid hby
  have HX := Lib.hid hx
  clear hi hz hsz hby hE hx
  have HS0 : Hid (St No w No (w.alloc (.cells #[.slice none 0 0] 24))) := Lib.hid (St.alloc' No w _)
  have HR0 : Hid (Ob (w.alloc (.cells #[.slice none 0 0] 24)) w.heap.size 24 #[.slice none 0 0]) := Lib.hid (Ob.alloc w _ _)
  go_enter Try.func20, Try.ntmps20
  go_wp2_with (at_make; refine wpList_makeN rfl 22 (.tmp 13) (.tmp 13) rfl 69 i (.agg sb0.v.cells) 6 i.bytes Try.underlying22 HI.out HZ.out HSZ.out rfl .i64 .i64 _ _ k.hosts rfl rfl rfl rfl (Nat.le_trans (Nat.mul_le_mul HBY.out hk) (by omega)) (by unfold maxLen; omega) ?_; intro wM hoM hsM; rw [made_ps] at hoM; have HMM := Lib.hid hoM; have HSM := Lib.hid hsM; have cM := hsM.cellN (HS0.out.cellN c0); have hsz := hsM.size; rw [World.size_alloc] at hsz; have hsg := hoM.in _ (fpV_at.2 rfl); rw [World.size_alloc] at hsg; have hneM : e ≠ wM.heap.size := (by omega); have hneM2 : wM.heap.size ≠ e := (by omega); have helM : e < wM.heap.size := (by omega); have cN := (St.alloc' No wM (.cells #[.slice (some ⟨w.heap.size + 1, 0, none⟩) k.hosts k.hosts] 24)).cellN cM; clear hoM hsM)
  have HM0 : Hid (StM (wM.alloc (.cells #[.slice (some ⟨w.heap.size + 1, 0, none⟩) k.hosts k.hosts] 24)) (.slice (some ⟨w.heap.size + 1, 0, none⟩) k.hosts k.hosts) (List.replicate k.hosts sb0)) := Lib.hid (by
    have ho := HMM.out.st (St.alloc' No wM (.cells #[.slice (some ⟨w.heap.size + 1, 0, none⟩) k.hosts k.hosts] 24)) (Dj.no _)
    rw [World.size_alloc] at ho
    exact ⟨by rw [List.length_replicate]; exact ho, fun r hr => by rw [List.eq_of_mem_replicate hr]; exact sb0_ok _, fun r hr => by rw [List.eq_of_mem_replicate hr]; exact fun j _ x => sb0_fp x⟩)
  have HSW : Hid (St No w No (wM.alloc (.cells #[.slice (some ⟨w.heap.size + 1, 0, none⟩) k.hosts k.hosts] 24))) := Lib.hid ((HS0.out.trans HSM.out).drop (G' := No) (fun _ e => e.elim) |>.trans (St.alloc' No _ _))
  have HR1 : Hid (Ob (wM.alloc (.cells #[.slice (some ⟨w.heap.size + 1, 0, none⟩) k.hosts k.hosts] 24)) w.heap.size 24 #[.slice none 0 0]) := Lib.hid ((HR0.out.move (HSM.out.block _ HR0.out.lt (fun e => e))).move ((St.alloc' No wM _).block _ (by omega) (fun e => e)))
  have HB1 : Hid (Ob (wM.alloc (.cells #[.slice (some ⟨w.heap.size + 1, 0, none⟩) k.hosts k.hosts] 24)) wM.heap.size 24 #[.slice (some ⟨w.heap.size + 1, 0, none⟩) k.hosts k.hosts]) := Lib.hid (Ob.alloc _ _ _)
  generalize wM.alloc (.cells #[.slice (some ⟨w.heap.size + 1, 0, none⟩) k.hosts k.hosts] 24) = wB at *
  generalize hs3 : wM.heap.size = s3 at *
  clear HMM HSM cM cN
  go_loopw [21] (fun i wr => ∃ (m : Nat) (rows : List SB), m ≤ k.hosts ∧ i = .int .i64 m ∧ Hid (rows.length = k.hosts) ∧ Hid (StM wr (.slice (some ⟨w.heap.size + 1, 0, none⟩) k.hosts k.hosts) rows) ∧ Hid (rows.map SB.pl = stL k m X) ∧ Hid (St No w No wr) ∧ Hid (Ob wr w.heap.size 24 #[.slice none 0 0]) ∧ Hid (Ob wr s3 24 #[.slice (some ⟨w.heap.size + 1, 0, none⟩) k.hosts k.hosts]) ∧ Hid (∀ j, fpS (.slice (some ⟨w.heap.size + 1, 0, none⟩) k.hosts k.hosts) rows j → w.heap.size < j)) (fun i _ => k.hosts - (intOf i).toNat)
  case atStart =>
    refine ⟨0, _, by omega, rfl, Lib.hid (List.length_replicate ..), HM0, Lib.hid stL_zero, HSW, HR1, HB1, Lib.hid ?_⟩
    rintro j (hj | ⟨r, hr, hj⟩)
    · rw [fpV_at.1 hj]; omega
    · rw [List.eq_of_mem_replicate hr] at hj
      exact (sb0_fp hj).elim
  case round =>
    obtain ⟨m, rows, hm, rfl, HLN, HM, HPL, HS, HR, HB, HF⟩ := hrel
    have HEr := Lib.hid (HE.out.st HS.out (Dj.no _))
    by_cases hlt : m < k.hosts
    · have c1 := HEr.out.ptr hlt
      have b0 : wr.cell? ⟨s3, 0, none⟩ = some (.slice (some ⟨w.heap.size + 1, 0, none⟩) k.hosts k.hosts) := by rw [HB.out.cell 0]; rfl
      by_cases hms : m = k.self
      · have hv : ptrV k P k.hosts m = .pointer none := if_neg (fun x => x.2 hms)
        rw [hv] at c1
        have HPN : Hid (rows.map SB.pl = stL k (m + 1) X) := Lib.hid (by rw [stL_skip hms]; exact HPL.out)
        clear hms
        go_wp2
        exact ⟨⟨m + 1, rows, by omega, by go_num, HLN, HM, HPN, HS, HR, HB, HF⟩, by simp [intOf]; omega⟩
      · have hv : ptrV k P k.hosts m = .pointer (some ⟨P m, 0, none⟩) := if_pos ⟨hlt, hms⟩
        rw [hv] at c1
        have HPN : Hid (stL k (m + 1) X = (stL k m X).set m (X m)) := Lib.hid (stL_more hms hlt)
        have hxo := HX.out m hlt hms
        obtain ⟨Vq, Ve, qs, es, hpm, hq, he, hF⟩ := HEr.out.pr m hlt hms
        have hpw : P m < w.heap.size := by
          obtain ⟨_, _, _, _, hpp, _⟩ := HE.out.pr m hlt hms
          exact hpp.ob.lt
        have q1 : w.heap.size + 1 ≠ s3 := by omega
        have q2 : s3 ≠ w.heap.size + 1 := by omega
        have q3 : w.heap.size + 1 ≠ P m := by omega
        have q4 : P m ≠ w.heap.size + 1 := by omega
        clear hms hF
        have HPM := Lib.hid hpm
        have hql : qs.length = (X m).queue.length := by rw [hq, List.length_map]
        have HQL := Lib.hid hql
        have hel2 : es.length = (X m).early.length := by rw [he, List.length_map]
        have HEL := Lib.hid hel2
        obtain ⟨d0, d1, d2, d3, d4, d5, d6, d7, d8, d9, d10, f0, f1, f2, f3, f4, f5, f6, f7, f8, f9, f10⟩ := hpm.ob.n11
        obtain ⟨qa, qc, rfl, _, _, _, _⟩ := hpm.lq.own.form
        obtain ⟨ea, ec, rfl, _, _, _, _⟩ := hpm.lf.own.form
        have HLQ : Hid (Lists wr qa (X m).queue) := Lib.hid (by
          rw [hq]
          exact hpm.lq.lists (fun q hqm => by
            have : 1 ≤ q.b.length ∧ q.b.length ≤ 3072 := of_decide_eq_true (show decide _ = true from hxo.qb q.b (by rw [hq]; exact List.mem_map.2 ⟨q, hqm, rfl⟩))
            omega))
        have HLF : Hid (Frs wr ea (X m).early) := Lib.hid (by
          rw [he]
          exact hpm.lf.frs (fun q hqm => by
            have : 1 ≤ q.b.length ∧ q.b.length ≤ 3072 := of_decide_eq_true (show decide _ = true from (hxo.er (q.seq, q.b) (by rw [he]; exact List.mem_map.2 ⟨q, hqm, rfl⟩)).2.2.2)
            omega))
        have hl1 : (X m).queue.length ≤ 4294967296 := by have := hxo.ql; have := hxo.rm; omega
        have hl2 : (X m).early.length ≤ 4294967296 := by have := hxo.early_len; have := hxo.wn; have := hxo.rm; omega
        rw [hql] at d5
        rw [hel2] at d10
        clear d0 d1 d2 d7 d8 f0 f1 f2 f3 f4 f5 f6 f7 f8 f9 f10 hpm hxo hql hel2 hq he
        have hml : (m : Int) < (k.hosts : Int) := by omega
        go_wp2_with fail
        go_region_held3 (fun w' => w'.cell? ⟨s3, 0, none⟩ = some (.slice (some ⟨w.heap.size + 1, 0, none⟩) k.hosts k.hosts) ∧ w'.cell? ⟨P m, 3, none⟩ = some (.int .u64 (X m).sent) ∧ w'.cell? ⟨P m, 4, none⟩ = some (.int .u64 (X m).acked) ∧ w'.cell? ⟨P m, 5, none⟩ = some (.slice qa (X m).queue.length qc) ∧ w'.cell? ⟨P m, 6, none⟩ = some (.int .u64 ((X m).mask.toNat : Int)) ∧ w'.cell? ⟨P m, 9, none⟩ = some (.int .u64 (X m).delivered) ∧ w'.cell? ⟨P m, 10, none⟩ = some (.slice ea (X m).early.length ec)) (go_keep)
          (first
            | (go_at_call 50
               have sd : St No wr No _ := (by first | exact St.drew No _ | exact (St.drewN No _ _).trans (St.drew No _) | exact St.drewN No _ _)
               refine (copies_calls qa qc (X m).queue hl1 _ (HLQ.out.st sd)).mono ?_
               rintro r w5 ⟨V5, qs5, rfl, hl5, hm5, hs5⟩
               have hs5' := sd.trans hs5
               obtain ⟨va5, vc5, rfl, _, _, _, _⟩ := hl5.own.form
               have z0 : w5.cell? ⟨s3, 0, none⟩ = some (.slice (some ⟨w.heap.size + 1, 0, none⟩) k.hosts k.hosts) := hs5'.cellN b0
               have z3 := hs5'.cellN d3
               have z4 := hs5'.cellN d4
               have z5 := hs5'.cellN d5
               have z6 := hs5'.cellN d6
               have z9 := hs5'.cellN d9
               have z10 := hs5'.cellN d10
               have HL5 := Lib.hid hl5
               have HM5 := Lib.hid hm5
               have HS5 := Lib.hid hs5'
               clear hl5 hm5 hs5 hs5' sd)
            | (go_at_call 51
               have sd : St No w5 No _ := (by first | exact St.refl No _ | exact St.drew No _ | exact (St.drewN No _ _).trans (St.drew No _) | exact St.drewN No _ _)
               refine (frames_calls ea ec (X m).early hl2 _ ((HLF.out.st HS5.out).st sd)).mono ?_
               rintro r w6 ⟨V6, es6, rfl, hl6, hm6, hs6⟩
               have hs6' := sd.trans hs6
               obtain ⟨va6, vc6, rfl, _, _, _, _⟩ := hl6.own.form
               have y0 : w6.cell? ⟨s3, 0, none⟩ = some (.slice (some ⟨w.heap.size + 1, 0, none⟩) k.hosts k.hosts) := hs6'.cellN z0
               have y3 := hs6'.cellN z3
               have y4 := hs6'.cellN z4
               have y5 := hs6'.cellN z5
               have y6 := hs6'.cellN z6
               have y9 := hs6'.cellN z9
               have y10 := hs6'.cellN z10
               have HM6 := Lib.hid ((HM.out.st HS5.out (Dj.no _)).st hs6' (Dj.no _))
               obtain ⟨r0, k0, k1, k2, k3, k4, k5, kf0, kf1, kf2, kf3, kf4, kf5⟩ := HM6.out.at (show m < rows.length by have := HLN.out; omega)
               have HL6 := Lib.hid hl6
               have HE6 := Lib.hid hm6
               have HS6 := Lib.hid hs6'
               clear hl6 hm6 hs6 hs6' sd))
        have HRK : Hid (SB.Ok w6 ⟨⟨(X m).sent, (X m).acked, (X m).mask, (X m).delivered, va5, qs5.length, vc5, va6, es6.length, vc6⟩, qs5, es6⟩) := Lib.hid ⟨HL5.out.st HS6.out (Dj.no _), HL6.out⟩
        have hns : ∀ j, SB.fp ⟨⟨(X m).sent, (X m).acked, (X m).mask, (X m).delivered, va5, qs5.length, vc5, va6, es6.length, vc6⟩, qs5, es6⟩ j → wr.heap.size ≤ j := fun j hj => hj.elim (HS5.out.news j) (fun x => Nat.le_trans HS5.out.size (HS6.out.news j x))
        have hgr : w.heap.size + 1 < wr.heap.size := HM.out.own.in _ (fpV_at.2 rfl)
        have HRW := Lib.hid (HM6.out.row (w' := ((((((w6.setCell ⟨w.heap.size + 1, m * 6, none⟩ (.int .u64 (X m).sent)).setCell ⟨w.heap.size + 1, m * 6 + 1, none⟩ (.int .u64 (X m).acked)).setCell ⟨w.heap.size + 1, m * 6 + 2, none⟩ (.slice va5 qs5.length vc5)).setCell ⟨w.heap.size + 1, m * 6 + 3, none⟩ (.int .u64 ((X m).mask.toNat : Int))).setCell ⟨w.heap.size + 1, m * 6 + 4, none⟩ (.int .u64 (X m).delivered)).setCell ⟨w.heap.size + 1, m * 6 + 5, none⟩ (.slice va6 es6.length vc6))) HLN.out (show m < rows.length by have := HLN.out; omega) HRK.out (fun x => by have := hns _ x; omega) rfl)
        generalize ((((((w6.setCell ⟨w.heap.size + 1, m * 6, none⟩ (.int .u64 (X m).sent)).setCell ⟨w.heap.size + 1, m * 6 + 1, none⟩ (.int .u64 (X m).acked)).setCell ⟨w.heap.size + 1, m * 6 + 2, none⟩ (.slice va5 qs5.length vc5)).setCell ⟨w.heap.size + 1, m * 6 + 3, none⟩ (.int .u64 ((X m).mask.toNat : Int))).setCell ⟨w.heap.size + 1, m * 6 + 4, none⟩ (.int .u64 (X m).delivered)).setCell ⟨w.heap.size + 1, m * 6 + 5, none⟩ (.slice va6 es6.length vc6)) = wX at *
        have hs6 := (HS5.out.drop (G' := No) (fun _ e => e.elim)).trans (HS6.out.drop (G' := No) (fun _ e => e.elim))
        have HSX := Lib.hid ((HS.out.trans hs6).own HRW.out.2 (by omega))
        have hbx := fun (b : Nat) (cs : Array Value) (T : TypeId) (h : Ob wr b T cs) (hb : b ≠ w.heap.size + 1) => (h.move (hs6.block _ h.lt (fun e => e))).move (HRW.out.2.block _ (Nat.lt_of_lt_of_le h.lt hs6.size) (fun e => hb e))
        have HRX := Lib.hid (hbx _ _ _ HR.out (by omega))
        have HBX := Lib.hid (hbx _ _ _ HB.out q2)
        have HPX : Hid ((rows.set m ⟨⟨(X m).sent, (X m).acked, (X m).mask, (X m).delivered, va5, qs5.length, vc5, va6, es6.length, vc6⟩, qs5, es6⟩).map SB.pl = stL k (m + 1) X) := Lib.hid (by
          rw [List.map_set, HPL.out, HPN.out]
          congr 1
          unfold SB.pl
          rw [HM5.out, HE6.out])
        have HFX : Hid (∀ j, fpS (.slice (some ⟨w.heap.size + 1, 0, none⟩) k.hosts k.hosts) (rows.set m ⟨⟨(X m).sent, (X m).acked, (X m).mask, (X m).delivered, va5, qs5.length, vc5, va6, es6.length, vc6⟩, qs5, es6⟩) j → w.heap.size < j) := Lib.hid (by
          rintro j (hj | ⟨r, hr, hj⟩)
          · exact HF.out j (.inl hj)
          · rcases List.mem_or_eq_of_mem_set hr with hr | rfl
            · exact HF.out j (.inr ⟨r, hr, hj⟩)
            · have := hns j hj
              omega)
        clear hs6 hbx hns d3 d4 d5 d6 d9 d10 z0 z3 z4 z5 z6 z9 z10 y0 y3 y4 y5 y6 y9 y10 k0 k1 k2 k3 k4 k5 kf0 kf1 kf2 kf3 kf4 kf5 HM6
        go_wp2
        exact ⟨⟨m + 1, _, by omega, by go_num, Lib.hid (by rw [List.length_set]; exact HLN.out), Lib.hid HRW.out.1, HPX, HSX, HRX, HBX, HFX⟩, by simp [intOf]; omega⟩
    · obtain rfl : m = k.hosts := by omega
      have b0 : wr.cell? ⟨s3, 0, none⟩ = some (.slice (some ⟨w.heap.size + 1, 0, none⟩) k.hosts k.hosts) := by rw [HB.out.cell 0]; rfl
      have e0 : wr.cell? ⟨w.heap.size, 0, none⟩ = some (.slice none 0 0) := by rw [HR.out.cell 0]; rfl
      have ef := HR.out.free 0
      go_wp2_with fail
      refine bodyPost_ret (results_cell_row rfl _ _ w.heap.size _ #[.slice (some ⟨w.heap.size + 1, 0, none⟩) k.hosts k.hosts] _ _ rfl (HR.out.set 0 (.slice (some ⟨w.heap.size + 1, 0, none⟩) k.hosts k.hosts)) Try.underlying24 rfl esInfo) rfl ?_
      have s : St (fpB0 w.heap.size) wr (fpB0 w.heap.size) (wr.setCell ⟨w.heap.size, 0, none⟩ (.slice (some ⟨w.heap.size + 1, 0, none⟩) k.hosts k.hosts)) := St.setCell (F := fpB0 w.heap.size) _ ⟨w.heap.size, 0, none⟩ _ rfl
      refine ⟨_, rows, rfl, HM.out.st s (fun j a b => by have := HF.out j b; have e : j = w.heap.size := a; omega), HPL.out, ?_⟩
      exact (HS.out.own s (Nat.le_refl _)).newF' (fun j hj => Nat.le_of_lt (HF.out j hj))
end Go.Proofs.Ytjepmckofocdnaa
