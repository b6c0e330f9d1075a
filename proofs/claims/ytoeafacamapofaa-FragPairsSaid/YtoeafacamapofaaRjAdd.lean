
/-
  The reference's Take: a fragment of a packet that has begun.
-/
import Derived.Test.YtoeafacamapofaaRjOpen
namespace Go.Proofs.Ytoeafacamapofaa
open Go.RowKit
set_option linter.unusedVariables false
set_option linter.unusedSimpArgs false

theorem find_none_take {l : List Fg} {i : Nat} (h : ∀ (k : Nat) (g : Fg), l[k]? = some g → g.index ≠ i) : l.find? (fun g => decide (g.index = i)) = none := by
  rw [List.find?_eq_none]
  intro g hg
  obtain ⟨k, hk⟩ := List.getElem?_of_mem hg
  simpa using h k g hk
theorem find_some_take {l : List Fg} {i k : Nat} {g : Fg} (hk : l[k]? = some g) (hi : g.index = i) (h : ∀ (j : Nat) (u : Fg), j < k → l[j]? = some u → u.index ≠ i) : l.find? (fun g => decide (g.index = i)) = some g := by
  obtain ⟨hl, rfl⟩ := List.getElem?_eq_some_iff.1 hk
  rw [List.find?_eq_some_iff_getElem]
  refine ⟨by simpa using hi, k, hl, rfl, fun j hj => ?_⟩
  have := h j l[j] hj (List.getElem?_eq_getElem (by omega))
  simpa using this
theorem Own.block'r {w : World} {e size : Nat} {a : Option Addr} {n c : Nat} {xs : List Value} (h : Own w e size (.slice a n c) n xs) (hn : 0 < n) : ∃ g, a = some ⟨g, 0, none⟩ := by
  rcases h.2 with ⟨h, _⟩ | ⟨g, cap, cur, h, _⟩
  · simp at h; omega
  · simp at h; exact ⟨g, h.1⟩
theorem rAdd_clash {rs : List RSl} {i : Nat} {r : RSl} {f : Fg} (h : rs[i]? = some r) (hc : (r.l.map (·.total)).headD 0 ≠ f.total ∨ (r.l.map (·.count)).headD 0 ≠ f.count) : rAdd rs i f = ⟨[], false, 44, rs⟩ := by
  unfold rAdd
  rw [h]
  exact if_pos hc
theorem rAdd_old {rs : List RSl} {i : Nat} {r : RSl} {f g : Fg} (h : rs[i]? = some r) (h1 : (r.l.map (·.total)).headD 0 = f.total) (h2 : (r.l.map (·.count)).headD 0 = f.count) (hf : r.l.find? (fun g => decide (g.index = f.index)) = some g) : rAdd rs i f = ⟨[], false, if g.part = f.part then 0 else 44, rs⟩ := by
  unfold rAdd
  rw [h]
  simp only
  rw [if_neg (fun h => h.elim (fun h => h h1) (fun h => h h2)), hf]
theorem rAdd_more {rs : List RSl} {i : Nat} {r : RSl} {f : Fg} (h : rs[i]? = some r) (h1 : (r.l.map (·.total)).headD 0 = f.total) (h2 : (r.l.map (·.count)).headD 0 = f.count) (hf : r.l.find? (fun g => decide (g.index = f.index)) = none) (hl : r.l.length + 1 < f.count) : rAdd rs i f = ⟨[], false, 0, rs.set i { r with l := r.l ++ [f] }⟩ := by
  unfold rAdd
  rw [h]
  simp only
  rw [if_neg (fun h => h.elim (fun h => h h1) (fun h => h h2)), hf]
  simp only
  rw [if_pos hl]
theorem rAdd_full {rs : List RSl} {i : Nat} {r : RSl} {f : Fg} (h : rs[i]? = some r) (h1 : (r.l.map (·.total)).headD 0 = f.total) (h2 : (r.l.map (·.count)).headD 0 = f.count) (hf : r.l.find? (fun g => decide (g.index = f.index)) = none) (hl : ¬ r.l.length + 1 < f.count) : rAdd rs i f = ⟨wholeR (r.l ++ [f]), true, 0, rs.eraseIdx i⟩ := by
  unfold rAdd
  rw [h]
  simp only
  rw [if_neg (fun h => h.elim (fun h => h h1) (fun h => h h2)), hf]
  simp only
  rw [if_neg hl]
theorem flSrc (w : World) (r : FR) : Src (w.alloc (.cells r.cells.toArray 73)) (some ⟨w.heap.size, 0, none⟩) 1 5 r.cells := by
  refine ⟨rfl, rd_row (heap_alloc_new w _), fun u hu => ?_⟩
  simp [FR.cells] at hu
  rcases hu with rfl | rfl | rfl | rfl | rfl <;> rfl
theorem St.put_comp {w2 w3 wr w5 : World} {o : Obj} {F F' : Nat → Prop} {b : Nat} (h3 : St No w2 (Nw w2) w3) (hr : St No w3 No wr) (h5 : St F (wr.alloc o) F' w5) (hb : w2.heap.size ≤ b) (v : Value) : St F w2 F' (w5.setCell ⟨b, 3, none⟩ v) := by
  have h1 := (h3.then hr).then (St.alloc' No wr o)
  have h6 := St.setCell (F := fpB b) w5 ⟨b, 3, none⟩ v rfl
  refine ⟨h6.os.trans (h5.os.trans h1.os), h6.tape.trans (h5.tape.trans h1.tape), h6.output.trans (h5.output.trans h1.output), Nat.le_trans h1.size (Nat.le_trans h5.size h6.size), fun k hk hn => ?_, fun k hk => ?_⟩
  · rw [h6.block k (Nat.lt_of_lt_of_le hk (Nat.le_trans h1.size h5.size)) (fun e => by have e' : k = b := e; omega), h5.block k (Nat.lt_of_lt_of_le hk h1.size) hn]
    exact h1.block k hk (fun e => e)
  · exact (h5.new k hk).imp id (fun h => Nat.le_trans h1.size h)
theorem Rj.heap {w w' : World} {pr : Nat} {V : Value} {D : Nat → Prop} {sl ag : Nat} {ss : List SR} (h : Rj w pr V D sl ag ss) (s : St No w No w') : Rj w' pr V D sl ag ss := h.st s (Dj.no _)
set_option maxRecDepth 100000 in
set_option maxHeartbeats 2000000 in
theorem rtake_add (w : World) (F : Nat → Prop) (pr sl ag : Nat) (rs : List RSl) (hlen : rs.length ≤ 65536) (hok : ∀ r ∈ rs, r.l ≠ [] ∧ r.l.length < 128) (frm : Int) (h : RJ w F pr sl ag rs) (a : Option Addr) (c : Nat) (d : List B8) (hd : d.length ≤ 140737488351300) (hlc : d.length ≤ c) (hcm : c ≤ maxLen) (ha : Bs w a d)
    (h255 : frm ≠ 255) (hE : lookE d = 0) (hC : (lookF d).count ≠ 1) (i : Nat) (hat : atT (frm, ((lookF d).id.toNat : Int)) rs rs.length = (i : Int)) :
    Calls Try.prog 91 #[.pointer (some ⟨pr, 0, none⟩), .int .i64 frm, .slice a d.length c] w (RTakeJ w F pr sl ag (rAdd rs i (lookF d))) := by
  have h255b : (frm == 255) = false := by simpa using h255
  have hlk := refLook_calls a c d (by omega) hlc hcm w ha
  rw [hE] at hlk
  obtain ⟨_, _, hpl1⟩ := look_ok hE
  have hCb : (((lookF d).count : Int) == 1) = false := beq_eq_false_iff_ne.2 (by omega)
  obtain ⟨q, hq⟩ : ∃ q, rAdd rs i (lookF d) = q := ⟨_, rfl⟩
  rw [hq]
  have HQ := Lib.hid hq
  generalize lookF d = f at *
  obtain ⟨fid, fix, fct, ftt, fpt⟩ := f
  simp only at hC hat hpl1 hCb
  obtain ⟨V, D, L, hj, hpl, hF⟩ := h
  have hll : L.length ≤ 65536 := by rw [← hpl] at hlen; simpa using hlen
  have hlr : rs.length = L.length := by rw [← hpl, List.length_map]
  have hatL : atT (frm, (fid.toNat : Int)) (L.map SR.pl) L.length = (i : Int) := by rw [hpl, ← hlr]; exact hat
  have hil : i < L.length := by
    have := (atT_lt (frm, (fid.toNat : Int)) (L.map SR.pl) L.length).2
    omega
  have hLi : L[i]? = some L[i] := List.getElem?_eq_getElem hil
  have hRi : rs[i]? = some L[i].pl := by rw [← hpl, List.getElem?_map, hLi]; rfl
  have hoki := hok _ (List.mem_of_getElem? hRi)
  have hin := hj.in
  obtain ⟨va0, vc0, rfl, _, _, _, _⟩ := hj.own.form
  obtain ⟨g, rfl⟩ := Own.block'r hj.own (by omega)
  obtain ⟨sa, sc, hsv, hsc1, _, _, _⟩ := (hj.lst L[i] (List.getElem_mem hil)).form
  have hsl0 : 0 < L[i].l.length := by
    have := hoki.1
    rw [SR.pl] at this
    simp only [ne_eq, List.map_eq_nil_iff] at this
    exact List.length_pos_iff.2 this
  have hsl1 : L[i].l.length < 128 := by simpa [SR.pl] using hoki.2
  have howi := hj.lst L[i] (List.getElem_mem hil)
  rw [hsv] at howi
  obtain ⟨gs, rfl⟩ := Own.block'r howi hsl0
  obtain ⟨ti, hti, hz, hsz, hby⟩ := info_parts rfZero
  have HTI := Lib.hid hti
  have HZ := Lib.hid hz
  have HSZ := Lib.hid hsz
  have HBY := Lib.hid hby
  have HJ := Lib.hid hj
  have HPL := Lib.hid hpl
  have HF := Lib.hid hF
  have HIN := Lib.hid hin
  have HOK := Lib.hid hok
  have HLI := Lib.hid hLi
  have HSV := Lib.hid hsv
  have HOWI := Lib.hid howi
  have HPRT := Lib.hid (hj.prt L[i] (List.getElem_mem hil))
  have hprl := hj.ob.lt
  generalize hsi : L[i] = s at *
  obtain ⟨⟨k1, k2⟩, age, sv, l⟩ := s
  simp only at hsl0 hsl1 hsc1 HSV HOWI HPRT
  have HSI := Lib.hid hsi
  have HRI : Hid (rs[i]? = some ⟨(k1, k2), age, l.map (·.f)⟩) := Lib.hid hRi
  have hsv' : sv = .slice (some ⟨gs, 0, none⟩) l.length sc := HSV.out
  subst hsv'
  clear hq ha hlc hcm hC hj hpl hF hti hz hsz hby hin hd hok hLi hRi hsi hsv howi hoki hat HSV
  go_enter Try.func91, Try.ntmps91
  go_wp2_with fail
  refine hlk.mono ?_
  rintro e w1 ⟨VP, rfl, ho, hs⟩
  clear hlk
  obtain ⟨pa, pc, rfl, hpc, _, hfpp, hpn⟩ := ho.form
  have HB0 : Hid (Ob (w1.alloc (.cells #[.int .u64 (fid.toNat : Int), .int .i64 fix, .int .i64 fct, .int .i64 ftt, .slice pa fpt.length pc] 73)) w1.heap.size 73 #[.int .u64 (fid.toNat : Int), .int .i64 fix, .int .i64 fct, .int .i64 ftt, .slice pa fpt.length pc]) := Lib.hid (Ob.alloc w1 _ _)
  have HS2 : Hid (St No w (Nw w) (w1.alloc (.cells #[.int .u64 (fid.toNat : Int), .int .i64 fix, .int .i64 fct, .int .i64 ftt, .slice pa fpt.length pc] 73))) := Lib.hid (hs.toNew.then (St.alloc' No w1 _))
  have hbs : Bs (w1.alloc (.cells #[.int .u64 (fid.toNat : Int), .int .i64 fix, .int .i64 fct, .int .i64 ftt, .slice pa fpt.length pc] 73)) pa fpt := (OwB.bs ho).st (St.alloc' No w1 _) (Dj.no _)
  have HBS := Lib.hid hbs
  have hpD : ∀ k, fpA pa k → w.heap.size ≤ k ∧ k < w1.heap.size := fun k hk => by
    have hv := (hfpp k).2 hk
    exact ⟨(hs.new k hv).elim (fun h => h.elim) (fun h => h), ho.in k hv⟩
  have HPD := Lib.hid hpD
  have HPN : Hid (pa = none → pc = 0) := Lib.hid (fun e => (hpn e).2)
  have hw1 : w.heap.size ≤ w1.heap.size := hs.size
  clear ho hs hbs hpD hpn hfpp hpc
  go_wp2_with fail
  generalize hg2 : (w1.alloc (.cells #[.int .u64 (fid.toNat : Int), .int .i64 fix, .int .i64 fct, .int .i64 ftt, .slice pa fpt.length pc] 73)) = w2 at *
  have hw2 : w2.heap.size = w1.heap.size + 1 := by rw [← hg2]; simp
  have HW2 := Lib.hid hw2
  clear hg2 hw2
  have hj2 := HJ.out.st HS2.out (Dj.no _)
  refine (rfind_calls w2 pr _ D sl ag L hll hj2 frm (fid.toNat : Int)).mono ?_
  rintro e w3 ⟨rfl, rfl⟩
  rw [hatL]
  have hha := hadT_le frm (L.map SR.pl) L.length
  have hfb := firstT_lt frm (L.map SR.pl) L.length
  clear hatL
  generalize hadT frm (L.map SR.pl) L.length = B at *
  generalize firstT frm (L.map SR.pl) L.length = G at *
  have hii : (i : Int) < (L.length : Int) := by omega
  have d2 : w2.cell? ⟨pr, 2, none⟩ = some (.slice (some ⟨g, 0, none⟩) L.length vc0) := by rw [hj2.ob.cell 2]; rfl
  have hel := fun j v (hj : j < 4) (hv : (SR.cells ⟨(k1, k2), age, .slice (some ⟨gs, 0, none⟩) l.length sc, l⟩)[j]? = some v) => hj2.own.cellAt (i * 4 + j) v ((flat_get SR.cells 4 SR.cells_len L i j _ HLI.out hj).trans hv)
  have c0 : w2.cell? ⟨g, i * 4, none⟩ = some (.int .i64 k1) := hel 0 _ (by decide) rfl
  have c1 : w2.cell? ⟨g, i * 4 + 1, none⟩ = some (.int .u64 k2) := hel 1 _ (by decide) rfl
  have c2 : w2.cell? ⟨g, i * 4 + 2, none⟩ = some (.int .i64 age) := hel 2 _ (by decide) rfl
  have c3 : w2.cell? ⟨g, i * 4 + 3, none⟩ = some (.slice (some ⟨gs, 0, none⟩) l.length sc) := hel 3 _ (by decide) rfl
  clear hel
  have HJ2 := Lib.hid hj2
  clear hj2
  go_wp2_with fail
  -- the slot, boxed
  have HB1 : Hid (Ob (w2.alloc (.cells #[.int .i64 k1, .int .u64 k2, .int .i64 age, .slice (some ⟨gs, 0, none⟩) l.length sc] 182)) w2.heap.size 182 #[.int .i64 k1, .int .u64 k2, .int .i64 age, .slice (some ⟨gs, 0, none⟩) l.length sc]) := Lib.hid (Ob.alloc w2 _ _)
  have HS3 : Hid (St No w2 (Nw w2) (w2.alloc (.cells #[.int .i64 k1, .int .u64 k2, .int .i64 age, .slice (some ⟨gs, 0, none⟩) l.length sc] 182))) := Lib.hid (new1 w2 _)
  have HW3 : Hid ((w2.alloc (.cells #[.int .i64 k1, .int .u64 k2, .int .i64 age, .slice (some ⟨gs, 0, none⟩) l.length sc] 182)).heap.size = w2.heap.size + 1) := Lib.hid (by simp)
  generalize (w2.alloc (.cells #[.int .i64 k1, .int .u64 k2, .int .i64 age, .slice (some ⟨gs, 0, none⟩) l.length sc] 182)) = w3 at *
  have b3 : w3.cell? ⟨w2.heap.size, 3, none⟩ = some (.slice (some ⟨gs, 0, none⟩) l.length sc) := by rw [HB1.out.cell 3]; rfl
  have HB3 : Hid (Ob w3 w1.heap.size 73 #[.int .u64 (fid.toNat : Int), .int .i64 fix, .int .i64 fct, .int .i64 ftt, .slice pa fpt.length pc]) := Lib.hid (HB0.out.move (HS3.out.block _ HB0.out.lt (fun e => e)))
  have y1 : w3.cell? ⟨w1.heap.size, 1, none⟩ = some (.int .i64 fix) := by rw [HB3.out.cell 1]; rfl
  have y2 : w3.cell? ⟨w1.heap.size, 2, none⟩ = some (.int .i64 fct) := by rw [HB3.out.cell 2]; rfl
  have y3 : w3.cell? ⟨w1.heap.size, 3, none⟩ = some (.int .i64 ftt) := by rw [HB3.out.cell 3]; rfl
  have HO3 : Hid (Own w3 73 5 (.slice (some ⟨gs, 0, none⟩) l.length sc) l.length (l.flatMap FR.cells)) := Lib.hid ((HOWI.out.st HS2.out (Dj.no _)).st HS3.out (Dj.no _))
  obtain ⟨r0, hr0⟩ : ∃ r0, l[0]? = some r0 := ⟨l[0], List.getElem?_eq_getElem hsl0⟩
  have hel0 := fun j v (hj : j < 5) (hv : (FR.cells r0)[j]? = some v) => HO3.out.cellAt (0 * 5 + j) v ((flat_get FR.cells 5 FR.cells_len l 0 j _ hr0 hj).trans hv)
  have z2 : w3.cell? ⟨gs, 2, none⟩ = some (.int .i64 r0.f.count) := hel0 2 _ (by decide) rfl
  have z3 : w3.cell? ⟨gs, 3, none⟩ = some (.int .i64 r0.f.total) := hel0 3 _ (by decide) rfl
  have HHD : Hid (((l.map (·.f)).map (·.total)).headD 0 = r0.f.total ∧ ((l.map (·.f)).map (·.count)).headD 0 = r0.f.count) := Lib.hid (by
    cases l with
    | nil => simp at hr0
    | cons u t => simp at hr0; subst hr0; exact ⟨rfl, rfl⟩)
  have HSAME : Hid (∀ wr, St No w3 No wr → ∀ er, q = ⟨[], false, er, rs⟩ → RTakeJ w F pr sl ag q (.returned (.tuple #[.slice none 0 0, .bool false, .int .i64 er])) wr) := Lib.hid (fun wr hs er he => by
    rw [he]
    exact RTakeJ.same ⟨_, D, L, HJ.out, HPL.out, HF.out⟩ (((HS2.out.then HS3.out).then hs).drop (G' := No) (fun k hk => (hk : False).elim)) er)
  clear hel0 c0 c1 c2 c3
  generalize hct : r0.f.count = ct at *
  generalize htt : r0.f.total = tt at *
  clear hct htt hr0
  by_cases h1 : tt = ftt
  · subst h1
    by_cases h2 : ct = fct
    · subst h2
      have b2 : (((ct : Nat) : Int) != (ct : Int)) = false := by simp
      go_quiet (fail)
      rename Nat => nqa
      go_wp2_with fail
      go_loopw [15] (fun t wr => ∃ k : Nat, k ≤ l.length ∧ t = .int .i64 k ∧ Hid (∀ (j : Nat) (r : FR), j < k → l[j]? = some r → r.f.index ≠ fix) ∧ Hid (Dr w3 wr)) (fun t _ => l.length - (intOf t).toNat)
      case atStart => exact ⟨0, by omega, rfl, Lib.hid (fun j r hj => by omega), Lib.hid (Dr.one nqa)⟩
      case round =>
        obtain ⟨k, hk, rfl, HN, HD⟩ := hrel
        have hsr := HD.out.st No
        have ob1 := HB1.out.move (hsr.block _ HB1.out.lt (fun e => e))
        have ob3 := HB3.out.move (hsr.block _ HB3.out.lt (fun e => e))
        have u3 : wr.cell? ⟨w2.heap.size, 3, none⟩ = some (.slice (some ⟨gs, 0, none⟩) l.length sc) := by rw [ob1.cell 3]; rfl
        have v1 : wr.cell? ⟨w1.heap.size, 1, none⟩ = some (.int .i64 fix) := by rw [ob3.cell 1]; rfl
        have v4 : wr.cell? ⟨w1.heap.size, 4, none⟩ = some (.slice pa fpt.length pc) := by rw [ob3.cell 4]; rfl
        have HR1 := Lib.hid ob1
        have HR3 := Lib.hid ob3
        have HRS := Lib.hid hsr
        clear ob1 ob3 hsr b3 y1 y2 y3 z2 z3
        by_cases hlt : k < l.length
        · have hki : (k : Int) < (l.length : Int) := by omega
          obtain ⟨r, hr⟩ : ∃ r, l[k]? = some r := ⟨l[k], List.getElem?_eq_getElem hlt⟩
          have hel := fun j v (hj : j < 5) (hv : (FR.cells r)[j]? = some v) => (HO3.out.st HRS.out (Dj.no _)).cellAt (k * 5 + j) v ((flat_get FR.cells 5 FR.cells_len l k j _ hr hj).trans hv)
          obtain ⟨rp1, rp2, rp3, rp4⟩ := HPRT.out r (List.mem_of_getElem? hr)
          have HRP : Hid (Bs wr r.a r.f.part) := Lib.hid (((rp1.st HS2.out (Dj.no _)).st HS3.out (Dj.no _)).st HRS.out (Dj.no _))
          have HKR := Lib.hid hr
          clear hr rp1 rp2
          obtain ⟨⟨gid, gix, gct, gtt, gpt⟩, ga, gc⟩ := r
          have e1 : wr.cell? ⟨gs, k * 5 + 1, none⟩ = some (.int .i64 gix) := hel 1 _ (by decide) rfl
          have e4 : wr.cell? ⟨gs, k * 5 + 4, none⟩ = some (.slice ga gpt.length gc) := hel 4 _ (by decide) rfl
          clear hel
          by_cases hx : gix = fix
          · subst hx
            have HFS : Hid ((l.map (·.f)).find? (fun g => decide (g.index = gix)) = some ⟨gid, gix, gct, gtt, gpt⟩) := Lib.hid (find_some_take (k := k) (by rw [List.getElem?_map, HKR.out]; rfl) rfl (fun j u hj hu => by
              rw [List.getElem?_map] at hu
              obtain ⟨r2, hr2, rfl⟩ := Option.map_eq_some_iff.1 hu
              exact HN.out j r2 hj hr2))
            go_wp2_with fail
            go_quiet (fail)
            rename Nat => nqb
            have hv1 := fun n => conv_bs (w := wr.drewN n) (c := gc) (HRP.out.drewN n)
            have hv2 := fun n => conv_bs (w := wr.drewN n) (c := pc) (((HBS.out.st HS3.out (Dj.no _)).st HRS.out (Dj.no _)).drewN n)
            have hbq := strB_beq gpt fpt
            have HQO : Hid (q = ⟨[], false, if gpt = fpt then 0 else 44, rs⟩) := Lib.hid (by rw [← HQ.out]; exact rAdd_old (f := ⟨fid, gix, ct, tt, fpt⟩) HRI.out HHD.out.1 HHD.out.2 HFS.out)
            by_cases he : gpt = fpt
            · rw [decide_eq_true he] at hbq
              rw [if_pos he] at HQO
              clear he
              go_wp2_with fail
              go_quiet (fail)
              rename Nat => nqc
              go_wp2
              go_ret3
              exact HSAME.out _ ((HRS.out.trans (St.drewN No wr nqb)).trans (St.drewN No _ _)) 0 HQO.out
            · rw [decide_eq_false he] at hbq
              rw [if_neg he] at HQO
              clear he
              go_wp2_with fail
              go_quiet (fail)
              rename Nat => nqc
              go_wp2
              go_ret3
              exact HSAME.out _ ((HRS.out.trans (St.drewN No wr nqb)).trans (St.drewN No _ _)) 44 HQO.out
          · have hxb : ((gix : Int) == (fix : Int)) = false := beq_eq_false_iff_ne.2 (by omega)
            go_wp2_with fail
            go_quiet (fail)
            rename Nat => nqb
            go_wp2
            refine ⟨⟨k + 1, by omega, by simp, Lib.hid (fun j u hj hu => ?_), Lib.hid (HD.out.drewN nqb)⟩, by simp [intOf]; omega⟩
            by_cases e : j = k
            · subst e
              rw [HKR.out] at hu
              rw [← Option.some.inj hu]
              exact hx
            · exact HN.out j u (by omega) hu
        · obtain rfl : k = l.length := by omega
          have HFN : Hid ((l.map (·.f)).find? (fun g => decide (g.index = fix)) = none) := Lib.hid (find_none_take (fun j u hu => by
            rw [List.getElem?_map] at hu
            obtain ⟨r2, hr2, rfl⟩ := Option.map_eq_some_iff.1 hu
            exact HN.out j r2 (List.getElem?_eq_some_iff.1 hr2).1 hr2))
          have v0 : wr.cell? ⟨w1.heap.size, 0, none⟩ = some (.int .u64 (fid.toNat : Int)) := by rw [HR3.out.cell 0]; rfl
          have v2 : wr.cell? ⟨w1.heap.size, 2, none⟩ = some (.int .i64 ct) := by rw [HR3.out.cell 2]; rfl
          have v3 : wr.cell? ⟨w1.heap.size, 3, none⟩ = some (.int .i64 tt) := by rw [HR3.out.cell 3]; rfl
          have g3 := HR1.out.free 3
          have l1 := HR1.out.lt
          have l3 := HR3.out.lt
          have HOR : Hid (Own wr 73 5 (.slice (some ⟨gs, 0, none⟩) l.length sc) l.length (l.flatMap FR.cells)) := Lib.hid (HO3.out.st HRS.out (Dj.no _))
          have hng : ¬ fpV (.slice (some ⟨gs, 0, none⟩) l.length sc) w2.heap.size := fun hv => by
            have := (HJ2.out.lst _ (List.mem_of_getElem? HLI.out)).in _ hv
            omega
          have hnb : ¬ fpV (.slice (some ⟨gs, 0, none⟩) l.length sc) w1.heap.size := fun hv => by
            have h1 := HOWI.out.in _ hv
            omega
          have HNG := Lib.hid hng
          have HNB := Lib.hid hnb
          clear hng hnb
          go_wp2_with (at_builtin; refine wpList_app rfl (.tmp 128) (.tmp 130) 180 rfl 73 ti _ 5 56 Try.underlying180 HTI.out HZ.out HSZ.out HBY.out rfl (by decide) _ l.length (l.flatMap FR.cells) rfl (HOR.out.st (St.alloc' No wr _) (Dj.no _)) (some ⟨wr.heap.size, 0, none⟩) 1 1 (FR.cells ⟨⟨fid, fix, ct, tt, fpt⟩, pa, pc⟩) rfl (flSrc wr ⟨⟨fid, fix, ct, tt, fpt⟩, pa, pc⟩) (fun h => by cases h) (by unfold maxLen; omega) (by omega) ?_; intro v5 w5 ho5 hs5 hn5; have HO5 := Lib.hid ho5; have HS5 := Lib.hid hs5; have q5 := (HR1.out.move ((hs5.block _ (Nat.lt_of_lt_of_le l1 (St.alloc' No wr _).size) HNG.out).trans ((St.alloc' No wr _).block _ l1 (fun e => e)))); have q53 : w5.cell? ⟨w2.heap.size, 3, none⟩ = some (.slice (some ⟨gs, 0, none⟩) l.length sc) := (by rw [q5.cell 3]; rfl); have q5f := q5.free 3; have HQ5 := Lib.hid q5; obtain ⟨va5, vc5, rfl, _, _, _, _⟩ := ho5.form; clear ho5 hs5 hn5 q5)
          have HS6 : Hid (St (fpV (.slice (some ⟨gs, 0, none⟩) l.length sc)) w2 (fpV (.slice va5 (l.length + 1) vc5)) (w5.setCell ⟨w2.heap.size, 3, none⟩ (.slice va5 (l.length + 1) vc5))) := Lib.hid (St.put_comp HS3.out HRS.out HS5.out (Nat.le_refl _) _)
          have hq6 := HQ5.out.set 3 (.slice va5 (l.length + 1) vc5)
          have HV5 : Hid (¬ fpV (.slice va5 (l.length + 1) vc5) w2.heap.size) := Lib.hid (fun hv => by
            rcases HS5.out.new _ hv with h1 | h1
            · exact HNG.out h1
            · simp at h1; omega)
          have HO6 : Hid (Own (w5.setCell ⟨w2.heap.size, 3, none⟩ (.slice va5 (l.length + 1) vc5)) 73 5 (.slice va5 (l.length + 1) vc5) (l.length + 1) (l.flatMap FR.cells ++ FR.cells ⟨⟨fid, fix, ct, tt, fpt⟩, pa, pc⟩)) := Lib.hid (HO5.out.st (St.setCell (F := fpB w2.heap.size) w5 ⟨w2.heap.size, 3, none⟩ _ rfl) (fun k hk hv => by have e : k = w2.heap.size := hk; subst e; exact HV5.out hv))
          have q62 : (w5.setCell ⟨w2.heap.size, 3, none⟩ (.slice va5 (l.length + 1) vc5)).cell? ⟨pr, 2, none⟩ = some (.slice (some ⟨g, 0, none⟩) L.length vc0) := by rw [(HJ2.out.ob.move (HS6.out.block pr HJ2.out.ob.lt (HJ2.out.lp _ (List.mem_of_getElem? HLI.out)))).cell 2]; rfl
          have q63 : (w5.setCell ⟨w2.heap.size, 3, none⟩ (.slice va5 (l.length + 1) vc5)).frozen? ⟨pr, 2, none⟩ = false := (HJ2.out.ob.move (HS6.out.block pr HJ2.out.ob.lt (HJ2.out.lp _ (List.mem_of_getElem? HLI.out)))).free 2
          have how := HJ2.out.own.st HS6.out (HJ2.out.lV _ (List.mem_of_getElem? HLI.out))
          have hel := fun j v (hj : j < 4) (hv : (SR.cells ⟨(k1, k2), age, .slice (some ⟨gs, 0, none⟩) l.length sc, l⟩)[j]? = some v) => how.cellAt (i * 4 + j) v ((flat_get SR.cells 4 SR.cells_len L i j _ HLI.out hj).trans hv)
          have HOB6 := Lib.hid hq6
          have hb3 : Ob (w5.setCell ⟨w2.heap.size, 3, none⟩ (.slice va5 (l.length + 1) vc5)) w1.heap.size 73 #[.int .u64 (fid.toNat : Int), .int .i64 fix, .int .i64 ct, .int .i64 tt, .slice pa fpt.length pc] := HB0.out.move (HS6.out.block _ HB0.out.lt HNB.out)
          have HB36 := Lib.hid hb3
          have x0 : (w5.setCell ⟨w2.heap.size, 3, none⟩ (.slice va5 (l.length + 1) vc5)).cell? ⟨w2.heap.size, 0, none⟩ = some (.int .i64 k1) := by rw [hq6.cell 0]; rfl
          have x1 : (w5.setCell ⟨w2.heap.size, 3, none⟩ (.slice va5 (l.length + 1) vc5)).cell? ⟨w2.heap.size, 1, none⟩ = some (.int .u64 k2) := by rw [hq6.cell 1]; rfl
          have x2 : (w5.setCell ⟨w2.heap.size, 3, none⟩ (.slice va5 (l.length + 1) vc5)).cell? ⟨w2.heap.size, 2, none⟩ = some (.int .i64 age) := by rw [hq6.cell 2]; rfl
          have x3 : (w5.setCell ⟨w2.heap.size, 3, none⟩ (.slice va5 (l.length + 1) vc5)).cell? ⟨w2.heap.size, 3, none⟩ = some (.slice va5 (l.length + 1) vc5) := by rw [hq6.cell 3]; rfl
          have z2 : (w5.setCell ⟨w2.heap.size, 3, none⟩ (.slice va5 (l.length + 1) vc5)).cell? ⟨w1.heap.size, 2, none⟩ = some (.int .i64 ct) := by rw [hb3.cell 2]; rfl
          have c0 : (w5.setCell ⟨w2.heap.size, 3, none⟩ (.slice va5 (l.length + 1) vc5)).cell? ⟨g, i * 4, none⟩ = some (.int .i64 k1) := hel 0 _ (by decide) rfl
          have c1 : (w5.setCell ⟨w2.heap.size, 3, none⟩ (.slice va5 (l.length + 1) vc5)).cell? ⟨g, i * 4 + 1, none⟩ = some (.int .u64 k2) := hel 1 _ (by decide) rfl
          have c2 : (w5.setCell ⟨w2.heap.size, 3, none⟩ (.slice va5 (l.length + 1) vc5)).cell? ⟨g, i * 4 + 2, none⟩ = some (.int .i64 age) := hel 2 _ (by decide) rfl
          have c3 : (w5.setCell ⟨w2.heap.size, 3, none⟩ (.slice va5 (l.length + 1) vc5)).cell? ⟨g, i * 4 + 3, none⟩ = some (.slice (some ⟨gs, 0, none⟩) l.length sc) := hel 3 _ (by decide) rfl
          have f0 := how.freeAt (i * 4)
          have f1 := how.freeAt (i * 4 + 1)
          have f2 := how.freeAt (i * 4 + 2)
          have f3 := how.freeAt (i * 4 + 3)
          have n1 : g ≠ w2.heap.size := by
            have := HJ2.out.own.in g (by rfl)
            omega
          have n2 : g ≠ pr := fun e => HJ2.out.vp (by rw [← e]; rfl)
          have n3 : g ≠ w1.heap.size := by
            have := HJ.out.own.in g (by rfl)
            omega
          clear hel how hq6 hb3 q53 q5f g3 u3 v0 v1 v2 v3 v4
          have HPUT := Lib.hid (HJ2.out.put (w0 := w) (F0 := F) (HS2.out.wide (G' := fpRj pr (.slice (some ⟨g, 0, none⟩) L.length vc0) D L) (fun _ h => h.elim) (fun k hk => .inl ((HF.out k).2 hk))) i _ HLI.out ⟨⟨fid, fix, ct, tt, fpt⟩, pa, pc⟩ HBS.out HPN.out (by simp only; omega) (fun k hk => ⟨(HPD.out k hk).1, by have h1 := (HPD.out k hk).2; have h2 := HW2.out; omega, fun hf => by have h1 := HPD.out k hk; have := HIN.out k hf; omega⟩) HS6.out HO6.out)
          simp only at HPUT
          generalize (w5.setCell ⟨w2.heap.size, 3, none⟩ (.slice va5 (l.length + 1) vc5)) = w6 at *
          have HP1 : Hid (Rj (((((w6.setCell ⟨g, i * 4, none⟩ (.int .i64 k1)).setCell ⟨g, i * 4 + 1, none⟩ (.int .u64 k2)).setCell ⟨g, i * 4 + 2, none⟩ (.int .i64 age)).setCell ⟨g, i * 4 + 3, none⟩ (.slice va5 (l.length + 1) vc5)).drew) pr (.slice (some ⟨g, 0, none⟩) L.length vc0) (fun k => D k ∨ fpA pa k) sl ag (L.set i ⟨(k1, k2), age, .slice va5 (l.length + 1) vc5, l ++ [⟨⟨fid, fix, ct, tt, fpt⟩, pa, pc⟩]⟩)) := Lib.hid (HPUT.out.1.st (St.drew No _) (Dj.no _))
          have HP2 : Hid (St F w (fpRj pr (.slice (some ⟨g, 0, none⟩) L.length vc0) (fun k => D k ∨ fpA pa k) (L.set i ⟨(k1, k2), age, .slice va5 (l.length + 1) vc5, l ++ [⟨⟨fid, fix, ct, tt, fpt⟩, pa, pc⟩]⟩)) (((((w6.setCell ⟨g, i * 4, none⟩ (.int .i64 k1)).setCell ⟨g, i * 4 + 1, none⟩ (.int .u64 k2)).setCell ⟨g, i * 4 + 2, none⟩ (.int .i64 age)).setCell ⟨g, i * 4 + 3, none⟩ (.slice va5 (l.length + 1) vc5)).drew)) := Lib.hid (HPUT.out.2.1.trans (St.drew _ _))
          have HBX : Hid (Ob (((((w6.setCell ⟨g, i * 4, none⟩ (.int .i64 k1)).setCell ⟨g, i * 4 + 1, none⟩ (.int .u64 k2)).setCell ⟨g, i * 4 + 2, none⟩ (.int .i64 age)).setCell ⟨g, i * 4 + 3, none⟩ (.slice va5 (l.length + 1) vc5)).drew) w2.heap.size 182 #[.int .i64 k1, .int .u64 k2, .int .i64 age, .slice va5 (l.length + 1) vc5]) := Lib.hid ((HOB6.out.move ((((St.setCell (F := fpB g) w6 ⟨g, i * 4, none⟩ _ rfl).trans (St.setCell (F := fpB g) _ ⟨g, i * 4 + 1, none⟩ _ rfl)).trans (St.setCell (F := fpB g) _ ⟨g, i * 4 + 2, none⟩ _ rfl)).trans (St.setCell (F := fpB g) _ ⟨g, i * 4 + 3, none⟩ _ rfl) |>.block _ HOB6.out.lt (fun e => n1 (Eq.symm e)))).drew)
          have HPS : Hid ((L.set i ⟨(k1, k2), age, .slice va5 (l.length + 1) vc5, l ++ [⟨⟨fid, fix, ct, tt, fpt⟩, pa, pc⟩]⟩).map SR.pl = rs.set i ⟨(k1, k2), age, l.map (·.f) ++ [⟨fid, fix, ct, tt, fpt⟩]⟩) := Lib.hid (by rw [List.map_set, HPL.out]; simp [SR.pl])
          have HBY0 : Hid (Ob (((((w6.setCell ⟨g, i * 4, none⟩ (.int .i64 k1)).setCell ⟨g, i * 4 + 1, none⟩ (.int .u64 k2)).setCell ⟨g, i * 4 + 2, none⟩ (.int .i64 age)).setCell ⟨g, i * 4 + 3, none⟩ (.slice va5 (l.length + 1) vc5)).drew) w1.heap.size 73 #[.int .u64 (fid.toNat : Int), .int .i64 fix, .int .i64 ct, .int .i64 tt, .slice pa fpt.length pc]) := Lib.hid ((HB36.out.move ((((St.setCell (F := fpB g) w6 ⟨g, i * 4, none⟩ _ rfl).trans (St.setCell (F := fpB g) _ ⟨g, i * 4 + 1, none⟩ _ rfl)).trans (St.setCell (F := fpB g) _ ⟨g, i * 4 + 2, none⟩ _ rfl)).trans (St.setCell (F := fpB g) _ ⟨g, i * 4 + 3, none⟩ _ rfl) |>.block _ HB36.out.lt (fun e => n3 (Eq.symm e)))).drew)
          have HDN : Hid (Dj (fun k => k = w2.heap.size) (fpRj pr (.slice (some ⟨g, 0, none⟩) L.length vc0) (fun k => D k ∨ fpA pa k) (L.set i ⟨(k1, k2), age, .slice va5 (l.length + 1) vc5, l ++ [⟨⟨fid, fix, ct, tt, fpt⟩, pa, pc⟩]⟩))) := Lib.hid (fun k hk hf => by
            subst hk
            rcases hf with hf | hf | hf | ⟨t, ht, hf⟩
            · have := HJ2.out.ob.lt; omega
            · exact n1 (by have e : some g = some w2.heap.size := hf; exact Option.some.inj e)
            · rcases hf with hf | hf
              · have := HJ2.out.inD _ hf; omega
              · have := (HPD.out _ hf).2; have := HW2.out; omega
            · obtain ⟨j, hj⟩ := List.getElem?_of_mem ht
              by_cases e : i = j
              · subst e
                rw [List.getElem?_set_self hil] at hj
                rw [← Option.some.inj hj] at hf
                exact HV5.out hf
              · rw [List.getElem?_set_ne e] at hj
                have := (HJ2.out.lst t (List.mem_of_getElem? hj)).in _ hf
                omega)
          clear HPUT HOB6
          by_cases hlt3 : l.length + 1 < ct
          · have hl3i : (l.length : Int) + 1 < (ct : Int) := by omega
            have HQM : Hid (q = ⟨[], false, 0, rs.set i ⟨(k1, k2), age, l.map (·.f) ++ [⟨fid, fix, ct, tt, fpt⟩]⟩⟩) := Lib.hid (by rw [← HQ.out]; exact rAdd_more (f := ⟨fid, fix, ct, tt, fpt⟩) HRI.out HHD.out.1 HHD.out.2 HFN.out (by simpa using hlt3))
            go_region_law (fail)
            all_goals go_wp2_with fail
            all_goals go_ret3
            all_goals
              rw [HQM.out]
              exact ⟨.slice none 0 0, _, rfl, OwB.nil _, ⟨_, _, _, HP1.out, HPS.out, fun k => Iff.rfl⟩, HP2.out.drop (fun k hk => by
                rcases hk with hk | hk
                · exact .inr hk
                · simp [fpV, Value.ownBlock] at hk), fun k hk => by simp [fpV, Value.ownBlock] at hk⟩
          · have hl3i : ¬ (l.length : Int) + 1 < (ct : Int) := by omega
            have HQM : Hid (q = ⟨wholeR (l.map (·.f) ++ [⟨fid, fix, ct, tt, fpt⟩]), true, 0, rs.eraseIdx i⟩) := Lib.hid (by rw [← HQ.out]; exact rAdd_full (f := ⟨fid, fix, ct, tt, fpt⟩) HRI.out HHD.out.1 HHD.out.2 HFN.out (by simpa using hlt3))
            have HLS : Hid ((L.set i ⟨(k1, k2), age, .slice va5 (l.length + 1) vc5, l ++ [⟨⟨fid, fix, ct, tt, fpt⟩, pa, pc⟩]⟩).length = L.length) := Lib.hid (by simp)
            have HIS : Hid ((L.set i ⟨(k1, k2), age, .slice va5 (l.length + 1) vc5, l ++ [⟨⟨fid, fix, ct, tt, fpt⟩, pa, pc⟩]⟩)[i]? = some ⟨(k1, k2), age, .slice va5 (l.length + 1) vc5, l ++ [⟨⟨fid, fix, ct, tt, fpt⟩, pa, pc⟩]⟩) := Lib.hid (List.getElem?_set_self hil)
            have HES : Hid (((L.set i ⟨(k1, k2), age, .slice va5 (l.length + 1) vc5, l ++ [⟨⟨fid, fix, ct, tt, fpt⟩, pa, pc⟩]⟩).eraseIdx i).map SR.pl = rs.eraseIdx i) := Lib.hid (by rw [List.eraseIdx_set_eq, ← map_erase, HPL.out])
            go_region_law (fail)
            all_goals
              clear q62 q63 x0 x1 x2 x3 z2 c0 c1 c2 c3 f0 f1 f2 f3
              generalize (((((w6.setCell ⟨g, i * 4, none⟩ (.int .i64 k1)).setCell ⟨g, i * 4 + 1, none⟩ (.int .u64 k2)).setCell ⟨g, i * 4 + 2, none⟩ (.int .i64 age)).setCell ⟨g, i * 4 + 3, none⟩ (.slice va5 (l.length + 1) vc5)).drew) = w8 at *
              generalize (L.set i ⟨(k1, k2), age, .slice va5 (l.length + 1) vc5, l ++ [⟨⟨fid, fix, ct, tt, fpt⟩, pa, pc⟩]⟩) = L2 at *
              have x3 : w8.cell? ⟨w2.heap.size, 3, none⟩ = some (.slice va5 (l.length + 1) vc5) := by rw [HBX.out.cell 3]; rfl
              have z2 : w8.cell? ⟨w1.heap.size, 2, none⟩ = some (.int .i64 ct) := by rw [HBY0.out.cell 2]; rfl
              have q2 : w8.cell? ⟨pr, 2, none⟩ = some (.slice (some ⟨g, 0, none⟩) L.length vc0) := by rw [HP1.out.ob.cell 2]; rfl
              go_wp2_with fail
              have how2 := HP1.out.own
              refine (without_calls _ L2 (by rw [HLS.out]; exact hll) i (fun s hs => by
                obtain ⟨sa, sc, e, _⟩ := (HP1.out.lst s hs).form
                exact ⟨sa, _, sc, e⟩) w8 how2).mono ?_
              rintro e w9 ⟨V9, rfl, ho9, hs9⟩
              have hrl := HP1.out.relist (ss' := L2.eraseIdx i) ((List.eraseIdx_sublist _ _).map _) hs9 ho9
              have hst9 := St.setCell (F := fpB pr) w9 ⟨pr, 2, none⟩ V9 rfl
              have p9 := HP1.out.ob.move (hs9.block pr HP1.out.ob.lt (fun e => e))
              have hc9 : w9.cell? ⟨pr, 2, none⟩ = some (.slice (some ⟨g, 0, none⟩) L.length vc0) := by rw [p9.cell 2]; rfl
              have hf9 := p9.free 2
              have hbx9 := (HBX.out.move (hs9.block _ HBX.out.lt (fun e => e))).move (hst9.block _ (Nat.lt_of_lt_of_le HBX.out.lt hs9.size) (fun e => HDN.out _ rfl (.inl e)))
              have hlst := ((HP1.out.lst _ (List.mem_of_getElem? HIS.out)).st hs9 (Dj.no _)).st hst9 (fun k hk hv => HP1.out.lp _ (List.mem_of_getElem? HIS.out) (by have e : k = pr := hk; rw [← e]; exact hv))
              have hprt := fun u (hu : u ∈ l ++ [⟨⟨fid, fix, ct, tt, fpt⟩, pa, pc⟩]) => (show Bs (w9.setCell ⟨pr, 2, none⟩ V9) u.a u.f.part ∧ (u.a = none → u.c = 0) ∧ u.f.part.length ≤ 1024 by
                obtain ⟨p1, p2, p3, p4⟩ := HP1.out.prt _ (List.mem_of_getElem? HIS.out) u hu
                exact ⟨(p1.st hs9 (Dj.no _)).st hst9 (fun k hk hv => HP1.out.pD (by have e : k = pr := hk; rw [← e]; exact p2 k hv)), p3, p4⟩)
              have HRL := Lib.hid hrl
              have HBX9 := Lib.hid hbx9
              have HL9 := Lib.hid hlst
              have HP9 := Lib.hid hprt
              obtain ⟨va9, vc9, rfl, _, _, _, _⟩ := ho9.form
              clear ho9 hs9 hrl hst9 p9 hbx9 hlst hprt how2 x3 z2 q2
              have x0 : (w9.setCell ⟨pr, 2, none⟩ (.slice va9 (L2.eraseIdx i).length vc9)).cell? ⟨w2.heap.size, 0, none⟩ = some (.int .i64 k1) := by rw [HBX9.out.cell 0]; rfl
              have x1 : (w9.setCell ⟨pr, 2, none⟩ (.slice va9 (L2.eraseIdx i).length vc9)).cell? ⟨w2.heap.size, 1, none⟩ = some (.int .u64 k2) := by rw [HBX9.out.cell 1]; rfl
              have x2 : (w9.setCell ⟨pr, 2, none⟩ (.slice va9 (L2.eraseIdx i).length vc9)).cell? ⟨w2.heap.size, 2, none⟩ = some (.int .i64 age) := by rw [HBX9.out.cell 2]; rfl
              have x3 : (w9.setCell ⟨pr, 2, none⟩ (.slice va9 (L2.eraseIdx i).length vc9)).cell? ⟨w2.heap.size, 3, none⟩ = some (.slice va5 (l.length + 1) vc5) := by rw [HBX9.out.cell 3]; rfl
              go_wp2_with fail
              generalize (w9.setCell ⟨pr, 2, none⟩ (.slice va9 (L2.eraseIdx i).length vc9)) = wa at *
              have hwh := whole_calls k1 k2 age _ (l ++ [⟨⟨fid, fix, ct, tt, fpt⟩, pa, pc⟩]) (by simp; omega) wa HL9.out HP9.out
              refine hwh.mono ?_
              rintro e wb ⟨VW, rfl, how, hsw⟩
              have HOWW := Lib.hid how
              have HSW := Lib.hid hsw
              clear how hsw hwh
              go_wp2_with fail
              go_ret3
              rw [HQM.out]
              have hz9 := HRL.out.2.size
              refine ⟨VW, _, rfl, ?_, ⟨_, _, _, HRL.out.1.st HSW.out (Dj.no _), HES.out, fun k => Iff.rfl⟩, ?_, ?_⟩
              · have h1 := HOWW.out
                rw [List.map_append] at h1
                exact h1
              · have h1 := HP2.out.trans HRL.out.2
                exact (h1.then0 HSW.out (fun k hk => (HSW.out.new k hk).elim (fun h => h.elim) (fun h => h)))
              · intro k hk hf
                have h1 := (HSW.out.new k hk).elim (fun h => h.elim) (fun h => h)
                have h2 := HRL.out.1.in k hf
                omega
    · have b2 : (((ct : Nat) : Int) != (fct : Int)) = true := by rw [bne_iff_ne]; omega
      go_quiet (fail)
      go_wp2_with fail
      go_ret3
      exact HSAME.out _ (St.drewN No w3 _) 44 (by rw [← HQ.out]; exact rAdd_clash HRI.out (.inr (by rw [HHD.out.2]; exact h2)))
  · have b1 : (((tt : Nat) : Int) != (ftt : Int)) = true := by rw [bne_iff_ne]; omega
    go_quiet (fail)
    go_wp2_with fail
    go_ret3
    exact HSAME.out _ (St.drewN No w3 _) 44 (by rw [← HQ.out]; exact rAdd_clash HRI.out (.inl (by rw [HHD.out.1]; exact h1)))
end Go.Proofs.Ytoeafacamapofaa
