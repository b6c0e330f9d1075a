
/-
  The program's Joiner: drop.
-/
import Derived.Test.YtoeafacamapofaaJnBase
import Derived.Test.YtoeafacamapofaaStRows2
namespace Go.Proofs.Ytoeafacamapofaa
open Go.RowKit
set_option linter.unusedVariables false
set_option linter.unusedSimpArgs false

/-- a step of a region: delete -/
theorem step_del {α : Type} [DecidableEq α] {P : Program} {kt : TypeId} {key : α → Value} {ops : Array Oper} {o : Oper} {ac : Act} {w : World} {K : Act → World → Prop} {Q : Exit → Act → World → Prop} {E : Prop} (hgd : o.guard = none) (m x : Operand) (t e : TypeId)
    (ho : o.op = .call { callee := .builtin .delete, args := #[m, x], argTypes := #[t, kt] }) (KE : KeyEq P kt key) (ht : P.underlying t = some (.map kt e)) (b : Nat) (L : List (α × Value)) (k : α)
    (hm : ac.eval m = .map (some b)) (hx : ac.eval x = key k) (h : Mp w b key L)
    (hK : ∀ w', Mp w' b key (L.filter (fun p => decide (p.1 ≠ k))) → St (fpB b) w (fpB b) w' → w'.heap.size = w.heap.size → K (ac.put o.dst (.tuple #[])) w') :
    if Region.wanted o (yielded ops ac.tmps) = true then Oper.wp P o ac w K Q else E := by
  have hw : Region.wanted o (yielded ops ac.tmps) = true := by simp [Region.wanted, hgd]
  rw [if_pos hw]
  obtain ⟨w', hr, h1, h2, h3⟩ := h.delete KE ht k (ty := o.type)
  unfold Oper.wp execOp
  simp only [ho, resolve, invoke, builtin, Sem.run_bind, Sem.run_pure, Result.andThen_ok, List.map_toArray, List.map_cons, List.map_nil, hm, hx, hr]
  exact hK w' h1 h2 h3
def Nb (w : World) (b : Nat) : Nat → Prop := fun k => k = b ∨ w.heap.size ≤ k
theorem St.nb {w a c : World} {b : Nat} {G H : Nat → Prop} (h : St (fpB b) w (Nb w b) a) (k : St G a H c) (hG : ∀ j, G j → Nb w b j) : St (fpB b) w (Nb w b) c :=
  ⟨k.os.trans h.os, k.tape.trans h.tape, k.output.trans h.output, Nat.le_trans h.size k.size,
   fun i hi hF => (k.block i (Nat.lt_of_lt_of_le hi h.size) (fun hg => (hG i hg).elim hF (fun hl => absurd hi (Nat.not_lt.2 hl)))).trans (h.block i hi hF), fun i hi => hi⟩
/-- what stays -/
def keepS (q : Nm → Bool) (ss : List SM) : List SM := ss.filter (fun s => !q s.key)
theorem keepS_snoc (q : Nm → Bool) (ss : List SM) (s : SM) : keepS q (ss ++ [s]) = keepS q ss ++ (if q s.key then [] else [s]) := by
  unfold keepS
  rw [List.filter_append]
  cases hq : q s.key <;> simp [hq]
theorem keepS_len (q : Nm → Bool) (ss : List SM) : (keepS q ss).length ≤ ss.length := List.length_filter_le _ _
theorem flat_sub {α β : Type} (f : α → List β) {l l' : List α} (h : l.Sublist l') : (l.flatMap f).Sublist (l'.flatMap f) := by
  induction h with
  | slnil => exact List.Sublist.refl _
  | cons a _ ih => rw [List.flatMap_cons]; exact ih.trans (List.sublist_append_right _ _)
  | cons_cons a _ ih => rw [List.flatMap_cons, List.flatMap_cons]; exact (List.Sublist.refl _).append ih
theorem blkS_sub (q : Nm → Bool) (ss : List SM) : (blkS (keepS q ss)).Sublist (blkS ss) := flat_sub _ List.filter_sublist
/-- the map on the way -/
def midS (q : Nm → Bool) (ss : List SM) (k : Nat) : List (Nm × Value) := (keepS q (ss.take k) ++ ss.drop k).map SM.ent
theorem midS_keys {q : Nm → Bool} {ss : List SM} (hn : ((ss.map SM.ent).map (·.1)).Nodup) (k : Nat) (hk : k < ss.length) : midS q ss (k + 1) = (if q ss[k].key then (midS q ss k).filter (fun p => decide (p.1 ≠ ss[k].key)) else midS q ss k) := by
  have hm : (ss.map SM.ent).map (·.1) = ss.map (·.key) := by rw [List.map_map]; rfl
  rw [hm] at hn
  unfold midS
  rw [List.take_succ_eq_append_getElem hk, keepS_snoc, List.drop_eq_getElem_cons hk]
  cases hq : q ss[k].key with
  | false => simp
  | true =>
    have hsplit : ss = ss.take k ++ ss[k] :: ss.drop (k + 1) := by rw [← List.drop_eq_getElem_cons hk, List.take_append_drop]
    rw [hsplit, List.map_append, List.map_cons, List.nodup_append] at hn
    obtain ⟨_, h2, h3⟩ := hn
    simp only [if_true, List.append_nil]
    rw [List.map_append, List.map_append, List.filter_append, List.map_cons, List.filter_cons_of_neg (by simp [SM.ent])]
    congr 1
    · refine (List.filter_eq_self.2 (fun p hp => ?_)).symm
      obtain ⟨s, hs, rfl⟩ := List.mem_map.1 hp
      have hs' : s ∈ ss.take k := (List.mem_filter.1 hs).1
      exact decide_eq_true (h3 s.key (List.mem_map.2 ⟨s, hs', rfl⟩) ss[k].key (List.mem_cons_self ..))
    · refine (List.filter_eq_self.2 (fun p hp => ?_)).symm
      obtain ⟨s, hs, rfl⟩ := List.mem_map.1 hp
      rw [List.nodup_cons] at h2
      exact decide_eq_true (fun e : s.key = ss[k].key => h2.1 (e ▸ List.mem_map.2 ⟨s, hs, rfl⟩))
theorem midS_find {q : Nm → Bool} {ss : List SM} (hn : ((ss.map SM.ent).map (·.1)).Nodup) (k : Nat) (hk : k < ss.length) : (midS q ss k).find? (fun p => decide (p.1 = ss[k].key)) = some ss[k].ent := by
  have hm : (ss.map SM.ent).map (·.1) = ss.map (·.key) := by rw [List.map_map]; rfl
  rw [hm] at hn
  unfold midS
  have hsplit : ss = ss.take k ++ ss[k] :: ss.drop (k + 1) := by rw [← List.drop_eq_getElem_cons hk, List.take_append_drop]
  rw [List.drop_eq_getElem_cons hk, List.map_append, List.map_cons, List.find?_append]
  rw [hsplit, List.map_append, List.map_cons, List.nodup_append] at hn
  obtain ⟨_, h2, h3⟩ := hn
  have : ((keepS q (ss.take k)).map SM.ent).find? (fun p => decide (p.1 = ss[k].key)) = none := by
    rw [List.find?_eq_none]
    intro p hp
    obtain ⟨s, hs, rfl⟩ := List.mem_map.1 hp
    have hs' : s ∈ ss.take k := (List.mem_filter.1 hs).1
    have := h3 s.key (List.mem_map.2 ⟨s, hs', rfl⟩) ss[k].key (List.mem_cons_self ..)
    exact fun e => this (of_decide_eq_true e)
  rw [this, List.find?_cons_of_pos (by simp [SM.ent])]
  rfl
theorem nmOne (w : World) (x : Nm) : Src (w.alloc (.cells #[.int .u8 x.1, .int .u64 x.2] 174)) (some ⟨w.heap.size, 0, none⟩) 1 2 (nmC x) := by
  refine ⟨rfl, ?_, ?_⟩
  · exact rd_row (heap_alloc_new w _)
  · intro u hu
    simp [nmC] at hu
    rcases hu with rfl | rfl <;> rfl
theorem Ob.two {w : World} {p : Nat} {T : TypeId} {a b : Value} (h : Ob w p T #[a, b]) : w.cell? ⟨p, 0, none⟩ = some a ∧ w.cell? ⟨p, 1, none⟩ = some b ∧ w.frozen? ⟨p, 0, none⟩ = false ∧ w.frozen? ⟨p, 1, none⟩ = false :=
  ⟨by rw [h.cell 0]; rfl, by rw [h.cell 1]; rfl, h.free 0, h.free 1⟩
/-- the closure's answers, wherever drop asks them -/
def Asks (fn : Nat) (cap : Value) (q : Nm → Bool) (w : World) (bm : Nat) (ss : List SM) : Prop :=
  ∀ (k : Nat) (hk : k < ss.length) (W : World), St (fpB bm) w (Nb w bm) W → Mp W bm nmV (midS q ss k) → Calls Try.prog fn #[nmV ss[k].key, cap] W fun e w' => e = .returned (.bool (q ss[k].key)) ∧ St No W No w'
def DropJ (w : World) (pj bm : Nat) (V : Value) (D : Nat → Prop) (sl ag : Nat) (ss ss' : List SM) (e : Ending) (w' : World) : Prop :=
  e = .returned (.int .i64 ((ss.length : Int) - (ss'.length : Int))) ∧ ∃ V', Jm w' pj bm V' D sl ag ss' ∧ St (fpJ pj bm V D ss) w (fpJ pj bm V' D ss') w'
set_option maxRecDepth 100000 in
set_option maxHeartbeats 2000000 in
theorem jdrop_calls (fn : Nat) (hcf : ∀ (a b : Value) (W : World), (callFunc fn #[a, b]).run Try.prog W = .ok (.enter fn #[a, b]) W) (cap : Value) (q : Nm → Bool) (w : World) (pj bm : Nat) (V : Value) (D : Nat → Prop) (sl ag : Nat) (ss : List SM) (hlen : ss.length ≤ 65536) (h : Jm w pj bm V D sl ag ss) (ha : Asks fn cap q w bm ss) :
    Calls Try.prog 95 #[.pointer (some ⟨pj, 0, none⟩), .func (.func fn) #[] #[cap]] w (DropJ w pj bm V D sl ag ss (keepS q ss)) := by
  have HJ := Lib.hid h
  have HA := Lib.hid ha
  obtain ⟨va, vc, rfl, hv1, hv2, hv3, hv4⟩ := h.ord.form
  have hpl := h.ob.lt
  have hbl := h.mp.lt
  have hpb : pj ≠ bm := by have := h.apart; simp at this; exact this.1.1
  have d3 : w.cell? ⟨pj, 3, none⟩ = some (.slice va ss.length vc) := by rw [h.ob.cell 3]; rfl
  have d2 : w.cell? ⟨pj, 2, none⟩ = some (.map (some bm)) := by rw [h.ob.cell 2]; rfl
  obtain ⟨i, hi, hz, hsz, hby⟩ := info_parts nminfo
  have HI := Lib.hid hi
  have HZ := Lib.hid hz
  have HSZ := Lib.hid hsz
  have HBY := Lib.hid hby
  clear h ha hv1 hv2 hv3 hv4 hi hz hsz hby
  go_enter Try.func95, Try.ntmps95
  go_wp2
  go_loopw [5, 14] (fun x t wr => ∃ (k : Nat) (V' : Value), k ≤ ss.length ∧ t = .int .i64 k ∧ x = V' ∧ Hid (Own wr 174 2 V' (keepS q (ss.take k)).length ((keepS q (ss.take k)).flatMap fun s => nmC s.key)) ∧ Hid (∀ j, fpV V' j → w.heap.size ≤ j) ∧ Hid (Mp wr bm nmV (midS q ss k)) ∧ Hid (St (fpB bm) w (Nb w bm) wr)) (fun _ t _ => ss.length - (intOf t).toNat)
  case atStart =>
    refine ⟨0, _, by omega, rfl, rfl, Lib.hid (Own.nil _ _ _), Lib.hid (fun j hj => by simp [fpV, Value.ownBlock] at hj), Lib.hid ?_, Lib.hid ⟨rfl, rfl, rfl, Nat.le_refl _, fun _ _ _ => rfl, fun _ h => h⟩⟩
    simpa [midS, keepS] using HJ.out.mp
  case round =>
    clear d2 d3
    obtain ⟨k, V', hk, rfl, rfl, HO, HV, HM, HS⟩ := hrel
    have hob := HJ.out.ob.move (HS.out.block pj hpl hpb)
    by_cases hlt : k < ss.length
    · obtain ⟨s, hs⟩ : ∃ s, ss[k] = s := ⟨_, rfl⟩
      have hsn : keepS q (ss.take (k + 1)) = keepS q (ss.take k) ++ (if q s.key then [] else [s]) := by
        rw [List.take_succ_eq_append_getElem hlt, keepS_snoc, hs]
      have HSN := Lib.hid hsn
      have hmk := midS_keys HJ.out.mp.nodup (q := q) k hlt
      rw [hs] at hmk
      have HMK := Lib.hid hmk
      have hkl := keepS_len q (ss.take k)
      rw [List.length_take] at hkl
      have hown := HJ.out.ord.st HS.out (fun j hj hf => HJ.out.notV bm (by simp) (by have e : j = bm := hj; rw [← e]; exact hf))
      rw [← List.flatMap_map] at hown
      obtain ⟨y, rfl⟩ := rowL_some (rs := ss.map (·.key)) nmC_len (by decide) hown k (by simpa using hlt)
      have hel := fun j v => rowL_elem nmC_len hown k s.key (by simp [hlt, hs]) j v
      have hac := HA.out k hlt
      rw [hs] at hac
      have HAC := Lib.hid hac
      have d2 : wr.cell? ⟨pj, 2, none⟩ = some (.map (some bm)) := by rw [hob.cell 2]; rfl
      clear hsn hmk hown hac hob hs
      obtain ⟨⟨x1, x2⟩, sp, sg, stt, sgt, sag, sps⟩ := s
      have c0 : wr.cell? (y.add (k * 2)) = some (.int .u8 x1) := hel 0 _ (by decide) rfl
      have c1 : wr.cell? ⟨(y.add (k * 2)).block, (y.add (k * 2)).off + 1, none⟩ = some (.int .u64 x2) := hel 1 _ (by decide) rfl
      clear hel
      go_wp2_with fail
      have HSA := Lib.hid (HS.out.nb (St.alloc' No wr (.cells #[.int .u8 x1, .int .u64 x2] 174)) (fun _ h => h.elim))
      refine (HAC.out _ HSA.out (HM.out.st (St.alloc' No wr _) (fun h => h))).mono ?_
      rintro e w2 ⟨rfl, hs2⟩
      have hT : Ob w2 wr.heap.size 174 #[.int .u8 x1, .int .u64 x2] := (hs2.block _ (by simp) (fun h => h)).trans (heap_alloc_new wr _)
      obtain ⟨t0, t1, _, _⟩ := hT.two
      have hw2 := (St.alloc' No wr (.cells #[.int .u8 x1, .int .u64 x2] 174)).trans hs2
      have d2' : w2.cell? ⟨pj, 2, none⟩ = some (.map (some bm)) := by
        rw [((HJ.out.ob.move (HS.out.block pj hpl hpb)).move (hw2.block pj (Nat.lt_of_lt_of_le hpl HS.out.size) (fun h => h))).cell 2]; rfl
      have HW2 := Lib.hid hw2
      have HM2 := Lib.hid (HM.out.st hw2 (fun h => h))
      have HS2 := Lib.hid (HS.out.nb hw2 (fun _ h => h.elim))
      clear hs2 hT hw2 d2
      cases hqk : q (x1, x2) with
      | true =>
        have HE : Hid (keepS q (ss.take (k + 1)) = keepS q (ss.take k)) := Lib.hid (by rw [HSN.out, hqk]; simp)
        have HE2 : Hid (midS q ss (k + 1) = (midS q ss k).filter (fun p => decide (p.1 ≠ (x1, x2)))) := Lib.hid (by rw [HMK.out, hqk]; rfl)
        clear hqk
        go_wp2_with fail
        go_region_law (refine step_del (key := nmV) rfl (.tmp 24) (.tmp 25) 161 175 rfl nmKey Try.underlying161 bm (midS q ss k) (x1, x2) rfl rfl (HM2.out.move rfl) ?_; intro w3 hm3 hs3 hz3; have HM3 := Lib.hid hm3; have HS3 := Lib.hid hs3; clear hm3 hs3 hz3)
        all_goals go_wp2
        all_goals refine ⟨⟨k + 1, _, by omega, by simp, rfl, Lib.hid ?_, HV, Lib.hid ?_, Lib.hid ?_⟩, by simp [intOf]; omega⟩
        all_goals first
          | (rw [HE.out]
             have h3 := HS3.out
             have ho2 := HO.out.st HW2.out (Dj.no _)
             refine Own.st (h := ?_) h3 (fun j hj hf => ?_)
             · exact ho2.move (fun _ _ => rfl)
             · have e : j = bm := hj
               rw [e] at hf
               have := HV.out _ hf
               omega)
          | (rw [HE2.out]; exact HM3.out)
          | (have h3 := HS3.out
             refine St.nb (h := ?_) h3 (fun j hj => .inl hj)
             exact ⟨HS2.out.os, HS2.out.tape, HS2.out.output, HS2.out.size, HS2.out.block, HS2.out.new⟩)
      | false =>
        have HE : Hid (keepS q (ss.take (k + 1)) = keepS q (ss.take k) ++ [⟨(x1, x2), sp, sg, stt, sgt, sag, sps⟩]) := Lib.hid (by rw [HSN.out, hqk]; simp)
        have HE2 : Hid (midS q ss (k + 1) = midS q ss k) := Lib.hid (by rw [HMK.out, hqk]; rfl)
        clear hqk
        go_wp2_with (at_builtin; refine wpList_app rfl (.tmp 26) (.tmp 28) 162 rfl 174 i _ 2 16 Try.underlying162 HI.out HZ.out HSZ.out HBY.out rfl (by decide) _ _ _ rfl ((HO.out.st HW2.out (Dj.no _)).st (St.alloc' No w2 _) (Dj.no _)) (some ⟨w2.heap.size, 0, none⟩) 1 1 (nmC (x1, x2)) rfl (nmOne w2 (x1, x2)) (fun h => by cases h) (by unfold maxLen; omega) (by omega) ?_; intro v4 w4 ho4 hs4 hn4; have HO4 := Lib.hid ho4; have HS4 := Lib.hid hs4; clear ho4 hs4 hn4)
        refine ⟨⟨k + 1, v4, by omega, by simp, rfl, Lib.hid ?_, Lib.hid ?_, Lib.hid ?_, Lib.hid ?_⟩, by simp [intOf]; omega⟩
        · rw [HE.out, List.length_append, List.flatMap_append]
          simpa using HO4.out
        · intro j hj
          rcases HS4.out.new j hj with h | h
          · exact HV.out j h
          · have := HW2.out.size; have := HS.out.size; simp at h; omega
        · rw [HE2.out]
          exact (HM2.out.st (St.alloc' No w2 _) (fun h => h)).st HS4.out (fun h => by have := HV.out _ h; omega)
        · exact (HS2.out.nb (St.alloc' No w2 _) (fun _ h => h.elim)).nb HS4.out (fun j hj => .inr (HV.out j hj))
    · obtain rfl : k = ss.length := by omega
      have e3 : wr.cell? ⟨pj, 3, none⟩ = some (.slice va ss.length vc) := by rw [hob.cell 3]; rfl
      have g3 := hob.free 3
      have HTK : Hid (ss.take ss.length = ss) := Lib.hid List.take_length
      rw [HTK.out] at HO
      obtain ⟨L, hL⟩ : ∃ L, keepS q ss = L := ⟨_, rfl⟩
      rw [hL] at HO ⊢
      have hLl : L.length ≤ ss.length := by rw [← hL]; exact keepS_len q ss
      have HLL := Lib.hid hL
      obtain ⟨na, nc, rfl, _, _, _, _⟩ := HO.out.form
      have HOB2 := Lib.hid hob
      clear hob hL
      go_wp2
      go_ret
      have hme : midS q ss ss.length = L.map SM.ent := by
        unfold midS
        rw [HTK.out, HLL.out]
        simp
      rw [hme] at HM
      have hj := HJ.out
      have hbn : ∀ x ∈ pj :: bm :: blkS L, x ∈ pj :: bm :: blkS ss := by
        intro x hx
        rw [← HLL.out] at hx
        exact (((blkS_sub q ss).cons_cons bm).cons_cons pj).subset hx
      have hin := hj.in
      have st := fun u => (St.setCell (F := fpB pj) wr ⟨pj, 3, none⟩ u rfl)
      have hsl : ∀ s ∈ L, s ∈ ss := fun s hs => by rw [← HLL.out] at hs; exact (List.mem_filter.1 hs).1
      have hbs : ∀ s ∈ ss, pj ≠ s.p ∧ pj ≠ s.g ∧ bm ≠ s.p ∧ bm ≠ s.g := by
        intro s hs
        have h1 := hj.apart
        have h2 := blkS_mem hs
        simp only [List.nodup_cons, List.mem_cons, not_or] at h1
        exact ⟨fun e => h1.1.2 (e ▸ h2.1), fun e => h1.1.2 (e ▸ h2.2), fun e => h1.2.1 (e ▸ h2.1), fun e => h1.2.1 (e ▸ h2.2)⟩
      unfold DropJ
      rw [HLL.out]
      refine ⟨rfl, .slice na L.length nc, ⟨HOB2.out.set 3 _, HM.out.st (st _) (fun e => hpb e.symm), HO.out.st (st _) ?_, ?_, (hj.inD.st HS.out).st (st _), ?_, ?_, fun x hx => hj.notD x (hbn x hx), ?_⟩, ?_⟩
      · intro k hk hf
        obtain rfl : k = pj := hk
        have := HV.out _ hf; omega
      · intro s hs
        have hb := hbs s (hsl s hs)
        refine ((hj.slots s (hsl s hs)).st HS.out (fun e => hb.2.2.1 e.symm) (fun e => hb.2.2.2 e.symm) (fun k hk hd => ?_)).st (st _) (fun e => hb.1 e.symm) (fun e => hb.2.1 e.symm) (fun k hk hd => ?_)
        · obtain rfl : k = bm := hk
          exact hj.notD _ (by simp) hd
        · obtain rfl : k = pj := hk
          exact hj.notD _ (by simp) hd
      · rw [← HLL.out]
        exact hj.apart.sublist (((blkS_sub q ss).cons_cons bm).cons_cons pj)
      · intro x hx hf
        have := HV.out _ hf
        have := hin x (.inl (hbn x hx))
        omega
      · intro x hx hd
        have := HV.out _ hx
        have := hj.inD x hd
        omega
      · have hs := HS.out
        have ht := st (.slice na L.length nc)
        refine ⟨ht.os.trans hs.os, ht.tape.trans hs.tape, ht.output.trans hs.output, Nat.le_trans hs.size ht.size, fun x hx hn => ?_, fun x hx => ?_⟩
        · rw [ht.block x (Nat.lt_of_lt_of_le hx hs.size) (fun e => hn (.inl (by have e' : x = pj := e; simp [e'])))]
          exact hs.block x hx (fun e => hn (.inl (by have e' : x = bm := e; simp [e'])))
        · rcases hx with hx | hx | hx
          · exact .inl (.inl (hbn x hx))
          · exact .inr (HV.out x hx)
          · exact .inl (.inr (.inr hx))
end Go.Proofs.Ytoeafacamapofaa
