
/-
  The program's Joiner: drop.
  The program's Joiner: the closures that drop asks.
  The program's Joiner: a slot more.
-/
import Derived.Test.YtoeafacamapofaaJnBase
import Derived.Test.YtoeafacamapofaaStRows2
namespace Go.Proofs.Ytoeafacamapofaa
open Go.RowKit
set_option linter.unusedVariables false
set_option linter.unusedSimpArgs false

/-- a step of a region: delete -/
theorem step_del {α : Type} [DecidableEq α] {P : Program} {kt : TypeId} {key : α → Value} {ops : Array Oper} {o : Oper} {ac : Act} {w : World} {K : Act → World → Prop} {Q : Exit → Act → World → Prop} {E : Prop} (hgd : o.guard = none) (m x : Operand) (t e : TypeId)
    (ho : o.op = .call { callee := .builtin .delete, args := #[m, x], argTypes := #[t, kt] }) (KE : KeyEq P kt key) (ht : P.underlying t = some (.map kt e)) (b : Nat) (L : List (α × Value)) (k : α)
    (hm : ac.eval m = .map (some b)) (hx : ac.eval x = key k) (h : Mp w b key L)
    (hK : ∀ w', Mp w' b key (L.filter (fun p => decide (p.1 ≠ k))) → St (fpB b) w (fpB b) w' → w'.heap.size = w.heap.size → K (ac.put o.dst (.tuple #[])) w') :
    if Region.wanted o (yielded ops ac.tmps) = true then Oper.wp P o ac w K Q else E := by
  have hw : Region.wanted o (yielded ops ac.tmps) = true := by simp [Region.wanted, hgd]
  rw [if_pos hw]
  obtain ⟨w', hr, h1, h2, h3⟩ := h.delete KE ht k (ty := o.type)
  unfold Oper.wp execOp
  simp only [ho, resolve, invoke, builtin, Sem.run_bind, Sem.run_pure, Result.andThen_ok, List.map_toArray, List.map_cons, List.map_nil, hm, hx, hr]
  exact hK w' h1 h2 h3
def Nb (w : World) (b : Nat) : Nat → Prop := fun k => k = b ∨ w.heap.size ≤ k
theorem St.nb {w a c : World} {b : Nat} {G H : Nat → Prop} (h : St (fpB b) w (Nb w b) a) (k : St G a H c) (hG : ∀ j, G j → Nb w b j) : St (fpB b) w (Nb w b) c :=
  ⟨k.os.trans h.os, k.tape.trans h.tape, k.output.trans h.output, Nat.le_trans h.size k.size,
   fun i hi hF => (k.block i (Nat.lt_of_lt_of_le hi h.size) (fun hg => (hG i hg).elim hF (fun hl => absurd hi (Nat.not_lt.2 hl)))).trans (h.block i hi hF), fun i hi => hi⟩
/-- what stays -/
def keepS (q : Nm → Bool) (ss : List SM) : List SM := ss.filter (fun s => !q s.key)
theorem keepS_snoc (q : Nm → Bool) (ss : List SM) (s : SM) : keepS q (ss ++ [s]) = keepS q ss ++ (if q s.key then [] else [s]) := by
  unfold keepS
  rw [List.filter_append]
  cases hq : q s.key <;> simp [hq]
theorem keepS_len (q : Nm → Bool) (ss : List SM) : (keepS q ss).length ≤ ss.length := List.length_filter_le _ _
theorem flat_sub {α β : Type} (f : α → List β) {l l' : List α} (h : l.Sublist l') : (l.flatMap f).Sublist (l'.flatMap f) := by
  induction h with
  | slnil => exact List.Sublist.refl _
  | cons a _ ih => rw [List.flatMap_cons]; exact ih.trans (List.sublist_append_right _ _)
  | cons_cons a _ ih => rw [List.flatMap_cons, List.flatMap_cons]; exact (List.Sublist.refl _).append ih
theorem blkS_sub (q : Nm → Bool) (ss : List SM) : (blkS (keepS q ss)).Sublist (blkS ss) := flat_sub _ List.filter_sublist
/-- the map on the way -/
def midS (q : Nm → Bool) (ss : List SM) (k : Nat) : List (Nm × Value) := (keepS q (ss.take k) ++ ss.drop k).map SM.ent
theorem midS_keys {q : Nm → Bool} {ss : List SM} (hn : ((ss.map SM.ent).map (·.1)).Nodup) (k : Nat) (hk : k < ss.length) : midS q ss (k + 1) = (if q ss[k].key then (midS q ss k).filter (fun p => decide (p.1 ≠ ss[k].key)) else midS q ss k) := by
  have hm : (ss.map SM.ent).map (·.1) = ss.map (·.key) := by rw [List.map_map]; rfl
  rw [hm] at hn
  unfold midS
  rw [List.take_succ_eq_append_getElem hk, keepS_snoc, List.drop_eq_getElem_cons hk]
  cases hq : q ss[k].key with
  | false => simp
  | true =>
    have hsplit : ss = ss.take k ++ ss[k] :: ss.drop (k + 1) := by rw [← List.drop_eq_getElem_cons hk, List.take_append_drop]
    rw [hsplit, List.map_append, List.map_cons, List.nodup_append] at hn
    obtain ⟨_, h2, h3⟩ := hn
    simp only [if_true, List.append_nil]
    rw [List.map_append, List.map_append, List.filter_append, List.map_cons, List.filter_cons_of_neg (by simp [SM.ent])]
    congr 1
    · refine (List.filter_eq_self.2 (fun p hp => ?_)).symm
      obtain ⟨s, hs, rfl⟩ := List.mem_map.1 hp
      have hs' : s ∈ ss.take k := (List.mem_filter.1 hs).1
      exact decide_eq_true (h3 s.key (List.mem_map.2 ⟨s, hs', rfl⟩) ss[k].key (List.mem_cons_self ..))
    · refine (List.filter_eq_self.2 (fun p hp => ?_)).symm
      obtain ⟨s, hs, rfl⟩ := List.mem_map.1 hp
      rw [List.nodup_cons] at h2
      exact decide_eq_true (fun e : s.key = ss[k].key => h2.1 (e ▸ List.mem_map.2 ⟨s, hs, rfl⟩))
theorem midS_find {q : Nm → Bool} {ss : List SM} (hn : ((ss.map SM.ent).map (·.1)).Nodup) (k : Nat) (hk : k < ss.length) : (midS q ss k).find? (fun p => decide (p.1 = ss[k].key)) = some ss[k].ent := by
  have hm : (ss.map SM.ent).map (·.1) = ss.map (·.key) := by rw [List.map_map]; rfl
  rw [hm] at hn
  unfold midS
  have hsplit : ss = ss.take k ++ ss[k] :: ss.drop (k + 1) := by rw [← List.drop_eq_getElem_cons hk, List.take_append_drop]
  rw [List.drop_eq_getElem_cons hk, List.map_append, List.map_cons, List.find?_append]
  rw [hsplit, List.map_append, List.map_cons, List.nodup_append] at hn
  obtain ⟨_, h2, h3⟩ := hn
  have : ((keepS q (ss.take k)).map SM.ent).find? (fun p => decide (p.1 = ss[k].key)) = none := by
    rw [List.find?_eq_none]
    intro p hp
    obtain ⟨s, hs, rfl⟩ := List.mem_map.1 hp
    have hs' : s ∈ ss.take k := (List.mem_filter.1 hs).1
    have := h3 s.key (List.mem_map.2 ⟨s, hs', rfl⟩) ss[k].key (List.mem_cons_self ..)
    exact fun e => this (of_decide_eq_true e)
  rw [this, List.find?_cons_of_pos (by simp [SM.ent])]
  rfl
theorem nmOne (w : World) (x : Nm) : Src (w.alloc (.cells #[.int .u8 x.1, .int .u64 x.2] 174)) (some ⟨w.heap.size, 0, none⟩) 1 2 (nmC x) := by
  refine ⟨rfl, ?_, ?_⟩
  · exact rd_row (heap_alloc_new w _)
  · intro u hu
    simp [nmC] at hu
    rcases hu with rfl | rfl <;> rfl
theorem Ob.two {w : World} {p : Nat} {T : TypeId} {a b : Value} (h : Ob w p T #[a, b]) : w.cell? ⟨p, 0, none⟩ = some a ∧ w.cell? ⟨p, 1, none⟩ = some b ∧ w.frozen? ⟨p, 0, none⟩ = false ∧ w.frozen? ⟨p, 1, none⟩ = false :=
  ⟨by rw [h.cell 0]; rfl, by rw [h.cell 1]; rfl, h.free 0, h.free 1⟩
/-- the closure's answers, wherever drop asks them -/
def Asks (fn : Nat) (cap : Value) (q : Nm → Bool) (w : World) (bm : Nat) (ss : List SM) : Prop :=
  ∀ (k : Nat) (hk : k < ss.length) (W : World), St (fpB bm) w (Nb w bm) W → Mp W bm nmV (midS q ss k) → Calls Try.prog fn #[nmV ss[k].key, cap] W fun e w' => e = .returned (.bool (q ss[k].key)) ∧ St No W No w'
def DropJ (w : World) (pj bm : Nat) (V : Value) (D : Nat → Prop) (sl ag : Nat) (ss ss' : List SM) (e : Ending) (w' : World) : Prop :=
  e = .returned (.int .i64 ((ss.length : Int) - (ss'.length : Int))) ∧ ∃ V', Jm w' pj bm V' D sl ag ss' ∧ St (fpJ pj bm V D ss) w (fpJ pj bm V' D ss') w'
set_option maxRecDepth 100000 in
set_option maxHeartbeats 2000000 in
theorem jdrop_calls (fn : Nat) (hcf : ∀ (a b : Value) (W : World), (callFunc fn #[a, b]).run Try.prog W = .ok (.enter fn #[a, b]) W) (cap : Value) (q : Nm → Bool) (w : World) (pj bm : Nat) (V : Value) (D : Nat → Prop) (sl ag : Nat) (ss : List SM) (hlen : ss.length ≤ 65536) (h : Jm w pj bm V D sl ag ss) (ha : Asks fn cap q w bm ss) :
    Calls Try.prog 95 #[.pointer (some ⟨pj, 0, none⟩), .func (.func fn) #[] #[cap]] w (DropJ w pj bm V D sl ag ss (keepS q ss)) := by
  have HJ := Lib.hid h
  have HA := Lib.hid ha
  obtain ⟨va, vc, rfl, hv1, hv2, hv3, hv4⟩ := h.ord.form
  have hpl := h.ob.lt
  have hbl := h.mp.lt
  have hpb : pj ≠ bm := by have := h.apart; simp at this; exact this.1.1
  have d3 : w.cell? ⟨pj, 3, none⟩ = some (.slice va ss.length vc) := by rw [h.ob.cell 3]; rfl
  have d2 : w.cell? ⟨pj, 2, none⟩ = some (.map (some bm)) := by rw [h.ob.cell 2]; rfl
  obtain ⟨i, hi, hz, hsz, hby⟩ := info_parts nminfo
  have HI := Lib.hid hi
  have HZ := Lib.hid hz
  have HSZ := Lib.hid hsz
  have HBY := Lib.hid hby
  clear h ha hv1 hv2 hv3 hv4 hi hz hsz hby
  go_enter Try.func95, Try.ntmps95
  go_wp2
  go_loopw [5, 14] (fun x t wr => ∃ (k : Nat) (V' : Value), k ≤ ss.length ∧ t = .int .i64 k ∧ x = V' ∧ Hid (Own wr 174 2 V' (keepS q (ss.take k)).length ((keepS q (ss.take k)).flatMap fun s => nmC s.key)) ∧ Hid (∀ j, fpV V' j → w.heap.size ≤ j) ∧ Hid (Mp wr bm nmV (midS q ss k)) ∧ Hid (St (fpB bm) w (Nb w bm) wr)) (fun _ t _ => ss.length - (intOf t).toNat)
  case atStart =>
    refine ⟨0, _, by omega, rfl, rfl, Lib.hid (Own.nil _ _ _), Lib.hid (fun j hj => by simp [fpV, Value.ownBlock] at hj), Lib.hid ?_, Lib.hid ⟨rfl, rfl, rfl, Nat.le_refl _, fun _ _ _ => rfl, fun _ h => h⟩⟩
    simpa [midS, keepS] using HJ.out.mp
  case round =>
    clear d2 d3
    obtain ⟨k, V', hk, rfl, rfl, HO, HV, HM, HS⟩ := hrel
    have hob := HJ.out.ob.move (HS.out.block pj hpl hpb)
    by_cases hlt : k < ss.length
    · obtain ⟨s, hs⟩ : ∃ s, ss[k] = s := ⟨_, rfl⟩
      have hsn : keepS q (ss.take (k + 1)) = keepS q (ss.take k) ++ (if q s.key then [] else [s]) := by
        rw [List.take_succ_eq_append_getElem hlt, keepS_snoc, hs]
      have HSN := Lib.hid hsn
      have hmk := midS_keys HJ.out.mp.nodup (q := q) k hlt
      rw [hs] at hmk
      have HMK := Lib.hid hmk
      have hkl := keepS_len q (ss.take k)
      rw [List.length_take] at hkl
      have hown := HJ.out.ord.st HS.out (fun j hj hf => HJ.out.notV bm (by simp) (by have e : j = bm := hj; rw [← e]; exact hf))
      rw [← List.flatMap_map] at hown
      obtain ⟨y, rfl⟩ := rowL_some (rs := ss.map (·.key)) nmC_len (by decide) hown k (by simpa using hlt)
      have hel := fun j v => rowL_elem nmC_len hown k s.key (by simp [hlt, hs]) j v
      have hac := HA.out k hlt
      rw [hs] at hac
      have HAC := Lib.hid hac
      have d2 : wr.cell? ⟨pj, 2, none⟩ = some (.map (some bm)) := by rw [hob.cell 2]; rfl
      clear hsn hmk hown hac hob hs
      obtain ⟨⟨x1, x2⟩, sp, sg, stt, sgt, sag, sps⟩ := s
      have c0 : wr.cell? (y.add (k * 2)) = some (.int .u8 x1) := hel 0 _ (by decide) rfl
      have c1 : wr.cell? ⟨(y.add (k * 2)).block, (y.add (k * 2)).off + 1, none⟩ = some (.int .u64 x2) := hel 1 _ (by decide) rfl
      clear hel
      go_wp2_with fail
      have HSA := Lib.hid (HS.out.nb (St.alloc' No wr (.cells #[.int .u8 x1, .int .u64 x2] 174)) (fun _ h => h.elim))
      refine (HAC.out _ HSA.out (HM.out.st (St.alloc' No wr _) (fun h => h))).mono ?_
      rintro e w2 ⟨rfl, hs2⟩
      have hT : Ob w2 wr.heap.size 174 #[.int .u8 x1, .int .u64 x2] := (hs2.block _ (by simp) (fun h => h)).trans (heap_alloc_new wr _)
      obtain ⟨t0, t1, _, _⟩ := hT.two
      have hw2 := (St.alloc' No wr (.cells #[.int .u8 x1, .int .u64 x2] 174)).trans hs2
      have d2' : w2.cell? ⟨pj, 2, none⟩ = some (.map (some bm)) := by
        rw [((HJ.out.ob.move (HS.out.block pj hpl hpb)).move (hw2.block pj (Nat.lt_of_lt_of_le hpl HS.out.size) (fun h => h))).cell 2]; rfl
      have HW2 := Lib.hid hw2
      have HM2 := Lib.hid (HM.out.st hw2 (fun h => h))
      have HS2 := Lib.hid (HS.out.nb hw2 (fun _ h => h.elim))
      clear hs2 hT hw2 d2
      cases hqk : q (x1, x2) with
      | true =>
        have HE : Hid (keepS q (ss.take (k + 1)) = keepS q (ss.take k)) := Lib.hid (by rw [HSN.out, hqk]; simp)
        have HE2 : Hid (midS q ss (k + 1) = (midS q ss k).filter (fun p => decide (p.1 ≠ (x1, x2)))) := Lib.hid (by rw [HMK.out, hqk]; rfl)
        clear hqk
        go_wp2_with fail
        go_region_law (refine step_del (key := nmV) rfl (.tmp 24) (.tmp 25) 161 175 rfl nmKey Try.underlying161 bm (midS q ss k) (x1, x2) rfl rfl (HM2.out.move rfl) ?_; intro w3 hm3 hs3 hz3; have HM3 := Lib.hid hm3; have HS3 := Lib.hid hs3; clear hm3 hs3 hz3)
        all_goals go_wp2
        all_goals refine ⟨⟨k + 1, _, by omega, by simp, rfl, Lib.hid ?_, HV, Lib.hid ?_, Lib.hid ?_⟩, by simp [intOf]; omega⟩
        all_goals first
          | (rw [HE.out]
             have h3 := HS3.out
             have ho2 := HO.out.st HW2.out (Dj.no _)
             refine Own.st (h := ?_) h3 (fun j hj hf => ?_)
             · exact ho2.move (fun _ _ => rfl)
             · have e : j = bm := hj
               rw [e] at hf
               have := HV.out _ hf
               omega)
          | (rw [HE2.out]; exact HM3.out)
          | (have h3 := HS3.out
             refine St.nb (h := ?_) h3 (fun j hj => .inl hj)
             exact ⟨HS2.out.os, HS2.out.tape, HS2.out.output, HS2.out.size, HS2.out.block, HS2.out.new⟩)
      | false =>
        have HE : Hid (keepS q (ss.take (k + 1)) = keepS q (ss.take k) ++ [⟨(x1, x2), sp, sg, stt, sgt, sag, sps⟩]) := Lib.hid (by rw [HSN.out, hqk]; simp)
        have HE2 : Hid (midS q ss (k + 1) = midS q ss k) := Lib.hid (by rw [HMK.out, hqk]; rfl)
        clear hqk
        go_wp2_with (at_builtin; refine wpList_app rfl (.tmp 26) (.tmp 28) 162 rfl 174 i _ 2 16 Try.underlying162 HI.out HZ.out HSZ.out HBY.out rfl (by decide) _ _ _ rfl ((HO.out.st HW2.out (Dj.no _)).st (St.alloc' No w2 _) (Dj.no _)) (some ⟨w2.heap.size, 0, none⟩) 1 1 (nmC (x1, x2)) rfl (nmOne w2 (x1, x2)) (fun h => by cases h) (by unfold maxLen; omega) (by omega) ?_; intro v4 w4 ho4 hs4 hn4; have HO4 := Lib.hid ho4; have HS4 := Lib.hid hs4; clear ho4 hs4 hn4)
        refine ⟨⟨k + 1, v4, by omega, by simp, rfl, Lib.hid ?_, Lib.hid ?_, Lib.hid ?_, Lib.hid ?_⟩, by simp [intOf]; omega⟩
        · rw [HE.out, List.length_append, List.flatMap_append]
          simpa using HO4.out
        · intro j hj
          rcases HS4.out.new j hj with h | h
          · exact HV.out j h
          · have := HW2.out.size; have := HS.out.size; simp at h; omega
        · rw [HE2.out]
          exact (HM2.out.st (St.alloc' No w2 _) (fun h => h)).st HS4.out (fun h => by have := HV.out _ h; omega)
        · exact (HS2.out.nb (St.alloc' No w2 _) (fun _ h => h.elim)).nb HS4.out (fun j hj => .inr (HV.out j hj))
    · obtain rfl : k = ss.length := by omega
      have e3 : wr.cell? ⟨pj, 3, none⟩ = some (.slice va ss.length vc) := by rw [hob.cell 3]; rfl
      have g3 := hob.free 3
      have HTK : Hid (ss.take ss.length = ss) := Lib.hid List.take_length
      rw [HTK.out] at HO
      obtain ⟨L, hL⟩ : ∃ L, keepS q ss = L := ⟨_, rfl⟩
      rw [hL] at HO ⊢
      have hLl : L.length ≤ ss.length := by rw [← hL]; exact keepS_len q ss
      have HLL := Lib.hid hL
      obtain ⟨na, nc, rfl, _, _, _, _⟩ := HO.out.form
      have HOB2 := Lib.hid hob
      clear hob hL
      go_wp2
      go_ret
      have hme : midS q ss ss.length = L.map SM.ent := by
        unfold midS
        rw [HTK.out, HLL.out]
        simp
      rw [hme] at HM
      have hj := HJ.out
      have hbn : ∀ x ∈ pj :: bm :: blkS L, x ∈ pj :: bm :: blkS ss := by
        intro x hx
        rw [← HLL.out] at hx
        exact (((blkS_sub q ss).cons_cons bm).cons_cons pj).subset hx
      have hin := hj.in
      have st := fun u => (St.setCell (F := fpB pj) wr ⟨pj, 3, none⟩ u rfl)
      have hsl : ∀ s ∈ L, s ∈ ss := fun s hs => by rw [← HLL.out] at hs; exact (List.mem_filter.1 hs).1
      have hbs : ∀ s ∈ ss, pj ≠ s.p ∧ pj ≠ s.g ∧ bm ≠ s.p ∧ bm ≠ s.g := by
        intro s hs
        have h1 := hj.apart
        have h2 := blkS_mem hs
        simp only [List.nodup_cons, List.mem_cons, not_or] at h1
        exact ⟨fun e => h1.1.2 (e ▸ h2.1), fun e => h1.1.2 (e ▸ h2.2), fun e => h1.2.1 (e ▸ h2.1), fun e => h1.2.1 (e ▸ h2.2)⟩
      unfold DropJ
      rw [HLL.out]
      refine ⟨rfl, .slice na L.length nc, ⟨HOB2.out.set 3 _, HM.out.st (st _) (fun e => hpb e.symm), HO.out.st (st _) ?_, ?_, (hj.inD.st HS.out).st (st _), ?_, ?_, fun x hx => hj.notD x (hbn x hx), ?_⟩, ?_⟩
      · intro k hk hf
        obtain rfl : k = pj := hk
        have := HV.out _ hf; omega
      · intro s hs
        have hb := hbs s (hsl s hs)
        refine ((hj.slots s (hsl s hs)).st HS.out (fun e => hb.2.2.1 e.symm) (fun e => hb.2.2.2 e.symm) (fun k hk hd => ?_)).st (st _) (fun e => hb.1 e.symm) (fun e => hb.2.1 e.symm) (fun k hk hd => ?_)
        · obtain rfl : k = bm := hk
          exact hj.notD _ (by simp) hd
        · obtain rfl : k = pj := hk
          exact hj.notD _ (by simp) hd
      · rw [← HLL.out]
        exact hj.apart.sublist (((blkS_sub q ss).cons_cons bm).cons_cons pj)
      · intro x hx hf
        have := HV.out _ hf
        have := hin x (.inl (hbn x hx))
        omega
      · intro x hx hd
        have := HV.out _ hx
        have := hj.inD x hd
        omega
      · have hs := HS.out
        have ht := st (.slice na L.length nc)
        refine ⟨ht.os.trans hs.os, ht.tape.trans hs.tape, ht.output.trans hs.output, Nat.le_trans hs.size ht.size, fun x hx hn => ?_, fun x hx => ?_⟩
        · rw [ht.block x (Nat.lt_of_lt_of_le hx hs.size) (fun e => hn (.inl (by have e' : x = pj := e; simp [e'])))]
          exact hs.block x hx (fun e => hn (.inl (by have e' : x = bm := e; simp [e'])))
        · rcases hx with hx | hx | hx
          · exact .inl (.inl (hbn x hx))
          · exact .inr (HV.out x hx)
          · exact .inl (.inr (.inr hx))
end Go.Proofs.Ytoeafacamapofaa
namespace Go.Proofs.Ytoeafacamapofaa
open Go.RowKit
set_option linter.unusedVariables false
set_option linter.unusedSimpArgs false

set_option maxRecDepth 100000 in
theorem take1_calls (y1 y2 x1 x2 : Int) (W : World) (cb : Nat) (h : Ob W cb 174 #[.int .u8 x1, .int .u64 x2]) :
    Calls Try.prog 96 #[nmV (y1, y2), .pointer (some ⟨cb, 0, none⟩)] W fun e w' => e = .returned (.bool (decide ((y1, y2) = (x1, x2)))) ∧ St No W No w' := by
  have hl := h.lt
  have q1 : cb ≠ W.heap.size := by omega
  obtain ⟨c0, c1, _, _⟩ := h.two
  have he := fun w => nmKey.eq (y1, y2) (x1, x2) w
  simp only [nmV, key2] at he ⊢
  clear h
  go_enter Try.func96, Try.ntmps96
  go_wp2
  all_goals go_ret
  all_goals refine ⟨?_, St.alloc' No W _⟩
  all_goals first
    | rfl
    | (simp; done)
    | (simp_all; done)
    | (simp; assumption)
    | skip
set_option maxRecDepth 100000 in
theorem begin1_calls (y1 y2 x1 x2 : Int) (W : World) (cb : Nat) (h : Ob W cb 174 #[.int .u8 x1, .int .u64 x2]) :
    Calls Try.prog 124 #[nmV (y1, y2), .pointer (some ⟨cb, 0, none⟩)] W fun e w' => e = .returned (.bool (decide ((y1, y2) = (x1, x2)))) ∧ St No W No w' := by
  have hl := h.lt
  have q1 : cb ≠ W.heap.size := by omega
  obtain ⟨c0, c1, _, _⟩ := h.two
  have he := fun w => nmKey.eq (y1, y2) (x1, x2) w
  simp only [nmV, key2] at he ⊢
  clear h
  go_enter Try.func124, Try.ntmps124
  go_wp2
  all_goals go_ret
  all_goals refine ⟨?_, St.alloc' No W _⟩
  all_goals first
    | rfl
    | (simp; done)
    | (simp_all; done)
    | (simp; assumption)
    | skip
set_option maxRecDepth 100000 in
theorem forget1_calls (y1 y2 x : Int) (W : World) (cb : Nat) (T : TypeId) (h : Ob W cb T #[.int .u8 x]) :
    Calls Try.prog 98 #[nmV (y1, y2), .pointer (some ⟨cb, 0, none⟩)] W fun e w' => e = .returned (.bool (decide (y1 = x))) ∧ St No W No w' := by
  have hl := h.lt
  have q1 : cb ≠ W.heap.size := by omega
  have c0 : W.cell? ⟨cb, 0, none⟩ = some (.int .u8 x) := by rw [h.cell 0]; rfl
  simp only [nmV, key2]
  clear h
  go_enter Try.func98, Try.ntmps98
  go_wp2
  go_ret
  refine ⟨?_, St.alloc' No W _⟩
  first
    | rfl
    | (by_cases e : y1 = x <;> simp [e])
set_option maxRecDepth 100000 in
theorem tick1_calls (y1 y2 : Int) (W : World) (cb pj bm sp ag : Nat) (u0 u3 : Value) (L : List (Nm × Value)) (tt gt age : Int) (pv : Value) (h : Ob W cb 77 #[.pointer (some ⟨pj, 0, none⟩)]) (hj : Ob W pj 164 #[u0, .int .i64 ag, .map (some bm), u3])
    (hm : Mp W bm nmV L) (hf : L.find? (fun p => decide (p.1 = (y1, y2))) = some ((y1, y2), .pointer (some ⟨sp, 0, none⟩))) (hs : Ob W sp 177 #[.int .i64 tt, .int .i64 gt, .int .i64 age, pv]) :
    Calls Try.prog 97 #[nmV (y1, y2), .pointer (some ⟨cb, 0, none⟩)] W fun e w' => e = .returned (.bool (decide ((ag : Int) ≤ age))) ∧ St No W No w' := by
  have hl := h.lt
  have hjl := hj.lt
  have hsl := hs.lt
  have q1 : cb ≠ W.heap.size := by omega
  have q2 : pj ≠ W.heap.size := by omega
  have q3 : sp ≠ W.heap.size := by omega
  have c0 : W.cell? ⟨cb, 0, none⟩ = some (.pointer (some ⟨pj, 0, none⟩)) := by rw [h.cell 0]; rfl
  have d1 : W.cell? ⟨pj, 1, none⟩ = some (.int .i64 ag) := by rw [hj.cell 1]; rfl
  have d2 : W.cell? ⟨pj, 2, none⟩ = some (.map (some bm)) := by rw [hj.cell 2]; rfl
  have s2 : W.cell? ⟨sp, 2, none⟩ = some (.int .i64 age) := by rw [hs.cell 2]; rfl
  have hlk : ∀ n, (Instr.lookup 161 (.map (some bm)) (.agg #[.int .u8 y1, .int .u64 y2]) false).run Try.prog ((W.alloc (.cells #[.int .u8 y1, .int .u64 y2] 174)).drewN n) = .ok (.pointer (some ⟨sp, 0, none⟩)) ((W.alloc (.cells #[.int .u8 y1, .int .u64 y2] 174)).drewN n) := by
    intro n
    have hm' := (hm.st (St.alloc' No W (.cells #[.int .u8 y1, .int .u64 y2] 174)) (fun h => h)).st (St.drewN No _ n) (fun h => h)
    have := hm'.lookup nmKey Try.underlying161 (nmZero _) (y1, y2)
    rw [hf] at this
    exact this
  simp only [nmV, key2]
  clear h hj hs hm hf
  go_enter Try.func97, Try.ntmps97
  go_wp2
  go_quiet (fail)
  go_wp2
  go_ret
  exact ⟨by first | rfl | simp, (St.alloc' No W _).trans (St.drewN No _ _)⟩
/-- Take's and begin's closures: this name -/
theorem asks_take (w : World) (bm : Nat) (ss : List SM) (cb : Nat) (hne : cb ≠ bm) (x : Nm) (h : Ob w cb 174 #[.int .u8 x.1, .int .u64 x.2]) :
    Asks 96 (.pointer (some ⟨cb, 0, none⟩)) (fun y => decide (y = x)) w bm ss := fun k hk W st mp =>
  take1_calls ss[k].key.1 ss[k].key.2 x.1 x.2 W cb (h.move (st.block cb h.lt hne))
theorem asks_begin (w : World) (bm : Nat) (ss : List SM) (cb : Nat) (hne : cb ≠ bm) (x : Nm) (h : Ob w cb 174 #[.int .u8 x.1, .int .u64 x.2]) :
    Asks 124 (.pointer (some ⟨cb, 0, none⟩)) (fun y => decide (y = x)) w bm ss := fun k hk W st mp =>
  begin1_calls ss[k].key.1 ss[k].key.2 x.1 x.2 W cb (h.move (st.block cb h.lt hne))
theorem asks_forget (w : World) (bm : Nat) (ss : List SM) (cb : Nat) (hne : cb ≠ bm) (T : TypeId) (x : Int) (h : Ob w cb T #[.int .u8 x]) :
    Asks 98 (.pointer (some ⟨cb, 0, none⟩)) (fun y => decide (y.1 = x)) w bm ss := fun k hk W st mp =>
  forget1_calls ss[k].key.1 ss[k].key.2 x W cb T (h.move (st.block cb h.lt hne))
/-- a slot by its place -/
theorem getS_at {ss : List SM} (hn : (ss.map (·.key)).Nodup) (k : Nat) (hk : k < ss.length) : getS ss[k].key ss = some ss[k] := by
  unfold getS
  rw [List.find?_eq_some_iff_getElem]
  refine ⟨by simp, k, hk, rfl, fun j hj => ?_⟩
  simp only [Bool.not_eq_true', decide_eq_false_iff_not]
  intro e
  have h1 := List.getElem?_inj (i := j) (j := k) (l := ss.map (·.key)) (by simp; omega) hn
  have : j = k := h1.1 (by simp [hk, Nat.lt_trans hj hk, e])
  omega
def oldS (ag : Nat) (ss : List SM) (y : Nm) : Bool := match getS y ss with | some s => decide ((ag : Int) ≤ s.age) | none => false
theorem Jm.keys {w : World} {pj bm : Nat} {V : Value} {D : Nat → Prop} {sl ag : Nat} {ss : List SM} (h : Jm w pj bm V D sl ag ss) : (ss.map (·.key)).Nodup := by
  have := h.mp.nodup
  rw [List.map_map] at this
  exact this
theorem asks_tick {w : World} {pj bm : Nat} {V : Value} {D : Nat → Prop} {sl ag : Nat} {ss : List SM} (h : Jm w pj bm V D sl ag ss) (cb : Nat) (hne : cb ≠ bm) (hc : Ob w cb 77 #[.pointer (some ⟨pj, 0, none⟩)]) :
    Asks 97 (.pointer (some ⟨cb, 0, none⟩)) (oldS ag ss) w bm ss := fun k hk W st mp => by
  have hpb : pj ≠ bm := by have := h.apart; simp at this; exact this.1.1
  have hsm := List.getElem_mem hk
  have hsb : ss[k].p ≠ bm := fun e => by
    have h1 := h.apart
    simp only [List.nodup_cons, List.mem_cons, not_or] at h1
    exact h1.2.1 (e ▸ (blkS_mem hsm).1)
  have hf := midS_find h.mp.nodup (q := oldS ag ss) k hk
  have := tick1_calls ss[k].key.1 ss[k].key.2 W cb pj bm ss[k].p ag _ _ _ _ _ _ _ (hc.move (st.block cb hc.lt hne)) (h.ob.move (st.block pj h.ob.lt hpb)) mp hf ((h.slots _ hsm).ob.move (st.block _ (h.slots _ hsm).ob.lt hsb))
  have e : oldS ag ss ss[k].key = decide ((ag : Int) ≤ ss[k].age) := by unfold oldS; rw [getS_at h.keys k hk]
  rw [e]
  exact this
end Go.Proofs.Ytoeafacamapofaa
namespace Go.Proofs.Ytoeafacamapofaa
open Go.RowKit
set_option linter.unusedVariables false
set_option linter.unusedSimpArgs false

/-- a step of a region: a map's new entry -/
theorem step_upd {α : Type} [DecidableEq α] {P : Program} {kt : TypeId} {key : α → Value} {ops : Array Oper} {o : Oper} {ac : Act} {w : World} {K : Act → World → Prop} {Q : Exit → Act → World → Prop} {E : Prop} (hgd : o.guard = none) (m x v : Operand) (t e : TypeId)
    (ho : o.op = .mapUpdate t m x v) (KE : KeyEq P kt key) (hinj : ∀ x y, key x = key y → x = y) (ht : P.underlying t = some (.map kt e)) (b : Nat) (L : List (α × Value)) (k : α) (u : Value)
    (hm : ac.eval m = .map (some b)) (hx : ac.eval x = key k) (hv : ac.eval v = u) (h : Mp w b key L) (hk : ∀ p ∈ L, p.1 ≠ k)
    (hK : ∀ w', Mp w' b key (L ++ [(k, u)]) → St (fpB b) w (fpB b) w' → w'.heap.size = w.heap.size → K (ac.put o.dst undef) w') :
    if Region.wanted o (yielded ops ac.tmps) = true then Oper.wp P o ac w K Q else E := by
  have hw : Region.wanted o (yielded ops ac.tmps) = true := by simp [Region.wanted, hgd]
  rw [if_pos hw]
  obtain ⟨w', hr, h1, h2, h3⟩ := h.push KE hinj ht k u hk
  unfold Oper.wp execOp
  simp only [ho, Sem.run_bind, Sem.run_pure, Result.andThen_ok, hm, hx, hv, hr]
  exact hK w' h1 h2 h3
theorem St.thenN {F G H : Nat → Prop} {w a b : World} (h : St No w G a) (k : St F a H b) (hF : ∀ j, F j → w.heap.size ≤ j) : St No w (Nw w) b :=
  ⟨k.os.trans h.os, k.tape.trans h.tape, k.output.trans h.output, Nat.le_trans h.size k.size, fun i hi hn => (k.block i (Nat.lt_of_lt_of_le hi h.size) (fun h' => absurd hi (Nat.not_lt.2 (hF i h')))).trans (h.block i hi hn), fun i hi => .inr hi⟩
def nilRow (n : Nat) : Array Value := (List.replicate n (Value.slice none 0 0)).toArray
theorem make_parts (W : World) (n : Nat) (hn : n ≤ 1048576) : (Instr.makeSlice 41 (.int .i64 (n : Int)) (.int .i64 (n : Int))).run Try.prog W = .ok (.slice (some ⟨W.heap.size, 0, none⟩) n n) (W.alloc (.cells (nilRow n) 25)) := by
  obtain ⟨i, hi, hz, hs, hb⟩ := info_parts slinfo4
  have hr := run_make (P := Try.prog) W 41 25 i (.slice none 0 0) Try.underlying41 hi hz .i64 .i64 n n (by omega) (by omega) (by rw [hb]; omega) (by omega)
  rw [hs] at hr
  simp only [Int.toNat_natCast, Nat.mul_one] at hr
  have hcs : madeCells (Value.slice none 0 0).cells n = nilRow n := by
    apply Array.ext'
    rw [show (Value.slice none 0 0).cells = #[Value.slice none 0 0] from rfl, toList_madeCells_one]
    rfl
  rw [hcs] at hr
  exact hr
/-- a slot just begun -/
def newSM (x : Nm) (p g total count : Nat) : SM := ⟨x, p, g, total, 0, 0, List.replicate count ⟨none, 0, []⟩⟩
theorem blkS_snoc (ss : List SM) (s : SM) : blkS (ss ++ [s]) = blkS ss ++ [s.p, s.g] := by simp [blkS]
theorem begin_end {wd w5 w6 w6' w7 : World} {pj bm : Nat} {V : Value} {D : Nat → Prop} {sl ag : Nat} {ss : List SM} (h : Jm wd pj bm V D sl ag ss) {x : Nm} (hx : 0 ≤ x.1 ∧ x.1 < 255) {p g total count : Nat} (ht : total ≤ 4096) (hc : count ≤ 128)
    (s5 : St No wd (Nw wd) w5) (og : Ob w5 g 25 (List.replicate count (Value.slice none 0 0)).toArray) (op : Ob w5 p 177 #[.int .i64 total, .int .i64 0, .int .i64 0, .slice (some ⟨g, 0, none⟩) count count])
    (hg : wd.heap.size ≤ g) (hp : wd.heap.size ≤ p) (hgp : p ≠ g)
    (m6 : Mp w6 bm nmV (ss.map SM.ent ++ [(x, .pointer (some ⟨p, 0, none⟩))])) (s6 : St (fpB bm) w5 (fpB bm) w6) (s6' : St No w6 (Nw w6) w6')
    {V' : Value} (o7 : Own w7 174 2 V' (ss.length + 1) ((ss.flatMap fun s => nmC s.key) ++ nmC x)) (s7 : St (fpV V) w6' (fpV V') w7) :
    Jm (w7.setCell ⟨pj, 3, none⟩ V') pj bm V' D sl ag (ss ++ [newSM x p g total count]) ∧ St (fpJ pj bm V D ss) wd (fpJ pj bm V' D (ss ++ [newSM x p g total count])) (w7.setCell ⟨pj, 3, none⟩ V') := by
  have hin := h.in
  have hpj : pj < wd.heap.size := h.ob.lt
  have hbm : bm < wd.heap.size := h.mp.lt
  have hpb : pj ≠ bm := by have := h.apart; simp at this; exact this.1.1
  have hVn : ∀ k, fpV V' k → fpV V k ∨ wd.heap.size ≤ k := fun k hk => (s7.new k hk).imp id (fun hl => Nat.le_trans s5.size (Nat.le_trans s6.size (Nat.le_trans s6'.size hl)))
  -- the whole step ahead of the last store
  have st : St (fun k => k = bm ∨ fpV V k) wd (Nw wd) w7 := by
    refine ⟨?_, ?_, ?_, Nat.le_trans s5.size (Nat.le_trans s6.size (Nat.le_trans s6'.size s7.size)), fun k hk hn => ?_, fun k hk => .inr hk⟩
    · rw [s7.os, s6'.os, s6.os, s5.os]
    · rw [s7.tape, s6'.tape, s6.tape, s5.tape]
    · rw [s7.output, s6'.output, s6.output, s5.output]
    · have k5 := Nat.lt_of_lt_of_le hk s5.size
      have k6 := Nat.lt_of_lt_of_le k5 s6.size
      have k6' := Nat.lt_of_lt_of_le k6 s6'.size
      rw [s7.block k k6' (fun e => hn (.inr e)), s6'.block k k6 (fun e => e), s6.block k k5 (fun e => hn (.inl e)), s5.block k hk (fun e => e)]
  have stc : St (fpB pj) w7 (fpB pj) (w7.setCell ⟨pj, 3, none⟩ V') := St.setCell w7 ⟨pj, 3, none⟩ V' rfl
  have hbs : ∀ s ∈ ss, pj ≠ s.p ∧ pj ≠ s.g ∧ bm ≠ s.p ∧ bm ≠ s.g := by
    intro s hs
    have h1 := h.apart
    have h2 := blkS_mem hs
    simp only [List.nodup_cons, List.mem_cons, not_or] at h1
    exact ⟨fun e => h1.1.2 (e ▸ h2.1), fun e => h1.1.2 (e ▸ h2.2), fun e => h1.2.1 (e ▸ h2.1), fun e => h1.2.1 (e ▸ h2.2)⟩
  have hnv : ∀ k ∈ pj :: bm :: blkS ss, ¬ (k = bm ∨ fpV V k) ∨ k = bm := fun k hk => by
    by_cases e : k = bm
    · exact .inr e
    · exact .inl (fun h' => h'.elim e (h.notV k hk))
  have hold : ∀ s ∈ ss, SMOk (w7.setCell ⟨pj, 3, none⟩ V') D s := by
    intro s hs
    have hb := hbs s hs
    have h2 := blkS_mem hs
    refine ((h.slots s hs).st st (fun e => ?_) (fun e => ?_) (fun k hk hd => ?_)).st stc (fun e => hb.1 e.symm) (fun e => hb.2.1 e.symm) (fun k hk hd => ?_)
    · rcases e with e | e
      · exact hb.2.2.1 e.symm
      · exact h.notV s.p (by simp [h2.1]) e
    · rcases e with e | e
      · exact hb.2.2.2 e.symm
      · exact h.notV s.g (by simp [h2.2]) e
    · rcases hk with rfl | hk
      · exact h.notD k (by simp) hd
      · exact h.vD k hk hd
    · obtain rfl : k = pj := hk
      exact h.notD k (by simp) hd
  have hlp := op.lt
  have hlg := og.lt
  have hpV : ∀ k, (k = p ∨ k = g) → ¬ fpV V' k := by
    intro k hk hf
    rcases s7.new k hf with h1 | h1
    · have := h.ord.in k h1
      rcases hk with rfl | rfl <;> omega
    · have := s6.size; have := s6'.size
      rcases hk with rfl | rfl <;> omega
  have new6 : ∀ k, (k = p ∨ k = g) → (w7.setCell ⟨pj, 3, none⟩ V').heap[k]? = w5.heap[k]? := by
    intro k hk
    have k0 : wd.heap.size ≤ k := by rcases hk with rfl | rfl <;> assumption
    have k5 : k < w5.heap.size := by rcases hk with rfl | rfl <;> assumption
    have k6 := Nat.lt_of_lt_of_le k5 s6.size
    have k6' := Nat.lt_of_lt_of_le k6 s6'.size
    have nV : ¬ fpV V k := fun e => by have := h.ord.in k e; omega
    rw [stc.block k (Nat.lt_of_lt_of_le k6' s7.size) (fun e => by have e' : k = pj := e; omega), s7.block k k6' nV, s6'.block k k6 (fun e => e), s6.block k k5 (fun e => by have e' : k = bm := e; omega)]
  refine ⟨⟨?_, ?_, ?_, ?_, ?_, ?_, ?_, ?_, ?_⟩, ?_⟩
  · exact (h.ob.move (st.block pj hpj (fun e => e.elim hpb (h.notV pj (by simp))))).set 3 _
  · rw [List.map_append]
    exact ((m6.st s6' (fun e => e)).st s7 (h.notV bm (by simp))).st stc (fun e => hpb e.symm)
  · rw [List.length_append, List.flatMap_append]
    refine Own.st (h := ?_) stc (fun k hk hf => ?_)
    · simpa [newSM] using o7
    · obtain rfl : k = pj := hk
      rcases hVn k hf with h1 | h1
      · exact h.notV k (by simp) h1
      · omega
  · intro s hs
    rcases List.mem_append.1 hs with hs | hs
    · exact hold s hs
    · have e := List.mem_singleton.1 hs
      subst e
      refine ⟨?_, ?_, ?_, ht, by simpa [newSM] using hc, (by simp [newSM]), by simp [newSM], hx⟩
      · refine Ob.move (w := w5) ?_ (new6 p (.inl rfl))
        simpa [newSM, SM.cells] using op
      · refine Ob.move (w := w5) ?_ (new6 g (.inr rfl))
        simpa [newSM, PR.val] using og
      · intro r hr
        simp only [newSM, List.mem_replicate] at hr
        obtain ⟨_, rfl⟩ := hr
        exact ⟨Rd.nil _ _, fun k hk => (by obtain ⟨x, e, _⟩ := hk; cases e), by simp, fun _ => rfl, by simp, (by unfold maxLen; simp), by simp⟩
  · intro k hk
    exact Nat.lt_of_lt_of_le (h.inD k hk) (Nat.le_trans st.size stc.size)
  · rw [blkS_snoc]
    have h1 := h.apart
    have : (pj :: bm :: (blkS ss ++ [p, g])) = (pj :: bm :: blkS ss) ++ [p, g] := rfl
    show (pj :: bm :: (blkS ss ++ [p, g])).Nodup
    rw [this, List.nodup_append]
    refine ⟨h1, by simp [hgp], fun a ha b hb => ?_⟩
    have := hin a (.inl ha)
    simp at hb
    rcases hb with rfl | rfl <;> omega
  · intro k hk hf
    rw [blkS_snoc] at hk
    have hk' : k ∈ (pj :: bm :: blkS ss) ++ [p, g] := hk
    rcases List.mem_append.1 hk' with hk' | hk'
    · rcases hVn k hf with h1 | h1
      · exact h.notV k hk' h1
      · have := hin k (.inl hk'); omega
    · simp at hk'
      exact hpV k hk' hf
  · intro k hk hd
    rw [blkS_snoc] at hk
    have hk' : k ∈ (pj :: bm :: blkS ss) ++ [p, g] := hk
    rcases List.mem_append.1 hk' with hk' | hk'
    · exact h.notD k hk' hd
    · have := h.inD k hd
      simp at hk'
      rcases hk' with rfl | rfl <;> omega
  · intro k hk hd
    rcases hVn k hk with h1 | h1
    · exact h.vD k h1 hd
    · have := h.inD k hd; omega
  · refine ⟨?_, ?_, ?_, Nat.le_trans st.size stc.size, fun k hk hn => ?_, fun k hk => ?_⟩
    · rw [stc.os, st.os]
    · rw [stc.tape, st.tape]
    · rw [stc.output, st.output]
    · rw [stc.block k (Nat.lt_of_lt_of_le hk st.size) (fun e => hn (.inl (by have e' : k = pj := e; simp [e']))), st.block k hk (fun e => hn (e.elim (fun e => .inl (by simp [e])) (fun e => .inr (.inl e))))]
    · rcases hk with hk | hk | hk
      · rw [blkS_snoc] at hk
        have hk' : k ∈ (pj :: bm :: blkS ss) ++ [p, g] := hk
        rcases List.mem_append.1 hk' with hk' | hk'
        · exact .inl (.inl hk')
        · simp at hk'
          rcases hk' with rfl | rfl
          · exact .inr hp
          · exact .inr hg
      · exact (hVn k hk).imp (fun h => .inr (.inl h)) id
      · exact .inl (.inr (.inr hk))
end Go.Proofs.Ytoeafacamapofaa
