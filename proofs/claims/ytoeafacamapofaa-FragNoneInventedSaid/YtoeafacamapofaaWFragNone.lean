
/-
  FragNoneInvented, walked: it returns true.
-/
import Derived.Test.YtoeafacamapofaaJnInv
import Derived.Test.YtoeafacamapofaaJnNew
import Derived.Test.YtoeafacamapofaaJnTn
import Derived.Test.YtoeafacamapofaaJnTake
import Derived.Test.YtoeafacamapofaaRowLists
namespace Go.Proofs.Ytoeafacamapofaa
open Go.RowKit
set_option linter.unusedVariables false
set_option linter.unusedSimpArgs false

theorem alinfo : (Try.prog.info? 41).map (fun i => (i.zero, i.size, i.bytes)) = some (some (.slice none 0 0), 1, 24) := by kernel_rfl
theorem prinfo : (Try.prog.info? 101).map (fun i => (i.zero, i.size, i.bytes)) = some (some (.agg #[.int .i64 0, .int .i64 0]), 2, 16) := by kernel_rfl
/-- a list of lists that can be read, its places in D -/
def RdD (w : World) (D : Nat → Prop) (a : Option Addr) (ds : List (List B8)) : Prop :=
  ∀ (i : Nat) (d : List B8), ds[i]? = some d → ∃ x b c, a = some x ∧ D x.block ∧ w.cell? (x.add i) = some (.slice b d.length c) ∧ Bs w b d ∧ ∀ k, fpA b k → D k
theorem RdD.st {w w' : World} {D F F' : Nat → Prop} {a : Option Addr} {ds : List (List B8)} (h : RdD w D a ds) (s : St F w F' w') (hd : Dj F D) : RdD w' D a ds := by
  intro i d hi
  obtain ⟨x, b, c, e1, e2, e3, e4, e5⟩ := h i d hi
  refine ⟨x, b, c, e1, e2, ?_, e4.st s (fun k hf ha => hd k hf (e5 k ha)), e5⟩
  have hl := World.block_lt_of_cell? w _ e3
  rw [World.cell?_of_block (w := w)]
  · exact e3
  · rw [addr_block] at hl ⊢
    exact s.block _ hl (fun hf => hd _ hf e2)
theorem RdD.wide {w : World} {D D' : Nat → Prop} {a : Option Addr} {ds : List (List B8)} (h : RdD w D a ds) (hD : ∀ k, D k → D' k) : RdD w D' a ds := by
  intro i d hi
  obtain ⟨x, b, c, e1, e2, e3, e4, e5⟩ := h i d hi
  exact ⟨x, b, c, e1, hD _ e2, e3, e4, fun k hk => hD k (e5 k hk)⟩
theorem Grams.rdd {w : World} {a : Option Addr} {c : Nat} {vs : List Value} {ds : List (List B8)} (h : Grams w (.slice a ds.length c) vs ds) : RdD w (fpG (.slice a ds.length c) vs) a ds := by
  intro i d hi
  have hil : i < ds.length := (List.getElem?_eq_some_iff.1 hi).1
  obtain ⟨v, hv, hov⟩ := h.get i hil
  have hdd : ds[i] = d := by rw [List.getElem?_eq_getElem hil] at hi; exact Option.some.inj hi
  rw [hdd] at hov
  obtain ⟨b, k, rfl, _, _, hfp, _⟩ := hov.form
  obtain ⟨x, e, hx⟩ := h.own.rd i _ hv
  subst e
  refine ⟨x, b, k, rfl, .inl ?_, hx, hov.bs, fun q hq => fpG.sub hv q ((hfp q).2 hq)⟩
  simp [fpV, Value.ownBlock]
structure Alls (w : World) (D : Nat → Prop) (Ps : List (List B8)) (mtu : Int) (i : Nat) (Vs : List Value) : Prop where
  len : Vs.length = i
  each : ∀ (j : Nat) (P : List B8), j < i → Ps[j]? = some P → ∃ a c, Vs[j]? = some (.slice a (splitB P (idN j) mtu).length c) ∧ RdD w D a (splitB P (idN j) mtu)
theorem Alls.st {w w' : World} {D F F' : Nat → Prop} {Ps : List (List B8)} {mtu : Int} {i : Nat} {Vs : List Value} (h : Alls w D Ps mtu i Vs) (s : St F w F' w') (hd : Dj F D) : Alls w' D Ps mtu i Vs :=
  ⟨h.len, fun j P hj hP => by
    obtain ⟨a, c, h1, h2⟩ := h.each j P hj hP
    exact ⟨a, c, h1, h2.st s hd⟩⟩
theorem Alls.snoc {w : World} {D D' : Nat → Prop} {Ps : List (List B8)} {mtu : Int} {i : Nat} {Vs : List Value} {a : Option Addr} {c : Nat} {P : List B8} (h : Alls w D Ps mtu i Vs) (hP : Ps[i]? = some P) (hr : RdD w D' a (splitB P (idN i) mtu)) : Alls w (fun k => D k ∨ D' k) Ps mtu (i + 1) (Vs ++ [.slice a (splitB P (idN i) mtu).length c]) := by
  refine ⟨by simp [h.len], fun j Q hj hQ => ?_⟩
  by_cases e : j = i
  · subst e
    obtain rfl : P = Q := by rw [hP] at hQ; exact Option.some.inj hQ
    exact ⟨a, c, by rw [List.getElem?_append_right (by rw [h.len]; exact Nat.le_refl _), h.len, Nat.sub_self]; rfl, hr.wide (fun k hk => .inr hk)⟩
  · obtain ⟨a', c', h1, h2⟩ := h.each j Q (by omega) hQ
    exact ⟨a', c', by rw [List.getElem?_append_left (by rw [h.len]; omega)]; exact h1, h2.wide (fun k hk => .inl hk)⟩
/-- how the places lie -/
structure Zone (w wr : World) (F D : Nat → Prop) (V : Value) : Prop where
  lo : Lo w.heap.size F
  dIn : In D wr
  dF : Dj F D
  vF : Dj F (fpV V)
  vLo : Lo w.heap.size (fpV V)
  vD : Dj (fpV V) D
theorem none_end {w wr w3 wq w4 : World} {F1 F' D D3 : Nat → Prop} {V v4 : Value} {Ps : List (List B8)} {mtu : Int} {i pj : Nat} {Vs : List Value} {a3 : Option Addr} {c3 : Nat} {P : List B8} {o : Obj}
    (HAL : Alls wr D Ps mtu i Vs) (HZN : Zone w wr F1 D V) (HS : St No w (Nw w) wr) (hP : Ps[i]? = some P) (hvin : In (fpV V) wr) (hfin : In F1 wr) (HS3 : St No wr No w3) (hr : RdD w3 D3 a3 (splitB P (idN i) mtu)) (hD3 : ∀ q, D3 q → wr.heap.size ≤ q ∧ q < w3.heap.size)
    (HT : St F1 w3 F' wq) (HJq : Jn wq F' pj 3 4 []) (hs4 : St (fpV V) (wq.alloc o) (fpV v4) w4) :
    Alls w4 (fun k => D k ∨ D3 k) Ps mtu (i + 1) (Vs ++ [.slice a3 (splitB P (idN i) mtu).length c3]) ∧ Jn w4 F' pj 3 4 [] ∧ Zone w w4 F' (fun k => D k ∨ D3 k) v4 ∧ St No w (Nw w) w4 := by
  have z0 := HS.size
  have z3 := HS3.size
  have zq := HT.size
  have z4 := hs4.size
  rw [World.size_alloc] at z4
  have hDr : ∀ q, D q → q < wr.heap.size := fun q hq => HZN.dIn q hq
  have hdF : Dj F1 (fun k => D k ∨ D3 k) := fun q hf hd => hd.elim (HZN.dF q hf) (fun h => by have := hfin q hf; have := hD3 q h; omega)
  have hdV : Dj (fpV V) (fun k => D k ∨ D3 k) := fun q hf hd => hd.elim (HZN.vD q hf) (fun h => by have := hvin q hf; have := hD3 q h; omega)
  have hdin : ∀ q, (D q ∨ D3 q) → q < w3.heap.size := fun q hq => hq.elim (fun h => by have := hDr q h; omega) (fun h => (hD3 q h).2)
  have hFn : ∀ q, F' q → F1 q ∨ w3.heap.size ≤ q := fun q hq => HT.new q hq
  have hVn : ∀ q, fpV v4 q → fpV V q ∨ wq.heap.size < q + 1 ∧ wq.heap.size + 1 ≤ q := fun q hq => (hs4.new q hq).imp (fun h => h) (fun h => by rw [World.size_alloc] at h; omega)
  have hFin := HJq.in
  refine ⟨((((HAL.st HS3 (Dj.no _)).snoc hP hr).st HT hdF).st (St.alloc' No wq o) (Dj.no _)).st hs4 hdV, (HJq.st (St.alloc' No wq o) (Dj.no _)).st hs4 (fun q hv hf => ?_), ⟨?_, ?_, ?_, ?_, ?_, ?_⟩, ?_⟩
  · rcases hFn q hf with h | h
    · exact HZN.vF q h hv
    · have := hvin q hv; omega
  · intro q hq
    rcases hFn q hq with h | h
    · exact HZN.lo q h
    · omega
  · intro q hq
    have := hdin q hq
    omega
  · intro q hf hd
    rcases hFn q hf with h | h
    · exact hdF q h hd
    · have := hdin q hd; omega
  · intro q hf hv
    rcases hVn q hv with h | h
    · rcases hFn q hf with h' | h'
      · exact HZN.vF q h' h
      · have := hvin q h; omega
    · have := hFin q hf; omega
  · intro q hv
    rcases hVn q hv with h | h
    · exact HZN.vLo q h
    · omega
  · intro q hv hd
    rcases hVn q hv with h | h
    · exact hdV q h hd
    · have := hdin q hd; omega
  · exact (((HS.then HS3).thenN HT (fun q hq => HZN.lo q hq)).then (new1 wq o)).thenN hs4 (fun q hq => HZN.vLo q hq)
set_option maxRecDepth 100000 in
set_option maxHeartbeats 4000000 in
theorem fragNone_walk (oa : Option Addr) (oc : Nat) (Ps : List (List B8)) (hPs : Ps.length * 24 ≤ 140737488355328) (mtu : Int) (pa : Option Addr) (pc : Nat) (rs : List Pr) (hrs : rs.length ≤ 8796093022208) (w : World) (hL : Lists w oa Ps) (hR : PrsIn w pa rs) :
    Calls Try.prog 13 #[.slice oa Ps.length oc, .int .i64 mtu, .slice pa rs.length pc] w fun e w' => e = .returned (.bool true) ∧ Below w.heap.size w w' := by
  have HL := Lib.hid hL
  have HR := Lib.hid hR
  have hPl : Ps.length ≤ 5864062014805 := by omega
  clear hL hR hPs
  obtain ⟨ti, hti, hz, hsz, hby⟩ := info_parts alinfo
  have HTI := Lib.hid hti
  have HZ := Lib.hid hz
  have HSZ := Lib.hid hsz
  have HBY := Lib.hid hby
  clear hti hz hsz hby
  go_enter Try.func13, Try.ntmps13
  go_wp2_with fail
  refine (new_calls 3 4 w).mono ?_
  rintro e w1 (⟨_, pj, F, rfl, hj1, hs1⟩ | ⟨h, _⟩)
  rotate_left
  · cases h
  have HJ1 := Lib.hid hj1
  have HS1 := Lib.hid hs1
  clear hj1 hs1
  go_wp2_with fail
  go_loopw [7, 10] (fun x t wr => ∃ (i : Nat) (V : Value) (F : Nat → Prop) (Vs : List Value) (D : Nat → Prop), i ≤ Ps.length ∧ t = .int .i64 i ∧ x = V ∧ Hid (Own wr 41 1 V i Vs) ∧ Hid (Alls wr D Ps mtu i Vs) ∧ Hid (Jn wr F pj 3 4 []) ∧ Hid (Zone w wr F D V) ∧ Hid (St No w (Nw w) wr)) (fun _ t _ => Ps.length - (intOf t).toNat)
  case atStart =>
    refine ⟨0, _, F, [], No, by omega, rfl, rfl, Lib.hid (Own.nil _ _ _), Lib.hid ⟨rfl, fun j P hj => by omega⟩, HJ1, Lib.hid ⟨fun q hq => (HS1.out.new q hq).elim (fun h => h.elim) (fun h => h), fun q hq => hq.elim, fun _ _ h => h, ?_, ?_, ?_⟩, Lib.hid HS1.out.toNew⟩
    · intro q _ hq; simp [fpV, Value.ownBlock] at hq
    · intro q hq; simp [fpV, Value.ownBlock] at hq
    · intro q hq; simp [fpV, Value.ownBlock] at hq
  case round =>
    obtain ⟨i, V, F1, Vs, D, hi, rfl, hxv, HO, HAL, HJ, HZN, HS⟩ := hrel
    have hxv' := hxv.symm
    subst hxv'
    clear hxv
    have HST : Hid (St No w No wr) := Lib.hid (HS.out.drop (fun _ h => h.elim))
    by_cases hlt : i < Ps.length
    · have hii : (i : Int) < (Ps.length : Int) := by omega
      obtain ⟨P, hP⟩ : ∃ P, Ps[i]? = some P := ⟨_, List.getElem?_eq_getElem hlt⟩
      obtain ⟨x, pb, pk, rfl, hpc, hpb, hpn, hpl⟩ := HL.out i P hP
      have hcr : wr.cell? (x.add i) = some (.slice pb P.length pk) := HST.out.cellNo' hpc
      have HPC := Lib.hid hpc
      have HPB := Lib.hid hpb
      have HP := Lib.hid hP
      have hidn : ((idN i).toNat : Int) = (i : Int) := by unfold idN; rw [BitVec.toNat_ofNat]; omega
      have HIDN := Lib.hid hidn
      have HFI := Lib.hid (fun W => fits4_calls pb P.length pk hpl mtu W)
      clear hpc hpb hP hidn
      go_wp2_with fail
      refine (clone4_calls pb pk P hpl _ (HPB.out.st HST.out (Dj.no _))).mono ?_
      rintro e w2 ⟨v2, rfl, ho2, hs2⟩
      obtain ⟨a2, c2, rfl, p2, q2, _, r2⟩ := ho2.form
      have HSP := Lib.hid (split_calls a2 c2 P hpl p2 q2 (fun h => (r2 h).2) (idN i) mtu w2 ho2.bs)
      rw [HIDN.out] at HSP
      have HS2 : Hid (St No wr No w2) := Lib.hid (hs2.drop (fun _ h => h.elim))
      clear ho2 hs2 r2
      go_wp2_with fail
      refine HSP.out.mono ?_
      rintro e w3 ⟨V3, vs3, rfl, hg3, hs3⟩
      obtain ⟨a3, c3, rfl⟩ := hg3.form
      have HG3 := Lib.hid hg3
      have HS3 : Hid (St No wr No w3) := Lib.hid (HS2.out.trans (hs3.drop (fun _ h => h.elim)))
      have HN3 : Hid (∀ q, fpG (.slice a3 (splitB P (idN i) mtu).length c3) vs3 q → wr.heap.size ≤ q) := Lib.hid (fun q hq => (hs3.new q hq).elim (fun h => h.elim) (fun h => Nat.le_trans HS2.out.size h))
      have hcr3 : w3.cell? (x.add i) = some (.slice pb P.length pk) := HS3.out.cellNo' hcr
      have HSD := Lib.hid hs3
      clear hg3 hs3 hcr
      have HOQ0 : Hid (Own w3 41 1 V i Vs) := Lib.hid (HO.out.st HS3.out (Dj.no _))
      cases hfit : fitsN P.length mtu with
      | false =>
        have hsE : ¬ splitE P.length mtu = 0 := fun e => by rw [(fits_iff _ _).1 e] at hfit; cases hfit
        have hsEb : (splitE P.length mtu == 0) = false := beq_eq_false_iff_ne.2 hsE
        rw [hfit] at HFI
        have hnil : (splitB P (idN i) mtu).length = 0 := by rw [split_no hfit]; rfl
        have HNIL := Lib.hid hnil
        have HTQ : Hid (St F1 w3 F1 w3) := Lib.hid (St.refl _ _)
        have HJQ : Hid (Jn w3 F1 pj 3 4 []) := Lib.hid (HJ.out.st HS3.out (Dj.no _))
        have HOQ := HOQ0
        rw [hnil]
        clear hsE hfit hnil
        generalize splitE P.length mtu = er at *
        go_wp2_with (go_at_call 45; refine (HFI.out _).mono ?_; rintro e w4 ⟨rfl, rfl⟩)
        go_loopw [14] (fun t wq => t = .int .i64 0 ∧ w3 = wq) (fun _ _ => 0)
        case atStart => exact ⟨rfl, rfl⟩
        case round =>
          obtain ⟨rfl, rfl⟩ := hrel
          go_wp2_with (at_builtin; refine wpList_app rfl (.tmp 104) (.tmp 106) 100 rfl 41 ti _ 1 24 Try.underlying100 HTI.out HZ.out HSZ.out HBY.out rfl (by decide) _ i Vs rfl (HOQ.out.st (St.alloc' No w3 _) (Dj.no _)) (some ⟨w3.heap.size, 0, none⟩) 1 1 [.slice a3 0 c3] rfl ⟨rfl, rd_row (heap_alloc_new w3 _), by simp; rfl⟩ (fun h => by cases h) (by unfold maxLen; omega) (by omega) ?_; intro v4 w4 ho4 hs4 hn4; have HO4 := Lib.hid ho4; have HS4 := Lib.hid hs4; clear ho4 hs4 hn4)
          have hne := none_end (a3 := a3) (c3 := c3) HAL.out HZN.out HS.out HP.out HO.out.in HJ.out.in HS3.out HG3.out.rdd (fun q hq => ⟨HN3.out q hq, HG3.out.in q hq⟩) HTQ.out HJQ.out HS4.out
          rw [HNIL.out] at hne
          refine ⟨⟨i + 1, v4, F1, _, _, by omega, by simp, rfl, HO4, Lib.hid hne.1, Lib.hid hne.2.1, Lib.hid hne.2.2.1, Lib.hid hne.2.2.2⟩, by simp [intOf]; omega⟩
      | true =>
        have hsE : splitE P.length mtu = 0 := (fits_iff _ _).2 hfit
        rw [hfit] at HFI
        obtain ⟨m, hm, m1, m2, m3, m4, _, _⟩ := fits_yes (id := idN i) hfit
        have hcm : cntN mtu P = countN P.length m := by unfold cntN; rw [hm]; rfl
        have hsf := split_facts m1 m2 m3 m4
        have HALL : Hid (∀ k, k < cntN mtu P → lookE (dgram (fragB P (idN i) (cntN mtu P) k)) = 0 ∧ lookF (dgram (fragB P (idN i) (cntN mtu P) k)) = fragB P (idN i) (cntN mtu P) k ∧ partB P (cntN mtu P) k ≠ [] ∧ (dgram (fragB P (idN i) (cntN mtu P) k)).length ≤ 1024) := Lib.hid (fun k hk => by
          have hsh := fragB_shaped (packet := P) (id := idN i) m1 m2 m3 m4 (i := k) (by rw [← hcm]; exact hk)
          rw [← hcm] at hsh
          have hlk := dgram_look (fragB P (idN i) (cntN mtu P) k) hsh.1 hsh.2.1 (by show (partB P (cntN mtu P) k).length ≤ 1006; omega)
          refine ⟨hlk.1, hlk.2, fun e => by have := hsh.2.1; rw [e] at this; simp at this, ?_⟩
          rw [dgram_len]
          show 18 + (partB P (cntN mtu P) k).length ≤ 1024
          omega)
        rw [← hcm] at hsf
        obtain ⟨f1, f2, _, _, _, f6⟩ := hsf
        have F6 := Lib.hid f6
        have hlc : (splitB P (idN i) mtu).length = cntN mtu P := by rw [split_yes hfit, splitL_len]
        have HRD : Hid (RdD w3 (fpG (.slice a3 (splitB P (idN i) mtu).length c3) vs3) a3 (splitL P (idN i) (cntN mtu P))) := Lib.hid (by have h := HG3.out.rdd; rw [split_yes hfit] at h ⊢; exact h)
        have HDJ : Hid (Dj F1 (fpG (.slice a3 (splitB P (idN i) mtu).length c3) vs3)) := Lib.hid (fun q hf hd => by have := HJ.out.in q hf; have := HN3.out q hd; omega)
        have HLC := Lib.hid hlc
        rw [hsE, hlc]
        have HZ0 : Hid (apartS (keyN i) P (cntN mtu P) 0 = []) := Lib.hid (apart_zero _ _ (by omega))
        clear hsE hfit hlc hm m1 m2 m3 m4 hcm f6
        generalize hCe : cntN mtu P = C at *
        have HCE := Lib.hid hCe
        clear hCe
        go_wp2_with (go_at_call 45; refine (HFI.out _).mono ?_; rintro e w4 ⟨rfl, rfl⟩)
        go_loopw [14] (fun t wq => ∃ (k : Nat) (F' : Nat → Prop), k ≤ C ∧ t = .int .i64 k ∧ Hid (Jn wq F' pj 3 4 (apartS (keyN i) P C k)) ∧ Hid (St F1 w3 F' wq)) (fun t _ => C - (intOf t).toNat)
        case atStart => exact ⟨0, F1, by omega, rfl, by rw [HZ0.out]; exact Lib.hid (HJ.out.st HS3.out (Dj.no _)), Lib.hid (St.refl _ _)⟩
        case round =>
          obtain ⟨k, F2, hk, rfl, HJ2, HT⟩ := hrel
          by_cases hlk : k < C
          · have hki : (k : Int) < (C : Int) := by omega
            obtain ⟨q1, q2, q3, q4⟩ := HALL.out k hlk
            have hnx := take_next3 (P := P) (id := idN i) hlk q1 q2 q3 F6.out
            have hal : (apartS (keyN i) P C k).length ≤ 4096 := by have := apart_len (keyN i) P C k; omega
            obtain ⟨x3, b3, k3, rfl, _, hdc, hdb, _⟩ := HRD.out.st HT.out HDJ.out k _ (splitL_get P (idN i) C k hlk)
            generalize dgram (fragB P (idN i) C k) = d at *
            have HDB := Lib.hid hdb
            have HNX : Hid (takeP 3 (apartS (keyN i) P C k) 1 d = ⟨if k + 1 = C then P else [], decide (k + 1 = C), 0, apartS (keyN i) P C (k + 1)⟩) := Lib.hid hnx
            have HAL4 := Lib.hid hal
            clear q1 q2 q3 hnx hdb hal
            go_wp2_with fail
            refine (clone4_calls b3 k3 d (by omega) _ HDB.out).mono ?_
            rintro e w5 ⟨v5, rfl, ho5, hs5⟩
            obtain ⟨a5, c5, rfl, y1, y2, _, _⟩ := ho5.form
            have HS5 : Hid (St No wr No w5) := Lib.hid (hs5.drop (fun _ h => h.elim))
            have HTK := Lib.hid (jtake_calls a5 c5 d (by omega) y1 y2 w5 ho5.bs 1 (by omega) F2 pj 3 4 (apartS (keyN i) P C k) HAL4.out (HJ2.out.st HS5.out (Dj.no _)))
            rw [HNX.out] at HTK
            clear ho5 hs5
            by_cases hend : k + 1 = C
            · rw [if_pos hend, decide_eq_true hend] at HTK
              go_wp2_with fail
              refine HTK.out.mono ?_
              rintro e w6 ⟨V6, F6, rfl, ho6, hj6, hs6, hd6⟩
              obtain ⟨a6, c6, rfl, _, _, _, _⟩ := ho6.form
              have HJ6 := Lib.hid hj6
              have z5 := HS5.out.size
              have HT6 : Hid (St F1 w3 F6 w6) := Lib.hid ((HT.out.trans ((HS5.out.wide (F' := F2) (G' := F2) (fun _ h => h.elim) (fun k hk => .inl hk)))).trans (hs6.drop (fun k hk => .inr (.inl hk))))
              have HSW6 : Hid (St No w (Nw w) w6) := Lib.hid ((HS.out.then HS3.out).thenN HT6.out (fun q hq => HZN.out.lo q hq))
              have hcr6 : w6.cell? (x.add i) = some (.slice pb P.length pk) := HSW6.out.cellNo' HPC.out
              have hsub : IntKind.i64.wrap ((C : Int) - 1) = (C : Int) - 1 := by rw [IntKind.wrap_i64]; omega
              have hv1 : ∀ n, (convert 25 9 (.slice a6 P.length c6)).run Try.prog (w6.drewN n) = .ok (.string (strB P)) (w6.drewN n) := fun n => conv_bs (w := w6.drewN n) ((OwB.bs ho6).drewN n)
              have hv2 : ∀ n, (convert 25 9 (.slice pb P.length pk)).run Try.prog (w6.drewN n) = .ok (.string (strB P)) (w6.drewN n) := fun n => conv_bs (w := w6.drewN n) ((HPB.out.st HSW6.out (Dj.no _)).drewN n)
              have hbq := strB_beq P P
              rw [decide_eq_true rfl] at hbq
              have hcb : ((k : Int) == (C : Int) - 1) = true := by simp; omega
              clear ho6
              clear hj6 hs6 hd6
              go_wp2_with fail
              go_quiet (fail)
              rename Nat => nqa
              go_wp2
              exact ⟨⟨k + 1, F6, by omega, by simp <;> omega, Lib.hid (HJ6.out.st (St.drewN No w6 nqa) (Dj.no _)), Lib.hid (HT6.out.trans (St.drewN F6 w6 nqa))⟩, by simp [intOf]; omega⟩
            · rw [if_neg hend, decide_eq_false hend] at HTK
              go_wp2_with fail
              refine HTK.out.mono ?_
              rintro e w6 ⟨V6, F6, rfl, ho6, hj6, hs6, hd6⟩
              obtain ⟨a6, c6, rfl, _, _, _, _⟩ := ho6.form
              have HJ6 := Lib.hid hj6
              have z5 := HS5.out.size
              have HT6 : Hid (St F1 w3 F6 w6) := Lib.hid ((HT.out.trans ((HS5.out.wide (F' := F2) (G' := F2) (fun _ h => h.elim) (fun k hk => .inl hk)))).trans (hs6.drop (fun k hk => .inr (.inl hk))))
              have HSW6 : Hid (St No w (Nw w) w6) := Lib.hid ((HS.out.then HS3.out).thenN HT6.out (fun q hq => HZN.out.lo q hq))
              have hcr6 : w6.cell? (x.add i) = some (.slice pb P.length pk) := HSW6.out.cellNo' HPC.out
              have hsub : IntKind.i64.wrap ((C : Int) - 1) = (C : Int) - 1 := by rw [IntKind.wrap_i64]; omega
              have hcb : ((k : Int) == (C : Int) - 1) = false := beq_eq_false_iff_ne.2 (by omega)
              clear ho6
              clear hj6 hs6 hd6
              go_wp2_with fail
              go_quiet (fail)
              rename Nat => nqa
              go_wp2
              exact ⟨⟨k + 1, F6, by omega, by simp <;> omega, Lib.hid (HJ6.out.st (St.drewN No w6 nqa) (Dj.no _)), Lib.hid (HT6.out.trans (St.drewN F6 w6 nqa))⟩, by simp [intOf]; omega⟩
          · obtain rfl : k = C := by omega
            have hzc : apartS (keyN i) P k k = [] := by unfold apartS; rw [if_pos rfl]
            have HJQ : Hid (Jn wr F2 pj 3 4 []) := Lib.hid (by rw [← hzc]; exact HJ2.out)
            have HTQ := HT
            have HOQ : Hid (Own wr 41 1 V i Vs) := Lib.hid (HOQ0.out.st HT.out HZN.out.vF)
            clear hzc
            go_wp2_with (at_builtin; refine wpList_app rfl (.tmp 104) (.tmp 106) 100 rfl 41 ti _ 1 24 Try.underlying100 HTI.out HZ.out HSZ.out HBY.out rfl (by decide) _ i Vs rfl (HOQ.out.st (St.alloc' No wr _) (Dj.no _)) (some ⟨wr.heap.size, 0, none⟩) 1 1 [.slice a3 k c3] rfl ⟨rfl, rd_row (heap_alloc_new wr _), by simp; rfl⟩ (fun h => by cases h) (by unfold maxLen; omega) (by omega) ?_; intro v4 w4 ho4 hs4 hn4; have HO4 := Lib.hid ho4; have HS4 := Lib.hid hs4; clear ho4 hs4 hn4)
            have hne := none_end (a3 := a3) (c3 := c3) HAL.out HZN.out HS.out HP.out HO.out.in HJ.out.in HS3.out HG3.out.rdd (fun q hq => ⟨HN3.out q hq, HG3.out.in q hq⟩) HTQ.out HJQ.out HS4.out
            rw [HLC.out] at hne
            refine ⟨⟨i + 1, v4, F2, _, _, by omega, by simp, rfl, HO4, Lib.hid hne.1, Lib.hid hne.2.1, Lib.hid hne.2.2.1, Lib.hid hne.2.2.2⟩, by simp [intOf]; omega⟩
    · obtain rfl : i = Ps.length := by omega
      obtain ⟨w30, rfl⟩ : ∃ x, x = wr := ⟨_, rfl⟩
      obtain ⟨pi, hpi, hpz, hpsz, hpby⟩ := info_parts prinfo
      have HPI := Lib.hid hpi
      have HPZ := Lib.hid hpz
      have HPSZ := Lib.hid hpsz
      have HPBY := Lib.hid hpby
      have HAL0 := HAL
      have HO0 := HO
      have HZN0 := HZN
      have HS0 := HS
      clear hpi hpz hpsz hpby hi HAL HO HZN HS HST
      obtain ⟨av, cv, rfl, _, _, _, _⟩ := HO0.out.form
      go_wp2_with fail
      go_loopw [18, 19] (fun x t wq => ∃ (k : Nat) (V2 : Value) (F : Nat → Prop) (ss : List PS) (come : List Pr), k ≤ rs.length ∧ t = .int .i64 k ∧ x = V2 ∧ Hid (come.length ≤ k) ∧ Hid (Own wq 101 2 V2 come.length (come.flatMap Pr.cells)) ∧ Hid (Jn wq F pj 3 4 ss) ∧ Hid (Inv Ps mtu come ss) ∧ Hid (Z2 w30 F1 wq F V2)) (fun _ t _ => rs.length - (intOf t).toNat)
      case atStart =>
        exact ⟨0, _, F1, [], [], by omega, rfl, rfl, Lib.hid (Nat.le_refl _), Lib.hid (Own.nil _ _ _), HJ, Lib.hid (Inv.nil _ _ _), Lib.hid ⟨fun q hq => by simp [fpV, Value.ownBlock] at hq, fun q hq => .inl hq, Tn.refl _ _, fun q hq => by simp [fpV, Value.ownBlock] at hq, HJ.out.in⟩⟩
      case round =>
        obtain ⟨k, V2, F2, ss, come, hk, rfl, hxv, HCL, HO2, HJ2, HINV, HZ2⟩ := hrel
        have hxv' := hxv.symm
        subst hxv'
        clear hxv
        have HW : Hid (St No w (Nw w) wr) := Lib.hid (HS0.out.thenN HZ2.out.tn (fun q h => HZN0.out.lo q h))
        by_cases hlt : k < rs.length
        · have hki : (k : Int) < (rs.length : Int) := by omega
          obtain ⟨p, hp⟩ : ∃ p, rs[k]? = some p := ⟨_, List.getElem?_eq_getElem hlt⟩
          obtain ⟨px, rfl, hpc, hpw⟩ := HR.out k p hp
          obtain ⟨p1, p2⟩ := p
          have c0 : wr.cell? (px.add (k * 2)) = some (.int .i64 p1) := HW.out.cellNo' (hpc 0 _ rfl)
          have c1 : wr.cell? ⟨(px.add (k * 2)).block, (px.add (k * 2)).off + 1, none⟩ = some (.int .i64 p2) := HW.out.cellNo' (hpc 1 _ rfl)
          have hw1 : -9223372036854775808 ≤ p1 ∧ p1 ≤ 9223372036854775807 := hpw.1
          have hw2 : -9223372036854775808 ≤ p2 ∧ p2 ≤ 9223372036854775807 := hpw.2
          have hss := HINV.out.sane.few4 (by omega)
          have HTI2 := Lib.hid (tick_calls wr F2 pj 3 4 ss (by omega) (by omega) HINV.out.sane.age HJ2.out)
          have HSS := Lib.hid hss
          have HPC := Lib.hid hpc
          clear hp hpc hpw hss
          by_cases h1 : p1 < 0
          · have h1b : decide (p1 < 0) = true := decide_eq_true h1
            go_wp2_with (go_at_call 56; refine HTI2.out.mono ?_; rintro e w2 ⟨rfl, F3, hj3, hs3⟩; have HJ3 := Lib.hid hj3; have HS3 := Lib.hid hs3; clear hj3 hs3)
            exact ⟨⟨k + 1, V2, F3, tickP 4 ss, come, by omega, by simp, rfl, Lib.hid (by have := HCL.out; omega), Lib.hid (HO2.out.st HS3.out (fun q hf hv => (HZ2.out.v q hv).2 hf)), HJ3, Lib.hid HINV.out.tick, Lib.hid (HZ2.out.stepJ HS3.out (fun q h => h) HJ3.out.in)⟩, by simp [intOf]; omega⟩
          · have h1b : decide (p1 < 0) = false := decide_eq_false h1
            by_cases h0 : Ps.length = 0
            · have h0b : ((Ps.length : Int) == 0) = true := by simpa using h0
              have H0 := Lib.hid h0
              clear h0
              go_wp2_with (go_at_call 56; refine HTI2.out.mono ?_; rintro e w2 ⟨rfl, F3, hj3, hs3⟩; have HJ3 := Lib.hid hj3; have HS3 := Lib.hid hs3; clear hj3 hs3)
              exact ⟨⟨k + 1, V2, F3, tickP 4 ss, come, by omega, by simp, rfl, Lib.hid (by have := HCL.out; omega), Lib.hid (HO2.out.st HS3.out (fun q hf hv => (HZ2.out.v q hv).2 hf)), HJ3, Lib.hid HINV.out.tick, Lib.hid (HZ2.out.stepJ HS3.out (fun q h => h) HJ3.out.in)⟩, by simp [intOf]; omega⟩
            · have h0b : ((Ps.length : Int) == 0) = false := beq_eq_false_iff_ne.2 (by omega)
              have h0c : ¬ (Ps.length : Int) = 0 := by omega
              have h0d : ¬ (Ps.length : Int) = -1 := by omega
              have hmod : 0 ≤ p1.tmod (Ps.length : Int) ∧ p1.tmod (Ps.length : Int) < (Ps.length : Int) := by
                rw [Int.tmod_eq_emod_of_nonneg (by omega)]
                exact ⟨Int.emod_nonneg _ (by omega), Int.emod_lt_of_pos _ (by omega)⟩
              obtain ⟨n, hn⟩ := Int.eq_ofNat_of_zero_le hmod.1
              rw [hn] at hmod
              have hnN : n < Ps.length := by omega
              have hnI : (n : Int) < (Ps.length : Int) := by omega
              have hwm : wrap64 (n : Int) = (n : Int) := by unfold wrap64; omega
              obtain ⟨P, hP⟩ : ∃ P, Ps[n]? = some P := ⟨_, List.getElem?_eq_getElem hnN⟩
              obtain ⟨an, cn, hvn, hrd⟩ := HAL0.out.each n P hnN hP
              obtain ⟨gV, rfl⟩ : ∃ g, av = some ⟨g, 0, none⟩ := by
                rcases HO0.out.2 with ⟨h, _⟩ | ⟨g, cap, cur, h, _⟩
                · simp at h; omega
                · simp at h; exact ⟨g, h.1⟩
              have HOV : Hid (∀ W F V', Z2 w30 F1 W F V' → W.cell? ⟨gV, n, none⟩ = some (.slice an (splitB P (idN n) mtu).length cn) ∧ RdD W D an (splitB P (idN n) mtu)) := Lib.hid (fun W F V' z => ⟨(HO0.out.st z.tn HZN0.out.vF).cellAt n _ hvn, hrd.st z.tn HZN0.out.dF⟩)
              have hcn := (HOV.out wr F2 _ HZ2.out).1
              have HVN := Lib.hid hvn
              have HRDN := Lib.hid hrd
              have HP := Lib.hid hP
              clear hmod hvn hrd hP
              cases hfit : fitsN P.length mtu with
              | false =>
                have hl0 : (splitB P (idN n) mtu).length = 0 := by rw [split_no hfit]; rfl
                rw [hl0] at hcn
                clear hl0 hfit
                go_wp2
                exact ⟨⟨k + 1, V2, F2, ss, come, by omega, by simp, rfl, Lib.hid (by have := HCL.out; omega), HO2, HJ2, HINV, HZ2⟩, by simp [intOf]; omega⟩
              | true =>
                obtain ⟨m, hm, m1, m2, m3, m4, _, _⟩ := fits_yes (id := idN n) hfit
                have hcm : cntN mtu P = countN P.length m := by unfold cntN; rw [hm]; rfl
                have hsf := split_facts m1 m2 m3 m4
                have hHALL : ∀ j, j < cntN mtu P → (dgram (fragB P (idN n) (cntN mtu P) j)).length ≤ 1024 := fun j hj => by
                  have hsh := fragB_shaped (packet := P) (id := idN n) m1 m2 m3 m4 (i := j) (by rw [← hcm]; exact hj)
                  rw [← hcm] at hsh
                  rw [dgram_len]
                  show 18 + (partB P (cntN mtu P) j).length ≤ 1024
                  omega
                rw [← hcm] at hsf
                obtain ⟨f1, f2, _, _, _, _⟩ := hsf
                have hP1 : 1 ≤ P.length := m3
                have hP2 : P.length ≤ 4096 := m4
                have hlc : (splitB P (idN n) mtu).length = cntN mtu P := by rw [split_yes hfit, splitL_len]
                rw [hlc] at hcn HOV
                rw [split_yes hfit] at HOV
                have HC2 : Hid (cntN mtu P ≤ 90 ∧ 1 ≤ cntN mtu P) := Lib.hid ⟨f2, f1⟩
                have hpr := posI_range (x := p2) (n := (cntN mtu P : Int)) (by omega)
                have HPOS := Lib.hid (fun W => pos_calls p2 (cntN mtu P : Int) (by omega) (by omega) hw2 W)
                obtain ⟨i, hi⟩ := Int.eq_ofNat_of_zero_le hpr.1
                rw [hi] at hpr HPOS
                have hiC : i < cntN mtu P := by omega
                have hiI : (i : Int) < (cntN mtu P : Int) := by omega
                have hdl := hHALL i hiC
                have HTL := Lib.hid ((HINV.out.mono (come' := come ++ [((n : Int), (i : Int))]) (fun p hp => List.mem_append.2 (.inl hp))).take (by omega) HP.out hfit hiC (by simp))
                have HDG := Lib.hid (splitL_get P (idN n) (cntN mtu P) i hiC)
                obtain ⟨ox, pb, pk, hox, hpc2, hpb, hpn2, hpl⟩ := HL.out n P HP.out
                obtain rfl : oa = some ox := hox
                have HPC2 := Lib.hid hpc2
                have HPB := Lib.hid hpb
                have hcl : come.length < 8796093022208 := by have := HCL.out; omega
                clear hm m1 m2 m3 m4 hcm hHALL f1 hlc hpr hi hfit hpc2 hpb
                generalize hCe : cntN mtu P = C at *
                generalize dgram (fragB P (idN n) C i) = d at *
                have hC0 : ((C : Int) == 0) = false := beq_eq_false_iff_ne.2 (by omega)
                have hC00 : ¬ (C : Int) = 0 := by omega
                have HPOSQ : ∀ q, Calls Try.prog 54 #[.int .i64 p2, .int .i64 (C : Int)] (wr.drewN q) fun e w'' => e = .returned (.int .i64 (i : Int)) ∧ ∃ m, w'' = wr.drewN m := fun q => (HPOS.out _).mono (by rintro e w' ⟨rfl, rfl⟩; exact ⟨rfl, q, rfl⟩)
                go_wp2_with fail
                go_quiet ((go_at_call 54; exact HPOSQ _))
                rename Nat => nqa
                have HZ3 : Hid (Z2 w30 F1 (wr.drewN nqa) F2 V2) := Lib.hid (HZ2.out.stepNo (St.drewN No wr nqa))
                have HO3 : Hid (Own (wr.drewN nqa) 101 2 V2 come.length (come.flatMap Pr.cells)) := Lib.hid (HO2.out.st (St.drewN No wr nqa) (Dj.no _))
                have HJ3 : Hid (Jn (wr.drewN nqa) F2 pj 3 4 ss) := Lib.hid (HJ2.out.st (St.drewN No wr nqa) (Dj.no _))
                clear hcn HPOSQ c0 c1
                generalize wr.drewN nqa = w31 at *
                go_wp2_with (at_builtin; refine wpList_app rfl (.tmp 152) (.tmp 156) 99 rfl 101 pi _ 2 16 Try.underlying99 HPI.out HPZ.out HPSZ.out HPBY.out rfl (by decide) _ come.length (come.flatMap Pr.cells) rfl (HO3.out.st (St.alloc' No w31 _) (Dj.no _)) (some ⟨w31.heap.size, 0, none⟩) 1 1 (Pr.cells ((n : Int), (i : Int))) rfl ⟨rfl, rd_row (heap_alloc_new w31 _), fun u hu => by simp [Pr.cells] at hu; rcases hu with rfl | rfl <;> rfl⟩ (fun h => by cases h) (by unfold maxLen; omega) (by omega) ?_; intro v4 w4 ho4 hs4 hn4; have HZ4 : Hid (Z2 w30 F1 w4 F2 v4) := Lib.hid ((HZ3.out.stepNo (St.alloc' No w31 _)).stepV hs4 ho4.in); have hcn4 := (HOV.out w4 F2 v4 HZ4.out).1; obtain ⟨x3, b3, k3, rfl, _, hdc, hdb, _⟩ := (HOV.out w4 F2 v4 HZ4.out).2 i d HDG.out; have HDB := Lib.hid hdb; have HO4 := Lib.hid ho4; have HS4 := Lib.hid hs4; clear ho4 hs4 hn4 hdb)
                refine (clone4_calls b3 k3 d (by omega) _ HDB.out).mono ?_
                rintro e w5 ⟨v5, rfl, ho5, hs5⟩
                obtain ⟨a5, c5, rfl, y1, y2, _, _⟩ := ho5.form
                have HS5 : Hid (St No w4 No w5) := Lib.hid (hs5.drop (fun _ h => h.elim))
                have HJ4 : Hid (Jn w4 F2 pj 3 4 ss) := Lib.hid ((HJ3.out.st (St.alloc' No w31 _) (Dj.no _)).st HS4.out (fun q hv hf => (HZ3.out.v q hv).2 hf))
                have HTK := Lib.hid (jtake_calls a5 c5 d (by omega) y1 y2 w5 ho5.bs 1 (by omega) F2 pj 3 4 ss HSS.out (HJ4.out.st HS5.out (Dj.no _)))
                clear ho5 hs5 hcn4 hdc
                have htl := HTL.out
                generalize takeP 3 ss 1 d = tp at *
                obtain ⟨tout, twh, ter, tss⟩ := tp
                obtain ⟨hinv, rfl, hcase⟩ := htl
                have HINV2 : Hid (Inv Ps mtu (come ++ [((n : Int), (i : Int))]) tss) := Lib.hid hinv
                have HO5 : Hid (Own w5 101 2 v4 (come ++ [((n : Int), (i : Int))]).length ((come ++ [((n : Int), (i : Int))]).flatMap Pr.cells)) := Lib.hid (by
                  have h := HO4.out.st HS5.out (Dj.no _)
                  rw [List.length_append, List.flatMap_append]
                  simpa using h)
                have HCL2 : Hid ((come ++ [((n : Int), (i : Int))]).length ≤ k + 1) := Lib.hid (by have := HCL.out; simp; omega)
                generalize come ++ [((n : Int), (i : Int))] = come2 at *
                clear hinv HTL
                rcases hcase with ⟨h1, h2⟩ | ⟨h1, h2, h3⟩
                · obtain rfl : twh = false := h1
                  obtain rfl : tout = [] := h2
                  go_wp2_with fail
                  refine HTK.out.mono ?_
                  rintro e w6 ⟨V6, F6, rfl, ho6, hj6, hs6, hd6⟩
                  obtain ⟨a6, c6, rfl, _, _, _, _⟩ := ho6.form
                  have HJ6 : Hid (Jn w6 F6 pj 3 4 tss) := Lib.hid hj6
                  have HZ6 : Hid (Z2 w30 F1 w6 F6 v4) := Lib.hid ((HZ4.out.stepNo HS5.out).stepJ hs6 (fun q h => .inl h) hj6.in)
                  have HO6 := Lib.hid (HO5.out.st hs6 (fun q hf hv => ((HZ4.out.v q hv).2 hf)))
                  have HW6 : Hid (St No w (Nw w) w6) := Lib.hid (HS0.out.thenN HZ6.out.tn (fun q h => HZN0.out.lo q h))
                  clear ho6 hj6 hs6 hd6
                  dsimp only [List.length_nil]
                  go_wp2_with fail
                  go_quiet (fail)
                  rename Nat => nqb
                  go_wp2
                  exact ⟨⟨k + 1, v4, F6, tss, come2, by omega, by simp, rfl, HCL2, Lib.hid (HO6.out.st (St.drewN No w6 nqb) (Dj.no _)), Lib.hid (HJ6.out.st (St.drewN No w6 nqb) (Dj.no _)), HINV2, Lib.hid (HZ6.out.stepNo (St.drewN No w6 nqb))⟩, by simp [intOf]; omega⟩
                · obtain rfl : twh = true := h1
                  obtain rfl : tout = P := h2
                  have H3 := Lib.hid h3
                  have hP0 : (0 : Int) < (tout.length : Int) := by omega
                  have hP0b : decide ((0 : Int) < (tout.length : Int)) = true := decide_eq_true hP0
                  have hP0n : 0 < tout.length := by omega
                  have hP0c : decide (0 < tout.length) = true := decide_eq_true hP0n
                  have hP0e : ¬ tout = [] := fun e => by rw [e] at hP0n; simp at hP0n
                  have hP0f : ¬ tout.length = 0 := by omega
                  clear h3
                  go_wp2_with fail
                  refine HTK.out.mono ?_
                  rintro e w6 ⟨V6, F6, rfl, ho6, hj6, hs6, hd6⟩
                  obtain ⟨a6, c6, rfl, _, _, _, _⟩ := ho6.form
                  have HJ6 : Hid (Jn w6 F6 pj 3 4 tss) := Lib.hid hj6
                  have HZ6 : Hid (Z2 w30 F1 w6 F6 v4) := Lib.hid ((HZ4.out.stepNo HS5.out).stepJ hs6 (fun q h => .inl h) hj6.in)
                  have HO6 := Lib.hid (HO5.out.st hs6 (fun q hf hv => ((HZ4.out.v q hv).2 hf)))
                  have HW6 : Hid (St No w (Nw w) w6) := Lib.hid (HS0.out.thenN HZ6.out.tn (fun q h => HZN0.out.lo q h))
                  have hv1 : ∀ q, (convert 25 9 (.slice a6 tout.length c6)).run Try.prog (w6.drewN q) = .ok (.string (strB tout)) (w6.drewN q) := fun q => conv_bs (w := w6.drewN q) ((OwB.bs ho6).drewN q)
                  have hv2 : ∀ q, (convert 25 9 (.slice pb tout.length pk)).run Try.prog (w6.drewN q) = .ok (.string (strB tout)) (w6.drewN q) := fun q => conv_bs (w := w6.drewN q) ((HPB.out.st HW6.out (Dj.no _)).drewN q)
                  have hbq := strB_beq tout tout
                  rw [decide_eq_true rfl] at hbq
                  have hcr6 : w6.cell? (ox.add n) = some (.slice pb tout.length pk) := HW6.out.cellNo' HPC2.out
                  have hcn6 := (HOV.out w6 F6 v4 HZ6.out).1
                  have HCQ : ∀ q, Calls Try.prog 57 #[v4, .int .i64 (n : Int), .int .i64 (C : Int)] (w6.drewN q) fun e w'' => e = .returned (.bool true) ∧ ∃ m, w'' = w6.drewN m := fun q => (complete_calls v4 come2 (by have := HCL2.out; omega) (n : Int) C (by have := HC2.out; omega) H3.out (w6.drewN q) (HO6.out.st (St.drewN No w6 q) (Dj.no _))).mono (by rintro e w' ⟨rfl, rfl⟩; exact ⟨rfl, q, rfl⟩)
                  clear ho6 hj6 hs6 hd6
                  go_wp2_with fail
                  go_quiet ((go_at_call 57; exact HCQ _))
                  rename Nat => nqb
                  go_wp2
                  exact ⟨⟨k + 1, v4, F6, tss, come2, by omega, by simp, rfl, HCL2, Lib.hid (HO6.out.st (St.drewN No w6 nqb) (Dj.no _)), Lib.hid (HJ6.out.st (St.drewN No w6 nqb) (Dj.no _)), HINV2, Lib.hid (HZ6.out.stepNo (St.drewN No w6 nqb))⟩, by simp [intOf]; omega⟩
        · obtain rfl : k = rs.length := by omega
          go_wp2
          go_ret
          exact ⟨rfl, (HW.out.drop (G' := No) (fun _ h => h.elim)).below⟩
end Go.Proofs.Ytoeafacamapofaa
