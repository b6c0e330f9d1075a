
/-
  The program's Joiner: a slot's age goes up.
  The program's Joiner: Tick.
-/
import Derived.Test.YtoeafacamapofaaJnPlain
namespace Go.Proofs.Ytoeafacamapofaa
open Go.RowKit
set_option linter.unusedVariables false
set_option linter.unusedSimpArgs false

def SM.older (s : SM) : SM := { s with age := s.age + 1 }
theorem Jm.age {w : World} {pj bm : Nat} {V : Value} {D : Nat → Prop} {sl ag : Nat} {ss : List SM} (h : Jm w pj bm V D sl ag ss) {i : Nat} {s : SM} (hi : ss[i]? = some s) (ha : s.age + 1 ≤ 64) (e1 : Int) (he : e1 = ((s.age + 1 : Nat) : Int)) :
    Jm (w.setCell ⟨s.p, 2, none⟩ (.int .i64 e1)) pj bm V D sl ag (ss.set i s.older) ∧ St (fpB s.p) w (fpB s.p) (w.setCell ⟨s.p, 2, none⟩ (.int .i64 e1)) := by
  subst he
  have hsm := List.mem_of_getElem? hi
  have hbk := blkS_mem hsm
  have hap := h.apart
  simp only [List.nodup_cons, List.mem_cons, not_or] at hap
  obtain ⟨⟨hpb, hpj⟩, hbm, hnd⟩ := hap
  have hpg := blkS_self hnd hi
  have hil := (List.getElem?_eq_some_iff.1 hi).1
  have st : St (fpB s.p) w (fpB s.p) (w.setCell ⟨s.p, 2, none⟩ (.int .i64 ((s.age + 1 : Nat) : Int))) := St.setCell w ⟨s.p, 2, none⟩ _ rfl
  refine ⟨?_, st⟩
  have hD : ∀ k, fpB s.p k → ¬ D k := by
    rintro k rfl
    exact h.notD s.p (by simp [hbk.1])
  have hbS : blkS (ss.set i s.older) = blkS ss := blkS_set hi rfl rfl
  have hs := h.slots s hsm
  refine ⟨?_, ?_, ?_, ?_, ?_, ?_, ?_, ?_, ?_⟩
  · exact h.ob.move (st.block _ h.ob.lt (fun e => hpj (by have e' : pj = s.p := e; rw [e']; exact hbk.1)))
  · rw [map_set_same (s' := s.older) SM.ent hi rfl]
    exact h.mp.st st (fun e => hbm (by have e' : bm = s.p := e; rw [e']; exact hbk.1))
  · rw [List.length_set, ← List.flatMap_map, map_set_same (s' := s.older) SM.key hi rfl, List.flatMap_map]
    exact h.ord.st st (fun k hk hv => h.notV s.p (by simp [hbk.1]) (by have e' : k = s.p := hk; rw [← e']; exact hv))
  · intro t ht
    obtain ⟨j, hj⟩ := List.getElem?_of_mem ht
    by_cases hij : i = j
    · subst hij
      rw [List.getElem?_set_self hil] at hj
      injection hj with hj
      subst hj
      refine ⟨?_, ?_, ?_, hs.total, hs.count, hs.got, ha, hs.from0⟩
      · have h2 := hs.ob.set 2 (.int .i64 ((s.age + 1 : Nat) : Int))
        have e : s.older.cells = s.cells.setIfInBounds 2 (.int .i64 ((s.age + 1 : Nat) : Int)) := by simp [SM.older, SM.cells]
        show Ob _ s.p _ s.older.cells
        rw [e]
        exact h2
      · exact hs.row.move (st.block _ hs.row.lt (fun e => hpg (by have e' : s.g = s.p := e; exact e'.symm)))
      · intro r' hr'
        exact (hs.parts r' hr').st st hD
    · rw [List.getElem?_set_ne hij] at hj
      have hab := blkS_apart hnd hi hj hij
      exact (h.slots t (List.mem_of_getElem? hj)).st st (fun e => hab.1 (by have e' : t.p = s.p := e; exact e'.symm)) (fun e => hab.2.1 (by have e' : t.g = s.p := e; exact e'.symm)) hD
  · intro k hk
    exact Nat.lt_of_lt_of_le (h.inD k hk) st.size
  · rw [hbS]; exact h.apart
  · rw [hbS]; exact h.notV
  · rw [hbS]; exact h.notD
  · exact h.vD
/-- the slots of these names are older -/
def ageS (Dn : List Nm) (ss : List SM) : List SM := ss.map (fun s => if s.key ∈ Dn then s.older else s)
theorem ageS_nil (ss : List SM) : ageS [] ss = ss := by simp [ageS]
theorem ageS_len (Dn : List Nm) (ss : List SM) : (ageS Dn ss).length = ss.length := by simp [ageS]
theorem ageS_ent (Dn : List Nm) (ss : List SM) : (ageS Dn ss).map SM.ent = ss.map SM.ent := by
  unfold ageS
  rw [List.map_map]
  apply List.map_congr_left
  intro s _
  simp only [Function.comp]
  split <;> rfl
theorem ageS_blk (Dn : List Nm) (ss : List SM) : blkS (ageS Dn ss) = blkS ss := by
  unfold ageS blkS
  rw [List.flatMap_map]
  congr 1
  funext s
  split <;> rfl
theorem ageS_at {Dn : List Nm} {ss : List SM} {i : Nat} {s : SM} (hi : ss[i]? = some s) (hn : s.key ∉ Dn) : (ageS Dn ss)[i]? = some s := by simp [ageS, hi, hn]
theorem ageS_cons {Dn : List Nm} {ss : List SM} (hk : (ss.map (·.key)).Nodup) {i : Nat} {s : SM} (hi : ss[i]? = some s) (hn : s.key ∉ Dn) : ageS (s.key :: Dn) ss = (ageS Dn ss).set i s.older := by
  apply List.ext_getElem?
  intro j
  have hil := (List.getElem?_eq_some_iff.1 hi).1
  by_cases h : i = j
  · subst h
    rw [List.getElem?_set_self (by rw [ageS_len]; exact hil)]
    simp [ageS, hi]
  · rw [List.getElem?_set_ne h]
    cases hj : ss[j]? with
    | none => simp [ageS, hj]
    | some u =>
      have hne : u.key ≠ s.key := by
        intro e
        have hjl := (List.getElem?_eq_some_iff.1 hj).1
        have h1 := List.getElem?_inj (i := j) (j := i) (l := ss.map (·.key)) (by simpa using hjl) hk
        exact h (h1.1 (by simp [hj, hi, e])).symm
      simp [ageS, hj, hne]
theorem ageS_all {Dn : List Nm} {ss : List SM} (h : ∀ p ∈ ss.map SM.ent, p.1 ∈ Dn) : ageS Dn ss = ss.map SM.older := by
  unfold ageS
  apply List.map_congr_left
  intro s hs
  exact if_pos (h s.ent (List.mem_map.2 ⟨s, hs, rfl⟩))
end Go.Proofs.Ytoeafacamapofaa
namespace Go.Proofs.Ytoeafacamapofaa
open Go.RowKit
set_option linter.unusedVariables false
set_option linter.unusedSimpArgs false

def PS.older (s : PS) : PS := { s with age := s.age + 1 }
def tickP (ag : Nat) (ss : List PS) : List PS := (ss.map PS.older).filter (fun s => !decide (ag ≤ s.age))
theorem older_keep {ag : Nat} {ss : List SM} (hn : (ss.map (·.key)).Nodup) : (keepS (oldS ag ss) ss).map SM.pl = (ss.map SM.pl).filter (fun s => !decide (ag ≤ s.age)) := by
  unfold keepS
  rw [List.filter_map]
  congr 1
  apply List.filter_congr
  intro s hs
  obtain ⟨i, hi, rfl⟩ := List.mem_iff_getElem.1 hs
  have : oldS ag ss ss[i].key = decide ((ag : Int) ≤ ss[i].age) := by unfold oldS; rw [getS_at hn i hi]
  rw [this]
  show (!decide _) = (!decide (ag ≤ ss[i].age))
  congr 1
  exact decide_eq_decide.2 (by omega)
def TickJ (w : World) (F : Nat → Prop) (pj sl ag : Nat) (ss : List PS) (e : Ending) (w' : World) : Prop :=
  e = .returned (.int .i64 ((ss.length : Int) - ((tickP ag ss).length : Int))) ∧ ∃ F', Jn w' F' pj sl ag (tickP ag ss) ∧ St F w F' w'
theorem fpJ_age (pj bm : Nat) (V : Value) (D : Nat → Prop) (Dn : List Nm) (ss : List SM) : fpJ pj bm V D (ageS Dn ss) = fpJ pj bm V D ss := by
  unfold fpJ
  rw [ageS_blk]
set_option maxRecDepth 100000 in
set_option maxHeartbeats 2000000 in
theorem tick_calls (w : World) (F : Nat → Prop) (pj sl ag : Nat) (ss : List PS) (hlen : ss.length ≤ 65536) (hag : ag ≤ 64) (hold : ∀ s ∈ ss, s.age < ag) (h : Jn w F pj sl ag ss) :
    Calls Try.prog 56 #[.pointer (some ⟨pj, 0, none⟩)] w (TickJ w F pj sl ag ss) := by
  obtain ⟨bm, V, D, sm, hj, hpl, hF⟩ := h
  have hsa := St.alloc' No w (.cells #[.pointer (some ⟨pj, 0, none⟩)] 77)
  have hj2 := hj.st hsa (Dj.no _)
  have hob : Ob (w.alloc (.cells #[.pointer (some ⟨pj, 0, none⟩)] 77)) w.heap.size 77 #[.pointer (some ⟨pj, 0, none⟩)] := Ob.alloc w _ _
  obtain ⟨w2, hr2, hg2, hs2⟩ := hj2.mp.range (P := Try.prog) Try.underlying161
  have hrz : (w.alloc (.cells #[.pointer (some ⟨pj, 0, none⟩)] 77)).heap.size = w.heap.size + 1 := by simp
  rw [hrz] at hr2 hg2
  have hjl := hj.ob.lt
  have d2 : (w.alloc (.cells #[.pointer (some ⟨pj, 0, none⟩)] 77)).cell? ⟨pj, 2, none⟩ = some (.map (some bm)) := by rw [hj2.ob.cell 2]; rfl
  have hmf : ∀ (fn : Fn) (first cap : Array Value) (w : World), (Instr.makeFunc fn first cap).run Try.prog w = .ok (.func fn first cap) w := fun _ _ _ _ => rfl
  have HJ := Lib.hid hj
  have HPL := Lib.hid hpl
  have HF := Lib.hid hF
  have HG2 := Lib.hid hg2
  have HJ2 := Lib.hid (hj2.st hs2 (Dj.no _))
  have HOB2 := Lib.hid (hob.move (hs2.block _ hob.lt (fun e => e)))
  have HS2 := Lib.hid ((hsa.toNew.then hs2))
  have HOLD := Lib.hid hold
  clear hj hpl hF hg2 hj2 hob hs2 hsa hrz hold
  go_enter Try.func56, Try.ntmps56
  go_wp2
  go_loopw [] (fun wr => ∃ Dn : List Nm, Hid (Rng wr bm (w.heap.size + 1) nmV (sm.map SM.ent) Dn) ∧ Hid (Jm wr pj bm V D sl ag (ageS Dn sm)) ∧ Hid (Ob wr w.heap.size 77 #[.pointer (some ⟨pj, 0, none⟩)]) ∧ Hid (St (fpJ pj bm V D sm) w (fun k => fpJ pj bm V D sm k ∨ w.heap.size ≤ k) wr)) (fun wr => wr.rangeLeft bm (w.heap.size + 1))
  case atStart =>
    refine ⟨[], HG2, by rw [ageS_nil]; exact HJ2, HOB2, Lib.hid ?_⟩
    have h2 := HS2.out
    exact ⟨h2.os, h2.tape, h2.output, h2.size, fun k hk _ => h2.block k hk (fun e => e), fun k hk => hk⟩
  case round =>
    obtain ⟨Dn, HG, HJR, HO, HS⟩ := hrel
    have hin := HJ.out.in
    rcases HG.out.next (P := Try.prog) 0 with ⟨hall, hrun⟩ | ⟨i, p, w4, hp, hnd, hrun, hg4, hs4, hz4, hlf, hen⟩
    · have hnx : ∀ ty, (Instr.next (.pointer (some ⟨w.heap.size + 1, 0, none⟩)) false ty).run Try.prog wr = .ok (.tuple #[.bool false]) wr := fun ty => hrun
      have hbl := HJ.out.mp.lt
      have hjr := HJR.out
      rw [ageS_all hall] at hjr
      have hl2 : (sm.map SM.older).length ≤ 65536 := by
        have := congrArg List.length HPL.out
        simp at this
        simp
        omega
      have c0 : wr.cell? ⟨w.heap.size, 0, none⟩ = some (.pointer (some ⟨pj, 0, none⟩)) := by rw [HO.out.cell 0]; rfl
      have HDR := Lib.hid (jdrop_calls 97 (fun a b W => by kernel_rfl) (.pointer (some ⟨w.heap.size, 0, none⟩)) (oldS ag (sm.map SM.older)) wr pj bm V D sl ag _ hl2 hjr (asks_tick hjr w.heap.size (by omega) HO.out))
      have HKS := Lib.hid (older_keep (ag := ag) hjr.keys)
      have HBK : Hid (fpJ pj bm V D (sm.map SM.older) = fpJ pj bm V D sm) := Lib.hid (by rw [← ageS_all hall, fpJ_age])
      clear hrun hall hjr hl2 hbl
      go_wp2_with (go_at_call 95; refine HDR.out.mono ?_; rintro e wf ⟨rfl, V4, hj4, hs5⟩; have HJ4 := Lib.hid hj4; have HS5 := Lib.hid hs5; clear hj4 hs5)
      go_ret
      have htp : (keepS (oldS ag (sm.map SM.older)) (sm.map SM.older)).map SM.pl = tickP ag ss := by
        rw [HKS.out]
        unfold tickP
        rw [← HPL.out, List.map_map, List.map_map]
        rfl
      have hl1 : (tickP ag ss).length = (keepS (oldS ag (sm.map SM.older)) (sm.map SM.older)).length := by rw [← htp, List.length_map]
      have hl3 : ss.length = (sm.map SM.older).length := by rw [← HPL.out, List.length_map, List.length_map]
      refine ⟨by rw [hl1, hl3]; first | rfl | simp, _, ⟨bm, V4, D, _, HJ4.out, htp, fun _ => Iff.rfl⟩, ?_⟩
      have hs := HS.out
      have h5 := HS5.out
      rw [HBK.out] at h5
      refine ⟨h5.os.trans hs.os, h5.tape.trans hs.tape, h5.output.trans hs.output, Nat.le_trans hs.size h5.size, fun k hk hn => ?_, fun k hk => ?_⟩
      · rw [h5.block k (Nat.lt_of_lt_of_le hk hs.size) (fun hf => hn ((HF.out k).2 hf))]
        exact hs.block k hk (fun hf => hn ((HF.out k).2 hf))
      · exact (h5.new k hk).imp (fun hf => (HF.out k).2 hf) (fun hl => Nat.le_trans hs.size hl)
    · have hnx : ∀ ty, (Instr.next (.pointer (some ⟨w.heap.size + 1, 0, none⟩)) false ty).run Try.prog wr = .ok (.tuple #[.bool true, nmV p.1, p.2]) w4 := fun ty => hrun
      rw [List.getElem?_map] at hp
      obtain ⟨s, hs, rfl⟩ := Option.map_eq_some_iff.1 hp
      have hj4 := HJR.out.st hs4 (fun k hk hf => by
        have e : k = w.heap.size + 1 := hk
        rw [fpJ_age] at hf
        have := hin k hf
        omega)
      have hsl := hj4.slots s (List.mem_of_getElem? (ageS_at hs hnd))
      have hsm := List.mem_of_getElem? hs
      have hpb := (blkS_mem hsm).1
      have hsp : s.p < w.heap.size := hin s.p (.inl (by simp [hpb]))
      have hsbm : bm ≠ s.p := fun e => by
        have h1 := HJ.out.apart
        simp only [List.nodup_cons, List.mem_cons, not_or] at h1
        exact h1.2.1 (e ▸ hpb)
      have hag2 : s.age + 1 ≤ 64 := by
        have h1 := HOLD.out s.pl (by rw [← HPL.out]; exact List.mem_map.2 ⟨s, hsm, rfl⟩)
        have h2 : s.pl.age = s.age := rfl
        omega
      have x2 : w4.cell? ⟨s.p, 2, none⟩ = some (.int .i64 (s.age : Int)) := by rw [hsl.ob.cell 2]; rfl
      have g2 := hsl.ob.free 2
      have HA := Lib.hid (hj4.age (ageS_at hs hnd) hag2 ((s.age : Int) + 1) (by omega))
      have HC := Lib.hid (ageS_cons HJ.out.keys hs hnd)
      have HG4 := Lib.hid hg4
      have HS4 := Lib.hid hs4
      have HO4 := Lib.hid (HO.out.move (hs4.block _ HO.out.lt (fun e => by have e' : w.heap.size = w.heap.size + 1 := e; omega)))
      have HLF := Lib.hid hlf
      simp only [SM.ent] at hnx hen
      clear hrun hp hj4 hsl hg4 hs4 hlf
      go_wp2
      have hr1 : w.heap.size + 1 ≠ s.p := by omega
      refine ⟨⟨s.key :: Dn, Lib.hid (HG4.out.st HA.out.2 hsbm hr1), Lib.hid ?_, Lib.hid (HO4.out.move (HA.out.2.block _ HO4.out.lt (fun e => by have e' : w.heap.size = s.p := e; omega))), Lib.hid ?_⟩, ?_⟩
      · rw [HC.out]
        exact HA.out.1
      · have h0 := HS.out
        have h4 := HS4.out
        have h5 := HA.out.2
        refine ⟨h5.os.trans (h4.os.trans h0.os), h5.tape.trans (h4.tape.trans h0.tape), h5.output.trans (h4.output.trans h0.output), Nat.le_trans h0.size (Nat.le_trans h4.size h5.size), fun k hk hn => ?_, fun k hk => hk⟩
        have k0 := Nat.lt_of_lt_of_le hk h0.size
        have k4 := Nat.lt_of_lt_of_le k0 h4.size
        rw [h5.block k k4 (fun e => hn (.inl (by have e' : k = s.p := e; simp [e', hpb]))), h4.block k k0 (fun e => by have e' : k = w.heap.size + 1 := e; omega)]
        exact h0.block k hk hn
      · have e1 : (w4.setCell ⟨s.p, 2, none⟩ (.int .i64 ((s.age : Int) + 1))).rangeLeft bm (w.heap.size + 1) = w4.rangeLeft bm (w.heap.size + 1) := by
          unfold World.rangeLeft
          rw [Below.heap_setCell _ _ _ bm hsbm, Below.heap_setCell _ _ _ (w.heap.size + 1) hr1]
        rw [e1]
        exact HLF.out
end Go.Proofs.Ytoeafacamapofaa
