
/-
  New: an end whose peers are new.
-/
import Derived.Test.YtjepmckofocdnaaXoEnd
namespace Go.Proofs.Ytjepmckofocdnaa
open Go.RowKit
set_option linter.unusedVariables false
set_option linter.unusedSimpArgs false

/-- a new end -/
def NewJ (w : World) (k : EC) (e : Ending) (w' : World) : Prop := ∃ F p, e = .returned (.tuple #[.pointer (some ⟨p, 0, none⟩), .int .i64 0]) ∧ En w' F p k (fun _ => xp0) ∧ St No w F w'
theorem infPP : (Try.prog.info? 118).map (fun i => (i.zero, i.size, decide (i.bytes ≤ 1000))) = some (some (.pointer none), 1, true) := by kernel_rfl
theorem infPP' : ∃ i, Try.prog.info? 118 = some i ∧ i.zero = some (.pointer none) ∧ i.size = 1 ∧ i.bytes ≤ 1000 := by
  have h := infPP
  cases hi : Try.prog.info? 118 with
  | none => rw [hi] at h; cases h
  | some i =>
    rw [hi] at h
    simp only [Option.map_some, Option.some.injEq, Prod.mk.injEq] at h
    exact ⟨i, rfl, h.1, h.2.1, of_decide_eq_true h.2.2⟩
theorem ptrs_zero {k : EC} {P : Nat → Nat} : (madeCells (Value.pointer none).cells (k.hosts * 1)).toList = ptrs k P 0 := by
  rw [show (Value.pointer none).cells = #[Value.pointer none] from rfl, Nat.mul_one, toList_madeCells_one]
  unfold ptrs
  apply List.ext_getElem
  · simp
  · intro i h1 h2
    simp [ptrV]
theorem ptrs_skip {k : EC} {P : Nat → Nat} {m : Nat} (hm : m = k.self) : ptrs k P m = ptrs k P (m + 1) := by
  unfold ptrs
  apply List.map_congr_left
  intro i hi
  unfold ptrV
  by_cases h : i = k.self
  · rw [if_neg (fun x => x.2 h), if_neg (fun x => x.2 h)]
  · have e : (i < m ∧ i ≠ k.self) = (i < m + 1 ∧ i ≠ k.self) := by
      apply propext
      constructor
      · exact fun x => ⟨by omega, x.2⟩
      · exact fun x => ⟨by omega, x.2⟩
    simp only [e]
theorem ptrs_more {k : EC} {P : Nat → Nat} {m q : Nat} (hm : m ≠ k.self) (hk : m < k.hosts) : (ptrs k P m).set m (.pointer (some ⟨q, 0, none⟩)) = ptrs k (upd P m q) (m + 1) := by
  unfold ptrs
  apply List.ext_getElem
  · simp
  · intro i h1 h2
    rw [List.getElem_set]
    simp only [List.getElem_map, List.getElem_range]
    unfold ptrV
    by_cases hi : m = i
    · subst hi
      rw [if_pos rfl, if_pos ⟨by omega, hm⟩, upd_same]
    · rw [if_neg hi, upd_ne (fun x => hi x.symm)]
      have e : (i < m ∧ i ≠ k.self) = (i < m + 1 ∧ i ≠ k.self) := by
        apply propext
        constructor
        · exact fun x => ⟨by omega, x.2⟩
        · exact fun x => ⟨by omega, x.2⟩
      simp only [e]
theorem EnM.skip {w : World} {e g : Nat} {k : EC} {m : Nat} {P : Nat → Nat} {R : Nat → Nat → Prop} {X : Nat → XP} (h : EnM w e g k m P R X) (hm : m = k.self) : EnM w e g k (m + 1) P R X := by
  have hl : ∀ a, a < m + 1 → a ≠ k.self → a < m := fun a x y => by omega
  exact ⟨h.ob, by rw [← ptrs_skip hm]; exact h.pb, fun a x y => h.pr a (hl a x y) y, h.eg, fun a x y => h.re a (hl a x y) y, fun a b x y u v => h.rr a b (hl a x u) (hl b y v) u v⟩
def pcells (c : PC) : Array Value := #[.int .u8 c.adr, .int .i64 c.room, .int .i64 c.win, .int .u64 0, .int .u64 0, .slice none 0 0, .int .u64 0, .int .u8 c.adr, .int .u64 c.win, .int .u64 0, .slice none 0 0]
theorem EnM.more {w : World} {e g : Nat} {k : EC} {m : Nat} {P : Nat → Nat} {R : Nat → Nat → Prop} (h : EnM w e g k m P R (fun _ => xp0)) (hm : m ≠ k.self) (hk : m < k.hosts) :
    EnM ((w.alloc (.cells (pcells (k.pc m)) 124)).setCell ⟨g, m, none⟩ (.pointer (some ⟨w.heap.size, 0, none⟩))) e g k (m + 1) (upd P m w.heap.size) (upd R m (fpB0 w.heap.size)) (fun _ => xp0)
    ∧ St (fpE e g k m R) w (fpE e g k (m + 1) (upd R m (fpB0 w.heap.size))) ((w.alloc (.cells (pcells (k.pc m)) 124)).setCell ⟨g, m, none⟩ (.pointer (some ⟨w.heap.size, 0, none⟩))) := by
  have sA : St No w No (w.alloc (.cells (pcells (k.pc m)) 124)) := St.alloc' No _ _
  have hA := h.st sA (Dj.no _)
  have hob := Ob.alloc w (pcells (k.pc m)) 124
  have hsz : (w.alloc (.cells (pcells (k.pc m)) 124)).heap.size = w.heap.size + 1 := by simp
  have hin := h.in
  have hgl : g < w.heap.size := hin g (.inr (.inl rfl))
  have hel : e < w.heap.size := hin e (.inl rfl)
  generalize w.alloc (.cells (pcells (k.pc m)) 124) = wA at *
  have sB : St (fpB0 g) wA (fpB0 g) (wA.setCell ⟨g, m, none⟩ (.pointer (some ⟨w.heap.size, 0, none⟩))) := St.setCell (F := fpB0 g) _ ⟨g, m, none⟩ _ rfl
  have hpb := hA.pb.set m (.pointer (some ⟨w.heap.size, 0, none⟩))
  rw [ptrs_more hm hk] at hpb
  generalize wA.setCell ⟨g, m, none⟩ (.pointer (some ⟨w.heap.size, 0, none⟩)) = wB at *
  have hl : ∀ a, a < m + 1 → a ≠ m → a < m := fun a x y => by omega
  have hRl : ∀ a, a < m → a ≠ k.self → ∀ j, R a j → j < w.heap.size := fun a ha hs j hj => hin j (.inr (.inr ⟨a, ha, hs, hj⟩))
  refine ⟨⟨hA.ob.move (sB.block _ hA.ob.lt (fun x => h.eg x)), hpb, ?_, h.eg, ?_, ?_⟩, ?_⟩
  · intro a ha hs
    by_cases ham : a = m
    · subst ham
      rw [upd_same, upd_same]
      refine ⟨.slice none 0 0, .slice none 0 0, [], [], ⟨hob.move (sB.block _ hob.lt (fun x => by have e : w.heap.size = g := x; omega)), LsG.nil _, LsG.nil _, fun x => fpL_nil x, fun x => fpL_nil x, fun j x => (fpL_nil x).elim⟩, rfl, rfl, ?_⟩
      funext j
      exact propext ⟨fun x => .inl x, fun x => x.elim id (fun x => x.elim (fun x => (fpL_nil x).elim) (fun x => (fpL_nil x).elim))⟩
    · rw [upd_ne ham, upd_ne ham]
      exact (hA.pr a (hl a ha ham) hs).st sB (fun j x y => (h.re a (hl a ha ham) hs).2 (by rw [← (show j = g from x)]; exact y))
  · intro a ha hs
    by_cases ham : a = m
    · subst ham
      rw [upd_same]
      exact ⟨fun x => by have e : e = w.heap.size := x; omega, fun x => by have e : g = w.heap.size := x; omega⟩
    · rw [upd_ne ham]
      exact h.re a (hl a ha ham) hs
  · intro a b ha hb hs hs' hn
    by_cases ham : a = m
    · have hbm : b ≠ m := fun x => hn (by omega)
      rw [ham, upd_same, upd_ne hbm]
      exact fun j x y => by have e : j = w.heap.size := x; have := hRl b (hl b hb hbm) hs' j y; omega
    · rw [upd_ne ham]
      by_cases hbm : b = m
      · rw [hbm, upd_same]
        exact fun j x y => by have e : j = w.heap.size := y; have := hRl a (hl a ha ham) hs j x; omega
      · rw [upd_ne hbm]
        exact h.rr a b (hl a ha ham) (hl b hb hbm) hs hs' hn
  · have s := (sA.wide (F' := fpB0 g) (G' := fpB0 g) (fun _ e => e.elim) (fun _ e => .inl e)).trans sB
    refine ⟨s.os, s.tape, s.output, s.size, fun j hj hn => s.block j hj (fun x => hn (.inr (.inl x))), ?_⟩
    rintro j (rfl | rfl | ⟨a, ha, hs, hj⟩)
    · exact .inl (.inl rfl)
    · exact .inl (.inr (.inl rfl))
    · by_cases ham : a = m
      · subst ham
        rw [upd_same] at hj
        exact .inr (by have e : j = w.heap.size := hj; omega)
      · rw [upd_ne ham] at hj
        exact .inl (.inr (.inr ⟨a, hl a ha ham, hs, hj⟩))
set_option maxRecDepth 100000 in
set_option maxHeartbeats 1000000 in
theorem new_calls (k : EC) (hs : k.self ≤ 255) (hh : k.hosts ≤ 9223372036854775807) (hr : k.room ≤ 9223372036854775807) (hw : k.win ≤ 9223372036854775807) (hf : fitsB k.self k.hosts k.room k.win = true) (w : World) :
    Calls Try.prog 23 #[.int .u8 k.self, .int .i64 k.hosts, .int .i64 k.room, .int .i64 k.win] w (NewJ w k) := by
  have hfc := fits_calls k.self k.hosts k.room k.win ⟨by omega, by omega⟩ w
  rw [hf] at hfc
  have hfd : 1 ≤ k.hosts ∧ k.hosts ≤ 16 ∧ k.self < k.hosts ∧ 1 ≤ k.room ∧ k.room ≤ 16 ∧ 1 ≤ k.win ∧ k.win ≤ k.room := by
    have h := of_decide_eq_true (show decide _ = true from hf)
    omega
  obtain ⟨i, hi, hz, hsz, hby⟩ := infPP'
  have HI := Lib.hid hi
  have HZ := Lib.hid hz
  have HSZ := Lib.hid hsz
  have HBY := Lib.hid hby
  clear hi hz hsz hby hf
  go_enter Try.func23, Try.ntmps23
  go_wp2_with fail
  refine hfc.mono ?_
  rintro e w1 ⟨rfl, rfl⟩
  go_wp2_with (at_make; refine wpList_makeN rfl 115 (.tmp 19) (.tmp 19) rfl 118 i (.pointer none) 1 i.bytes Try.underlying115 HI.out HZ.out HSZ.out rfl .i64 .i64 _ _ k.hosts rfl rfl rfl rfl (Nat.le_trans (Nat.mul_le_mul HBY.out hfd.2.1) (by omega)) (by unfold maxLen; omega) ?_; intro wM hoM hsM; rw [ptrs_zero (k := k) (P := fun _ => 0)] at hoM; have HMM := Lib.hid hoM; have HSM := Lib.hid hsM; clear hoM hsM)
  have hgl : w.heap.size < wM.heap.size := HMM.out.in _ (fpV_at.2 rfl)
  have HE0 : Hid (EnM (wM.alloc (.cells #[.slice (some ⟨w.heap.size, 0, none⟩) k.hosts k.hosts] 117)) wM.heap.size w.heap.size k 0 (fun _ => 0) (fun _ _ => False) (fun _ => xp0)) := Lib.hid
    ⟨Ob.alloc _ _ _, HMM.out.st (St.alloc' No wM _) (Dj.no _), fun a h => absurd h (by omega), by omega, fun a h => absurd h (by omega), fun a b h => absurd h (by omega)⟩
  have HS0 : Hid (St No w (fpE wM.heap.size w.heap.size k 0 (fun _ _ => False)) (wM.alloc (.cells #[.slice (some ⟨w.heap.size, 0, none⟩) k.hosts k.hosts] 117))) := Lib.hid (by
    have s := HSM.out.trans ((St.alloc' No wM (.cells #[.slice (some ⟨w.heap.size, 0, none⟩) k.hosts k.hosts] 117)).wide (F' := fpV (.slice (some ⟨w.heap.size, 0, none⟩) k.hosts k.hosts)) (G' := fpV (.slice (some ⟨w.heap.size, 0, none⟩) k.hosts k.hosts)) (fun _ e => e.elim) (fun _ e => .inl e))
    refine ⟨s.os, s.tape, s.output, s.size, s.block, ?_⟩
    rintro j (rfl | rfl | ⟨a, h, _⟩)
    · exact .inr (by omega)
    · exact .inr (by omega)
    · omega)
  generalize hWE : wM.alloc (.cells #[.slice (some ⟨w.heap.size, 0, none⟩) k.hosts k.hosts] 117) = wE at *
  generalize wM.heap.size = e at *
  clear HMM HSM
  go_loopw [24] (fun i wr => ∃ (m : Nat) (P : Nat → Nat) (R : Nat → Nat → Prop), m ≤ k.hosts ∧ i = .int .i64 m ∧ Hid (EnM wr e w.heap.size k m P R (fun _ => xp0)) ∧ Hid (St No w (fpE e w.heap.size k m R) wr)) (fun i _ => k.hosts - (intOf i).toNat)
  case atStart => exact ⟨0, fun _ => 0, fun _ _ => False, by omega, rfl, HE0, HS0⟩
  case round =>
    obtain ⟨m, P, R, hm, rfl, HE, HS⟩ := hrel
    have c0 : wr.cell? ⟨e, 0, none⟩ = some (.slice (some ⟨w.heap.size, 0, none⟩) k.hosts k.hosts) := by rw [HE.out.ob.cell 0]; rfl
    by_cases hlt : m < k.hosts
    · have c1 := HE.out.ptr hlt
      have cf : wr.frozen? ⟨w.heap.size, m, none⟩ = false := HE.out.pb.freeAt m
      have w8 : IntKind.u8.wrap (m : Int) = (m : Int) := IntWalk.u8_in _ (by omega)
      by_cases hms : m = k.self
      · have hq : ((m : Int) != (k.self : Int)) = false := by rw [bne_eq_false_iff_eq]; omega
        have HN := Lib.hid (HE.out.skip hms)
        have HSN : Hid (St No w (fpE e w.heap.size k (m + 1) R) wr) := Lib.hid (HS.out.drop (fun j hj => by
          rcases hj with x | x | ⟨a, ha, hs, hj⟩
          · exact .inr (.inl x)
          · exact .inr (.inr (.inl x))
          · exact .inr (.inr (.inr ⟨a, by omega, hs, hj⟩))))
        clear hms
        go_wp2
        exact ⟨⟨m + 1, P, R, by omega, by go_num, HN, HSN⟩, by simp [intOf]; omega⟩
      · have hq : ((m : Int) != (k.self : Int)) = true := by rw [bne_iff_ne]; omega
        have HN0 := HE.out.more hms hlt
        rw [World.setCell_alloc_past _ _ _ _ (HE.out.in _ (.inr (.inl rfl)))] at HN0
        have HN := Lib.hid HN0
        clear HN0
        have wu : IntKind.u64.wrap (k.win : Int) = (k.win : Int) := by rw [wrap_u64]; omega
        have hgl : w.heap.size < wr.heap.size := HE.out.in _ (.inr (.inl rfl))
        have hel : e < wr.heap.size := HE.out.in _ (.inl rfl)
        have hn1 : w.heap.size ≠ wr.heap.size := by omega
        have hn2 : wr.heap.size ≠ w.heap.size := by omega
        have HSN := Lib.hid (HS.out.trans HN.out.2)
        clear hms
        go_wp2
        exact ⟨⟨m + 1, _, _, by omega, by go_num, Lib.hid HN.out.1, HSN⟩, by simp [intOf]; omega⟩
    · obtain rfl : m = k.hosts := by omega
      go_wp2
      go_ret2
      exact ⟨_, e, rfl, ⟨w.heap.size, P, R, HE.out, rfl⟩, HS.out⟩
end Go.Proofs.Ytjepmckofocdnaa
