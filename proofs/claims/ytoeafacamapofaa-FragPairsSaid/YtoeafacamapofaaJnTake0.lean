
/-
  copy of bytes into the middle of a block.
  The program's Joiner: what Take's walk ends with.
-/
import Derived.Test.YtoeafacamapofaaJnPlain
namespace Go.Proofs.Ytoeafacamapofaa
open Go.RowKit
set_option linter.unusedVariables false
set_option linter.unusedSimpArgs false

theorem bv_arr (xs : List B8) : (bv xs).toArray.toList = bv xs := by simp
theorem run_copy0 (w : World) (a b : Option Addr) (c m k : Nat) (ty : TypeId) : (Builtin.copy_ #[25, 25] ty #[.slice a 0 c, .slice b m k]).run Try.prog w = .ok (goInt 0) w := by
  have hu := Try.underlying25
  have hsz : (Try.prog.info? 5).map (·.size) = some 1 := by obtain ⟨i, hi, hz, hsz, hb⟩ := info_parts u8info; rw [hi]; simp [hsz]
  exact run_copy_none (P := Try.prog) w 25 25 ty 5 a b 0 c m k hu hsz (by simp)
theorem run_copyAt (w : World) (g k c : Nat) (ys : List B8) (hob : Ob w g 5 (bv ys).toArray) (hk : k ≤ ys.length) (a : Option Addr) (cs : Nat) (xs : List B8) (hsrc : Bs w a xs) (ty : TypeId) :
    ∃ w', (Builtin.copy_ #[25, 25] ty #[.slice (some ⟨g, k, none⟩) (ys.length - k) c, .slice a xs.length cs]).run Try.prog w = .ok (goInt (min xs.length (ys.length - k) : Nat)) w' ∧
      Ob w' g 5 (bv (ys.take k ++ xs.take (min xs.length (ys.length - k)) ++ ys.drop (k + min xs.length (ys.length - k)))).toArray ∧ St (fpB g) w (fpB g) w' := by
  have hu := Try.underlying25
  have hsz : (Try.prog.info? 5).map (·.size) = some 1 := by obtain ⟨i, hi, hz, hsz, hb⟩ := info_parts u8info; rw [hi]; simp [hsz]
  by_cases h0 : min xs.length (ys.length - k) = 0
  · have hr := run_copy_none (P := Try.prog) w 25 25 ty 5 (some ⟨g, k, none⟩) a (ys.length - k) c xs.length cs hu hsz h0
    refine ⟨w, by rw [h0]; exact hr, ?_, St.refl _ _⟩
    rw [h0]
    simpa using hob
  · obtain ⟨x, rfl, _⟩ := hsrc.at 0 (by omega)
    have hl : (bv (xs.take (min xs.length (ys.length - k)))).length = min xs.length (ys.length - k) := by rw [bv_len, List.length_take]; omega
    have hr := run_copy_row (P := Try.prog) w 25 25 ty 5 g k (ys.length - k) c x xs.length cs (bv ys).toArray 5 (bv (xs.take (min xs.length (ys.length - k)))) hu hsz hob hl
      (Rd.at_some (by rw [← bv_take]; exact Rd.take hsrc _)) (by rw [hl]; simp [bv_len]; omega) (bv_one _)
    rw [hl] at hr
    refine ⟨_, hr, ?_, St.setRow w g _ rfl⟩
    have e : (bv (ys.take k ++ xs.take (min xs.length (ys.length - k)) ++ ys.drop (k + min xs.length (ys.length - k)))).toArray = ((bv ys).toArray.toList.take k ++ bv (xs.take (min xs.length (ys.length - k))) ++ (bv ys).toArray.toList.drop (k + min xs.length (ys.length - k))).toArray := by
      rw [bv_append, bv_append, bv_arr, bv_take, bv_drop]
    rw [e]
    exact hob.setRow _
end Go.Proofs.Ytoeafacamapofaa
namespace Go.Proofs.Ytoeafacamapofaa
open Go.RowKit
set_option linter.unusedVariables false
set_option linter.unusedSimpArgs false

def TakeJ (w : World) (F : Nat → Prop) (pj sl ag : Nat) (t : TP) (e : Ending) (w' : World) : Prop :=
  ∃ V F', e = .returned (.tuple #[V, .bool t.whole, .int .i64 t.er]) ∧ OwB w' V t.out ∧ Jn w' F' pj sl ag t.ss ∧ St F w (fun k => F' k ∨ fpV V k) w' ∧ Dj F' (fpV V)
theorem TakeJ.nothing {w w' : World} {F : Nat → Prop} {pj sl ag : Nat} {ss : List PS} (er : Int) (h : Jn w F pj sl ag ss) (s : St No w No w') :
    TakeJ w F pj sl ag ⟨[], false, er, ss⟩ (.returned (.tuple #[.slice none 0 0, .bool false, .int .i64 er])) w' := by
  refine ⟨.slice none 0 0, F, rfl, OwB.nil _, h.st s (Dj.no _), ⟨s.os, s.tape, s.output, s.size, fun k hk _ => s.block k hk (fun e => e), ?_⟩, ?_⟩
  · rintro k (hk | hk)
    · exact .inl hk
    · simp [fpV, Value.ownBlock] at hk
  · intro k _ hk; simp [fpV, Value.ownBlock] at hk
theorem Ob.cells5 {w : World} {p : Nat} {T : TypeId} {a b c d e : Value} (h : Ob w p T #[a, b, c, d, e]) : w.cell? ⟨p, 0, none⟩ = some a ∧ w.cell? ⟨p, 1, none⟩ = some b ∧ w.cell? ⟨p, 2, none⟩ = some c ∧ w.cell? ⟨p, 3, none⟩ = some d ∧ w.cell? ⟨p, 4, none⟩ = some e :=
  ⟨by rw [h.cell 0]; rfl, by rw [h.cell 1]; rfl, by rw [h.cell 2]; rfl, by rw [h.cell 3]; rfl, by rw [h.cell 4]; rfl⟩
theorem look_ok {d : List B8} (h : lookE d = 0) : shapedN (lookF d).total (lookF d).count (lookF d).index (lookF d).part.length ∧ 1 ≤ (lookF d).part.length ∧ (lookF d).part.length ≤ 1006 := by
  have hf : lookF d = readF d := by unfold lookF; rw [if_pos h]
  rw [hf]
  unfold lookE at h
  split at h
  · cases h
  · rename_i hn
    simp only [not_or] at hn
    have hp : (readF d).part.length = d.length - 18 := by simp [readF]; omega
    rw [hp]
    split at h
    · cases h
    · split at h
      · rename_i hs
        exact ⟨hs, by omega, by omega⟩
      · cases h
theorem getS_key {k : Nm} {ss : List SM} {s : SM} (h : getS k ss = some s) : s.key = k := by
  unfold getS at h
  simpa using List.find?_some h
theorem getS_no {k : Nm} {ss : List SM} (h : getS k ss = none) : ∀ s ∈ ss, s.key ≠ k := by
  unfold getS at h
  intro s hs e
  have := List.find?_eq_none.1 h s hs
  simp [e] at this
theorem getP_set {w : World} {pj bm : Nat} {V : Value} {D : Nat → Prop} {sl ag : Nat} {ss : List SM} (h : Jm w pj bm V D sl ag ss) {i : Nat} {s : SM} (hi : ss[i]? = some s) {k : Nm} (hk : s.key = k) : getP k (ss.map SM.pl) = some s.pl := by
  have hil := (List.getElem?_eq_some_iff.1 hi).1
  have := getS_at h.keys i hil
  rw [List.getElem?_eq_getElem hil] at hi
  injection hi with hi
  rw [hi, hk] at this
  rw [getS_pl, this]
  rfl
theorem TakeJ.same {w wd : World} {F : Nat → Prop} {pj bm sl ag : Nat} {V2 : Value} {D : Nat → Prop} {sm1 : List SM} (er : Int) (hj : Jm wd pj bm V2 D sl ag sm1) (hs : St F w (fpJ pj bm V2 D sm1) wd) :
    TakeJ w F pj sl ag ⟨[], false, er, sm1.map SM.pl⟩ (.returned (.tuple #[.slice none 0 0, .bool false, .int .i64 er])) wd := by
  refine ⟨.slice none 0 0, fpJ pj bm V2 D sm1, rfl, OwB.nil _, ⟨bm, V2, D, sm1, hj, rfl, fun _ => Iff.rfl⟩, hs.drop ?_, ?_⟩
  · rintro k (hk | hk)
    · exact .inr hk
    · simp [fpV, Value.ownBlock] at hk
  · intro k _ hk; simp [fpV, Value.ownBlock] at hk
theorem takeP_fill {sl : Nat} {ss : List PS} {frm : Int} {d : List B8} {T : TP} {f : Fg} {pls : List PS} (h255 : ¬ frm = 255) (hT : takeP sl ss frm d = T) (hE : lookE d = 0) (hF : lookF d = f) (h1 : ¬ f.count = 1) (hm : pls = openP sl ss (frm, (f.id.toNat : Int)) f) :
    T = fillP pls (frm, (f.id.toNat : Int)) f := by
  rw [← hT]
  unfold takeP
  rw [if_neg h255, hE, hF, if_neg (by simp), if_neg h1, ← hm]
theorem TakeJ.clash {w wd : World} {F : Nat → Prop} {pj bm sl ag : Nat} {V2 : Value} {D : Nat → Prop} {sm1 : List SM} {ss : List PS} {frm : Int} {d : List B8} {T : TP} {f : Fg} {s : SM} (h255 : ¬ frm = 255) (hT : takeP sl ss frm d = T) (hE : lookE d = 0) (hF : lookF d = f) (h1 : ¬ f.count = 1)
    (hm : sm1.map SM.pl = openP sl ss (frm, (f.id.toNat : Int)) f) (hg : getP (frm, (f.id.toNat : Int)) (sm1.map SM.pl) = some s.pl) (hc : s.pl.total ≠ f.total ∨ s.pl.parts.length ≠ f.count) (hj : Jm wd pj bm V2 D sl ag sm1) (hs : St F w (fpJ pj bm V2 D sm1) wd) :
    TakeJ w F pj sl ag T (.returned (.tuple #[.slice none 0 0, .bool false, .int .i64 44])) wd := by
  rw [takeP_fill h255 hT hE hF h1 hm]
  unfold fillP
  rw [hg]
  simp only
  rw [if_pos hc]
  exact TakeJ.same 44 hj hs
theorem TakeJ.old {w wd : World} {F : Nat → Prop} {pj bm sl ag : Nat} {V2 : Value} {D : Nat → Prop} {sm1 : List SM} {ss : List PS} {frm : Int} {d : List B8} {T : TP} {f : Fg} {s : SM} (h255 : ¬ frm = 255) (hT : takeP sl ss frm d = T) (hE : lookE d = 0) (hF : lookF d = f) (h1 : ¬ f.count = 1)
    (hm : sm1.map SM.pl = openP sl ss (frm, (f.id.toNat : Int)) f) (hg : getP (frm, (f.id.toNat : Int)) (sm1.map SM.pl) = some s.pl) (hc : ¬ (s.pl.total ≠ f.total ∨ s.pl.parts.length ≠ f.count)) (ho : s.pl.parts.getD f.index [] ≠ []) (hj : Jm wd pj bm V2 D sl ag sm1) (hs : St F w (fpJ pj bm V2 D sm1) wd) :
    TakeJ w F pj sl ag T (.returned (.tuple #[.slice none 0 0, .bool false, .int .i64 (if s.pl.parts.getD f.index [] = f.part then 0 else 44)])) wd := by
  rw [takeP_fill h255 hT hE hF h1 hm]
  unfold fillP
  rw [hg]
  simp only
  rw [if_neg hc, if_pos ho]
  exact TakeJ.same _ hj hs
def zeroRow (n : Nat) : Array Value := (bv (List.replicate n 0#8)).toArray
theorem make_bytes (W : World) (n : Nat) (hn : n ≤ 1048576) : (Instr.makeSlice 25 (.int .i64 (n : Int)) (.int .i64 (n : Int))).run Try.prog W = .ok (.slice (some ⟨W.heap.size, 0, none⟩) n n) (W.alloc (.cells (zeroRow n) 5)) := by
  obtain ⟨i, hi, hz, hs, hb⟩ := info_parts u8info
  have hr := run_make (P := Try.prog) W 25 5 i (.int .u8 0) Try.underlying25 hi hz .i64 .i64 n n (by omega) (by omega) (by rw [hb]; omega) (by omega)
  rw [hs] at hr
  simp only [Int.toNat_natCast, Nat.mul_one] at hr
  have hcs : madeCells (Value.int .u8 0).cells n = zeroRow n := by
    apply Array.ext'
    rw [show (Value.int .u8 0).cells = #[Value.int .u8 0] from rfl, toList_madeCells_one]
    simp [zeroRow, bv]
  rw [hcs] at hr
  exact hr
theorem cast1 (n : Nat) : ((n + 1 : Nat) : Int) = (n : Int) + 1 := by omega
/-- a part is laid in: all that is known behind it -/
theorem put_all {w wd : World} {F : Nat → Prop} {pj bm : Nat} {V : Value} {D : Nat → Prop} {sl ag : Nat} {ss : List SM} {i : Nat} {s : SM} {fix : Nat} {fa : Option Addr} {fc : Nat} {fpt : List B8} {rf kb : Nat} {T1 T2 : TypeId} {c1 c2 : Array Value}
    (hj : Jm wd pj bm V D sl ag ss) (hi : ss[i]? = some s) (hx : fix < s.ps.length) (h0 : s.ps[fix].bs = []) (hop : OwB wd (.slice fa fpt.length fc) fpt) (h1 : 1 ≤ fpt.length) (h2 : fpt.length ≤ 1024)
    (hrf : Ob wd rf T1 c1) (hkb : Ob wd kb T2 c2) (hax : ∀ k, (fpA fa k ∨ k = rf ∨ k = kb) → ¬ fpJ pj bm V D ss k) (hs : St F w (fpJ pj bm V D ss) wd) (hfn : ∀ k, fpA fa k → w.heap.size ≤ k) (e1 : Int) (he : e1 = (s.got : Int) + 1) :
    Jm ((wd.setCell ⟨s.g, fix, none⟩ (.slice fa fpt.length fc)).setCell ⟨s.p, 1, none⟩ (.int .i64 e1)) pj bm V (fun k => D k ∨ fpA fa k) sl ag (ss.set i (s.fill fix ⟨fa, fc, fpt⟩)) ∧
    St F w (fpJ pj bm V (fun k => D k ∨ fpA fa k) (ss.set i (s.fill fix ⟨fa, fc, fpt⟩))) ((wd.setCell ⟨s.g, fix, none⟩ (.slice fa fpt.length fc)).setCell ⟨s.p, 1, none⟩ (.int .i64 e1)) ∧
    Ob ((wd.setCell ⟨s.g, fix, none⟩ (.slice fa fpt.length fc)).setCell ⟨s.p, 1, none⟩ (.int .i64 e1)) rf T1 c1 ∧ Ob ((wd.setCell ⟨s.g, fix, none⟩ (.slice fa fpt.length fc)).setCell ⟨s.p, 1, none⟩ (.int .i64 e1)) kb T2 c2 := by
  subst he
  obtain ⟨a', c', e, q1, q2, q3, q4⟩ := hop.form
  injection e with ea _ ec
  subst ea; subst ec
  have hp := hj.put hi hx h0 ⟨fa, fc, fpt⟩ (OwB.bs hop) (fun e => by simp only at e; rw [e] at h1; simp at h1) (fun e => by have := (q4 e).1; omega) q1 q2 h2 (fun k hk => ⟨hax k (.inl hk), hop.in k ((q3 k).2 hk)⟩)
  rw [cast1] at hp
  have hsm := List.mem_of_getElem? hi
  have hb := blkS_mem hsm
  have hbS : blkS (ss.set i (s.fill fix ⟨fa, fc, fpt⟩)) = blkS ss := blkS_set hi rfl rfl
  have hfp : ∀ k, (k = s.p ∨ k = s.g) → fpJ pj bm V D ss k := by
    rintro k (rfl | rfl)
    · exact .inl (by simp [hb.1])
    · exact .inl (by simp [hb.2])
  refine ⟨hp.1, ⟨hp.2.os.trans hs.os, hp.2.tape.trans hs.tape, hp.2.output.trans hs.output, Nat.le_trans hs.size hp.2.size, fun k hk hn => ?_, fun k hk => ?_⟩, hrf.move (hp.2.block rf hrf.lt (fun e => hax rf (.inr (.inl rfl)) (hfp rf e))), hkb.move (hp.2.block kb hkb.lt (fun e => hax kb (.inr (.inr rfl)) (hfp kb e)))⟩
  · exact (hp.2.block k (Nat.lt_of_lt_of_le hk hs.size) (fun e => (hs.new k (hfp k e)).elim hn (fun h => absurd hk (Nat.not_lt.2 h)))).trans (hs.block k hk hn)
  · rcases hk with hk | hk | hk | hk
    · rw [hbS] at hk
      exact hs.new k (.inl hk)
    · exact hs.new k (.inr (.inl hk))
    · exact hs.new k (.inr (.inr hk))
    · exact .inr (hfn k hk)
theorem TakeJ.more {w we : World} {F : Nat → Prop} {pj bm sl ag : Nat} {V2 : Value} {D : Nat → Prop} {sm1 : List SM} {ss : List PS} {frm : Int} {d : List B8} {T : TP} {f : Fg} {i : Nat} {s : SM} {r : PR} (h255 : ¬ frm = 255) (hT : takeP sl ss frm d = T) (hE : lookE d = 0) (hF : lookF d = f) (h1 : ¬ f.count = 1)
    (hm : sm1.map SM.pl = openP sl ss (frm, (f.id.toNat : Int)) f) (hg : getP (frm, (f.id.toNat : Int)) (sm1.map SM.pl) = some s.pl) (hc : ¬ (s.pl.total ≠ f.total ∨ s.pl.parts.length ≠ f.count)) (ho : s.pl.parts.getD f.index [] = []) (hlt : s.got + 1 < f.count) (hr : r.bs = f.part)
    (hn : (sm1.map (·.key)).Nodup) (hi : sm1[i]? = some s) (hk : s.key = (frm, (f.id.toNat : Int))) (hj : Jm we pj bm V2 D sl ag (sm1.set i (s.fill f.index r))) (hs : St F w (fpJ pj bm V2 D (sm1.set i (s.fill f.index r))) we) :
    TakeJ w F pj sl ag T (.returned (.tuple #[.slice none 0 0, .bool false, .int .i64 0])) we := by
  rw [takeP_fill h255 hT hE hF h1 hm]
  unfold fillP
  rw [hg]
  simp only
  rw [if_neg hc, if_neg (by rw [ho]; simp), if_pos (by exact hlt)]
  have := TakeJ.same (F := F) 0 hj hs
  rw [set_pl hn hi, fill_pl, hr, hk] at this
  exact this
theorem keepP_putP (k : Nm) (t : PS) (ht : t.key = k) (ss : List PS) : keepP (fun y => decide (y = k)) (putP k t ss) = keepP (fun y => decide (y = k)) ss := by
  unfold keepP putP
  induction ss with
  | nil => rfl
  | cons s ss ih =>
    rw [List.map_cons]
    by_cases h : s.key = k
    · rw [if_pos h, List.filter_cons_of_neg (by simp [ht]), List.filter_cons_of_neg (by simp [h])]
      exact ih
    · rw [if_neg h, List.filter_cons_of_pos (by simp [h]), List.filter_cons_of_pos (by simp [h]), ih]
theorem OwB.ofOb {w : World} {g : Nat} {xs : List B8} (h : Ob w g 5 (bv xs).toArray) (hl : xs.length ≤ maxLen) : OwB w (.slice (some ⟨g, 0, none⟩) xs.length xs.length) xs :=
  ⟨by simp [bv_len], .inr ⟨g, xs.length, _, rfl, Nat.zero_le _, h, Nat.le_refl _, hl, by simp [bv_len], by rw [Nat.mul_one, ← bv_len xs]; simp⟩⟩
theorem TakeJ.whole {w wf : World} {F : Nat → Prop} {pj bm sl ag : Nat} {V4 : Value} {D : Nat → Prop} {sm1 : List SM} {ss : List PS} {frm : Int} {d : List B8} {T : TP} {f : Fg} {i g : Nat} {s : SM} {r : PR} (h255 : ¬ frm = 255) (hT : takeP sl ss frm d = T) (hE : lookE d = 0) (hF : lookF d = f) (h1 : ¬ f.count = 1)
    (hm : sm1.map SM.pl = openP sl ss (frm, (f.id.toNat : Int)) f) (hg : getP (frm, (f.id.toNat : Int)) (sm1.map SM.pl) = some s.pl) (hc : ¬ (s.pl.total ≠ f.total ∨ s.pl.parts.length ≠ f.count)) (ho : s.pl.parts.getD f.index [] = []) (hlt : ¬ s.got + 1 < f.count) (hr : r.bs = f.part)
    (hn : (sm1.map (·.key)).Nodup) (hi : sm1[i]? = some s) (hk : s.key = (frm, (f.id.toNat : Int))) (htl : s.total ≤ 4096)
    (hj : Jm wf pj bm V4 D sl ag (keepS (fun y => decide (y = (frm, (f.id.toNat : Int)))) (sm1.set i (s.fill f.index r)))) (hs : St F w (fpJ pj bm V4 D (keepS (fun y => decide (y = (frm, (f.id.toNat : Int)))) (sm1.set i (s.fill f.index r)))) wf)
    (hgo : Ob wf g 5 (bv (layT s.total ((s.fill f.index r).ps.map (·.bs)).flatten)).toArray) (hgn : w.heap.size ≤ g) (hgj : ¬ fpJ pj bm V4 D (keepS (fun y => decide (y = (frm, (f.id.toNat : Int)))) (sm1.set i (s.fill f.index r))) g) :
    TakeJ w F pj sl ag T (.returned (.tuple #[.slice (some ⟨g, 0, none⟩) s.total s.total, .bool true, .int .i64 0])) wf := by
  rw [takeP_fill h255 hT hE hF h1 hm]
  unfold fillP
  rw [hg]
  simp only
  rw [if_neg hc, if_neg (by rw [ho]; simp), if_neg (by exact hlt)]
  have hfl : (s.pl.fill f.index f.part).parts.flatten = ((s.fill f.index r).ps.map (·.bs)).flatten := by
    rw [← hr, ← fill_pl]
    rfl
  have hpl : (keepS (fun y => decide (y = (frm, (f.id.toNat : Int)))) (sm1.set i (s.fill f.index r))).map SM.pl = keepP (fun y => decide (y = (frm, (f.id.toNat : Int)))) (sm1.map SM.pl) := by
    rw [keepS_pl, set_pl hn hi, hk, keepP_putP]
    exact hk
  have hob := OwB.ofOb hgo (by rw [layT_len]; unfold maxLen; omega)
  rw [layT_len] at hob
  refine ⟨_, _, rfl, ?_, ⟨bm, V4, D, _, hj, hpl, fun _ => Iff.rfl⟩, ?_, ?_⟩
  · show OwB wf _ (layT s.pl.total _)
    rw [hfl]
    exact hob
  · refine ⟨hs.os, hs.tape, hs.output, hs.size, hs.block, ?_⟩
    rintro k (hk | hk)
    · exact hs.new k hk
    · simp [fpV, Value.ownBlock] at hk
      exact .inr (by omega)
  · intro k hk hv
    simp [fpV, Value.ownBlock] at hv
    subst hv
    exact hgj hk
end Go.Proofs.Ytoeafacamapofaa
