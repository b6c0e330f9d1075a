
/-
  come: the refusals.
-/
import Derived.Test.YtjepmckofocdnaaXoCome0
namespace Go.Proofs.Ytjepmckofocdnaa
open Go.RowKit
set_option linter.unusedVariables false
set_option linter.unusedSimpArgs false

set_option maxRecDepth 100000 in
set_option maxHeartbeats 2000000 in
theorem come_long (w : World) (F : Nat → Prop) (p : Nat) (c : PC) (x : XP) (h : Pr w F p c x) (m : MV) (bs : List B8) (hpn : m.pn = bs.length) (hz : sizedB bs.length = false) :
    Calls Try.prog 66 #[.pointer (some ⟨p, 7, none⟩), .agg m.cells] w (TakenJ w F p c (comeX c x m.seq bs) (comeT c x m.seq bs) (comeE c x m.seq bs)) := by
  have HP := Lib.hid h
  have hsz : m.cells.size = 17 := rfl
  have HSt := Lib.hid (Start.of w m)
  obtain ⟨b0, b1, b12, b16⟩ := HSt.out.cells
  rw [hpn] at b16
  have hE : comeE c x m.seq bs = 81 := by unfold comeE; rw [hz]; rfl
  have HR : Hid (∀ w', St No w No w' → TakenJ w F p c (comeX c x m.seq bs) (comeT c x m.seq bs) (comeE c x m.seq bs) (.returned (.tuple #[.agg #[.slice none 0 0, .slice none 0 0, .bool false], .int .i64 81])) w') := Lib.hid (fun w' s => by
    unfold comeX comeT
    rw [hE, if_neg (by decide), if_neg (by decide)]
    exact TakenJ.nil HP.out s)
  have hsc := fun W => sized_calls m.pa bs.length m.pc W
  rw [hz] at hsc
  have HSC := Lib.hid hsc
  have HRS := Lib.hid HSt.out.res
  obtain ⟨r0, r1, r2, rf0, rf1, rf2⟩ := HRS.out.n3
  clear hz h hpn hE hsc
  go_enter Try.func66, Try.ntmps66
  go_wp2_with fail
  refine (HSC.out _).mono ?_
  rintro r w2 ⟨rfl, rfl⟩
  generalize (w.alloc (.cells m.cells 60)).alloc (.cells #[.slice none 0 0, .slice none 0 0, .bool false] 77) = wA at *
  go_wp2_with fail
  refine bodyPost_ret (results_cell_row_tmp2 rfl _ _ (w.heap.size + 1) _ _ _ _ rfl (taken_row HRS.out _ _ _) Try.underlying77 rfl tkInfo) rfl ?_
  exact HR.out _ (HSt.out.st.own (St.xsets (F := fpB0 (w.heap.size + 1)) (w.heap.size + 1) rfl [_, _, _] 0 _) (Nat.le_succ _))
set_option maxRecDepth 100000 in
set_option maxHeartbeats 2000000 in
theorem come_far (w : World) (F : Nat → Prop) (p : Nat) (c : PC) (x : XP) (h : Pr w F p c x) (m : MV) (bs : List B8) (hpn : m.pn = bs.length) (hms : m.seq ≤ 18446744073709551615) (hz : sizedB bs.length = true) (h1 : x.delivered < m.seq) (h2 : c.win < m.seq - x.delivered) :
    Calls Try.prog 66 #[.pointer (some ⟨p, 7, none⟩), .agg m.cells] w (TakenJ w F p c (comeX c x m.seq bs) (comeT c x m.seq bs) (comeE c x m.seq bs)) := by
  have HP := Lib.hid h
  obtain ⟨Vq, Ve, qs, es, hm, hq, he, rfl⟩ := h
  have HM := Lib.hid hm
  have hpl := hm.ob.lt
  have hsz : m.cells.size = 17 := rfl
  have HSt := Lib.hid (Start.of w m)
  obtain ⟨b0, b1, b12, b16⟩ := HSt.out.cells
  rw [hpn] at b16
  have hE : comeE c x m.seq bs = 84 := by unfold comeE; rw [if_pos hz, if_pos ⟨h1, h2⟩]
  have HR : Hid (∀ w', St No w No w' → TakenJ w (fpP p Vq Ve qs es) p c (comeX c x m.seq bs) (comeT c x m.seq bs) (comeE c x m.seq bs) (.returned (.tuple #[.agg #[.slice none 0 0, .slice none 0 0, .bool false], .int .i64 84])) w') := Lib.hid (fun w' s => by
    unfold comeX comeT
    rw [hE, if_neg (by decide), if_neg (by decide)]
    exact TakenJ.nil HP.out s)
  have hsc := fun W => sized_calls m.pa bs.length m.pc W
  rw [hz] at hsc
  have HSC := Lib.hid hsc
  have HRS := Lib.hid HSt.out.res
  have i1 : (x.delivered : Int) < (m.seq : Int) := by omega
  have wd : IntKind.u64.wrap ((m.seq : Int) - (x.delivered : Int)) = ((m.seq - x.delivered : Nat) : Int) := by rw [wrap_u64]; omega
  have i2 : (c.win : Int) < ((m.seq - x.delivered : Nat) : Int) := by omega
  clear hz hm hq he hpn hE hsc h1 h2
  go_enter Try.func66, Try.ntmps66
  go_wp2_with fail
  refine (HSC.out _).mono ?_
  rintro r w2 ⟨rfl, rfl⟩
  generalize (w.alloc (.cells m.cells 60)).alloc (.cells #[.slice none 0 0, .slice none 0 0, .bool false] 77) = wA at *
  obtain ⟨d0, d1, d2, d3, d4, d5, d6, d7, d8, d9, d10, f0, f1, f2, f3, f4, f5, f6, f7, f8, f9, f10⟩ := (HM.out.st HSt.out.st (Dj.no _)).ob.n11
  obtain ⟨r0, r1, r2, rf0, rf1, rf2⟩ := HRS.out.n3
  clear d0 d1 d2 d3 d4 d5 d6 d7 d10 f0 f1 f2 f3 f4 f5 f6 f7 f8 f9 f10
  go_wp2_with fail
  go_quiet (fail)
  go_wp2_with fail
  have HS2 : Hid (St No wA No (wA.drewN nq)) := Lib.hid (St.drewN No wA nq)
  have HR2 := Lib.hid (HRS.out.move (HS2.out.block _ HRS.out.lt (fun e => e)))
  generalize wA.drewN nq = wB at *
  refine bodyPost_ret (results_cell_row_tmp2 rfl _ _ (w.heap.size + 1) _ _ _ _ rfl (taken_row HR2.out _ _ _) Try.underlying77 rfl tkInfo) rfl ?_
  exact HR.out _ ((HSt.out.st.trans HS2.out).own (St.xsets (F := fpB0 (w.heap.size + 1)) (w.heap.size + 1) rfl [_, _, _] 0 wB) (Nat.le_succ _))
end Go.Proofs.Ytjepmckofocdnaa
