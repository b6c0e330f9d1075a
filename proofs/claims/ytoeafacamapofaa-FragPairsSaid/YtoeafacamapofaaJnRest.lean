
/-
  The program's Joiner: Forget, Tick.
-/
import Derived.Test.YtoeafacamapofaaJnTake
namespace Go.Proofs.Ytoeafacamapofaa
open Go.RowKit
set_option linter.unusedVariables false
set_option linter.unusedSimpArgs false

def ForgetJ (w : World) (F : Nat → Prop) (pj sl ag : Nat) (ss : List PS) (frm : Int) (e : Ending) (w' : World) : Prop :=
  (frm = 255 ∧ e = .returned (.tuple #[.int .i64 0, .int .i64 45]) ∧ Jn w' F pj sl ag ss ∧ St F w F w') ∨
  (frm ≠ 255 ∧ e = .returned (.tuple #[.int .i64 ((ss.length : Int) - ((keepP (fun y => decide (y.1 = frm)) ss).length : Int)), .int .i64 0]) ∧ ∃ F', Jn w' F' pj sl ag (keepP (fun y => decide (y.1 = frm)) ss) ∧ St F w F' w')
set_option maxRecDepth 100000 in
set_option maxHeartbeats 1000000 in
theorem forget_calls (w : World) (frm : Int) (F : Nat → Prop) (pj sl ag : Nat) (ss : List PS) (hlen : ss.length ≤ 65536) (h : Jn w F pj sl ag ss) :
    Calls Try.prog 59 #[.pointer (some ⟨pj, 0, none⟩), .int .u8 frm] w (ForgetJ w F pj sl ag ss frm) := by
  have HJ := Lib.hid h
  have hsa := St.alloc' No w (.cells #[.int .u8 frm] 28)
  by_cases h255 : frm = 255
  · subst h255
    clear h
    go_enter Try.func59, Try.ntmps59
    go_wp2
    go_ret2
    exact .inl ⟨rfl, rfl, HJ.out.st hsa (Dj.no _), St.alloc' F w _⟩
  obtain ⟨bm, V, D, sm, hj, hpl, hF⟩ := h
  have hll : sm.length ≤ 65536 := by rw [← hpl] at hlen; simpa using hlen
  have hj2 := hj.st hsa (Dj.no _)
  have hob : Ob (w.alloc (.cells #[.int .u8 frm] 28)) w.heap.size 28 #[.int .u8 frm] := Ob.alloc w _ _
  have HDR := Lib.hid (jdrop_calls 98 (fun a b W => by kernel_rfl) (.pointer (some ⟨w.heap.size, 0, none⟩)) (fun y => decide (y.1 = frm)) _ pj bm _ _ sl ag _ hll hj2 (asks_forget _ bm _ w.heap.size (by have := hj.mp.lt; omega) _ frm hob))
  have HPL := Lib.hid hpl
  have HF := Lib.hid hF
  have hmf : ∀ (fn : Fn) (first cap : Array Value) (w : World), (Instr.makeFunc fn first cap).run Try.prog w = .ok (.func fn first cap) w := fun _ _ _ _ => rfl
  clear hj hpl hF hj2 hob hll hsa
  go_enter Try.func59, Try.ntmps59
  go_wp2_with (go_at_call 95; refine HDR.out.mono ?_; rintro e wf ⟨rfl, V4, hj4, hs4⟩; have HJ4 := Lib.hid hj4; have HS4 := Lib.hid hs4; clear hj4 hs4)
  go_ret2
  have hkp : (keepS (fun y => decide (y.1 = frm)) sm).map SM.pl = keepP (fun y => decide (y.1 = frm)) ss := by rw [keepS_pl, HPL.out]
  have hl1 : (keepP (fun y => decide (y.1 = frm)) ss).length = (keepS (fun y => decide (y.1 = frm)) sm).length := by rw [← hkp, List.length_map]
  have hl2 : ss.length = sm.length := by rw [← HPL.out, List.length_map]
  refine .inr ⟨h255, by rw [hl1, hl2]; rfl, _, ⟨bm, V4, D, _, HJ4.out, hkp, fun _ => Iff.rfl⟩, ?_⟩
  have hs := HS4.out
  have ha := St.alloc' No w (.cells #[.int .u8 frm] 28)
  refine ⟨hs.os, hs.tape, hs.output, Nat.le_trans ha.size hs.size, fun k hk hn => ?_, fun k hk => ?_⟩
  · rw [hs.block k (Nat.lt_of_lt_of_le hk ha.size) (fun hf => hn ((HF.out k).2 hf))]
    exact ha.block k hk (fun e => e)
  · exact (hs.new k hk).imp (fun hf => (HF.out k).2 hf) (fun hl => Nat.le_trans ha.size hl)
end Go.Proofs.Ytoeafacamapofaa
