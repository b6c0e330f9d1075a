
/-
  ack: the Ack of all that has come.
-/
import Derived.Test.YtjepmckofocdnaaXoStated
import Derived.StillTailTactics
namespace Go.Proofs.Ytjepmckofocdnaa
open Go.RowKit
set_option linter.unusedVariables false
set_option linter.unusedSimpArgs false

/-- the bits of what came early -/
def ackM (dl : Nat) : List (Nat × List B8) → BitVec 64 := fun l => l.foldl (fun m f => m ||| (1#64 <<< (f.1 - dl - 2))) 0
theorem ackM_app {dl : Nat} {l : List (Nat × List B8)} {f : Nat × List B8} : ackM dl (l ++ [f]) = ackM dl l ||| (1#64 <<< (f.1 - dl - 2)) := by unfold ackM; rw [List.foldl_append]; rfl
def ackC (dl : Nat) (m : BitVec 64) : Array Value := #[.int .u8 11, .int .u64 dl, .int .u64 0, .int .u64 0, .slice none 0 0, .slice none 0 0, .bool false, .int .u8 0, .int .u8 0, .int .u8 0, .int .u32 0, .int .u32 0, .int .u64 (m.toNat : Int), .int .u8 0, .slice none 0 0, .slice none 0 0, .slice none 0 0]
theorem shl1 (k : Nat) (h : k < 64) : (2 : Int) ^ k = (((1#64 <<< k : BitVec 64)).toNat : Int) := by
  have e : (1#64 <<< k : BitVec 64).toNat = 2 ^ k := by
    rw [BitVec.toNat_shiftLeft, Nat.shiftLeft_eq]
    have : 2 ^ k < 2 ^ 64 := Nat.pow_lt_pow_right (by decide) h
    simp
    exact this
  rw [e]
  simp
theorem still_load_row {P : Program} {ops : Array Oper} {w : World} {Q : Act → Prop} {a : Act} {o : Oper} {rest : List Oper} (hgd : o.guard = none) (ty : TypeId) (x : Operand) (ho : o.op = .load ty x)
    (g : Nat) (hx : a.eval x = .pointer (some ⟨g, 0, none⟩)) (t : TypeId) (cs : Array Value) (fr : Nat × Nat) (d : TypeDesc) (hg : w.heap[g]? = some (.cells cs t fr))
    (hu : P.underlying ty = some d) (hd : (match d with | .struct _ | .array _ _ => true | _ => false) = true) (hi : (P.info? ty).map (·.size) = some cs.size)
    (h : wpStill P ops w Q rest (a.put o.dst (.agg cs))) : wpStill P ops w Q (o :: rest) a := by
  refine wpStill_step (fun K hK => ?_)
  have hw : Region.wanted o (yielded ops a.tmps) = true := by simp [Region.wanted, hgd]
  rw [if_pos hw]
  unfold Oper.still execOp
  simp only [ho, hx, Instr.loadAt, Instr.sureAddr, Sem.run_bind, Sem.run_pure, Result.andThen_ok, run_loadVar_row w g t ty cs fr d hg hu hd hi, Oper.stillUpon_value]
  exact hK _ h
theorem msgInfo : (Try.prog.info? 60).map (·.size) = some 17 := by kernel_rfl
set_option maxRecDepth 100000 in
set_option maxHeartbeats 2000000 in
theorem ack_calls (w : World) (p : Nat) (c : PC) (sent acked : Nat) (mask : BitVec 64) (delivered : Nat) (Vq Ve : Value) (qs : List PB) (es : List FB) (h : PrM w p c sent acked mask delivered Vq Ve qs es)
    (hd : delivered ≤ 18446744073709551615) (he : ∀ f ∈ es, delivered + 2 ≤ f.seq ∧ f.seq ≤ delivered + 64 ∧ f.seq ≤ 18446744073709551615) (hel : es.length ≤ 65536) (hb : ∀ f ∈ es, f.b.length ≤ 140737488351232) :
    Calls Try.prog 91 #[.pointer (some ⟨p, 7, none⟩)] w fun e w' => e = .returned (.agg (outC c.adr 11 delivered (ackM delivered (es.map fun f => (f.seq, f.b))) (.slice none 0 0))) ∧ St No w No w' := by
  have HM := Lib.hid h
  have HE := Lib.hid he
  have hpl := h.ob.lt
  obtain ⟨ea, ec, rfl, _, _, _, _⟩ := h.lf.own.form
  have HF : Hid (Frs w ea (es.map fun f => (f.seq, f.b))) := Lib.hid (h.lf.frs hb)
  obtain ⟨d0, d1, d2, d3, d4, d5, d6, d7, d8, d9, d10, f0, f1, f2, f3, f4, f5, f6, f7, f8, f9, f10⟩ := h.ob.n11
  have hne1 : p ≠ w.heap.size := by omega
  have hne2 : w.heap.size ≠ p := by omega
  have hne3 : p ≠ w.heap.size + 1 := by omega
  have hne4 : w.heap.size + 1 ≠ p := by omega
  have HS0 : Hid (St No w No ((w.alloc (.cells (outC 0 0 0 0 (.slice none 0 0)) 62)).alloc (.cells (ackC delivered 0) 60))) := Lib.hid ((St.alloc' No w _).trans (St.alloc' No _ _))
  have HB0 : Hid (Ob ((w.alloc (.cells (outC 0 0 0 0 (.slice none 0 0)) 62)).alloc (.cells (ackC delivered 0) 60)) w.heap.size 62 (outC 0 0 0 0 (.slice none 0 0))) := Lib.hid ((Ob.alloc w _ _).move ((St.alloc' No _ _).block _ (Ob.alloc w (outC 0 0 0 0 (.slice none 0 0)) 62).lt (fun e => e)))
  have HB1 : Hid (Ob ((w.alloc (.cells (outC 0 0 0 0 (.slice none 0 0)) 62)).alloc (.cells (ackC delivered 0) 60)) (w.heap.size + 1) 60 (ackC delivered 0)) := Lib.hid (by
    have h := Ob.alloc (w.alloc (.cells (outC 0 0 0 0 (.slice none 0 0)) 62)) (ackC delivered 0) 60
    rw [World.size_alloc] at h
    exact h)
  have HLE : Hid ((es.map fun f => (f.seq, f.b)).length = es.length) := Lib.hid (List.length_map ..)
  clear h he hb
  go_enter Try.func91, Try.ntmps91
  go_wp2
  clear d0 d1 d2 d3 d4 d5 d6 d7 d8 d9 d10 f0 f1 f2 f3 f4 f5 f6 f7 f8 f9 f10
  go_loopw [16] (fun i wr => ∃ k : Nat, k ≤ es.length ∧ i = .int .i64 k ∧ Hid (Ob wr w.heap.size 62 (outC 0 0 0 0 (.slice none 0 0))) ∧ Hid (Ob wr (w.heap.size + 1) 60 (ackC delivered (ackM delivered ((es.map fun f => (f.seq, f.b)).take k)))) ∧ Hid (St No w No wr)) (fun i _ => es.length - (intOf i).toNat)
  case atStart => exact ⟨0, Nat.zero_le _, rfl, HB0, HB1, HS0⟩
  case round =>
    obtain ⟨k, hk, rfl, HG0, HG1, HS⟩ := hrel
    obtain ⟨d0, d1, d2, d3, d4, d5, d6, d7, d8, d9, d10, f0, f1, f2, f3, f4, f5, f6, f7, f8, f9, f10⟩ := (HM.out.st HS.out (Dj.no _)).ob.n11
    by_cases hlt : k < es.length
    · have hlm : k < (es.map fun f => (f.seq, f.b)).length := by rw [HLE.out]; exact hlt
      obtain ⟨y, b, d, rfl, hcs, hcx, _, _, _⟩ := (HF.out.st HS.out).get hlm
      have HAM : Hid (ackM delivered ((es.map fun f => (f.seq, f.b)).take (k + 1)) = ackM delivered ((es.map fun f => (f.seq, f.b)).take k) ||| (1#64 <<< (((es.map fun f => (f.seq, f.b))[k]).1 - delivered - 2))) := Lib.hid (by rw [List.take_succ_eq_append_getElem hlm, ackM_app])
      have hfe : ((es.map fun f => (f.seq, f.b))[k]).1 = (es[k]).seq := by rw [List.getElem_map]
      have hse := HE.out es[k] (List.getElem_mem hlt)
      rw [← hfe] at hse
      clear hfe
      generalize (es.map fun f => (f.seq, f.b))[k] = fr at *
      obtain ⟨sq, bs⟩ := fr
      simp only at hcs hcx HAM hse
      have c0 : wr.cell? (y.add (k * 2)) = some (.int .u64 (sq : Int)) := hcs
      have c1 : wr.cell? ⟨(y.add (k * 2)).block, (y.add (k * 2)).off + 1, none⟩ = some (.slice b bs.length d) := hcx
      obtain ⟨sh, hsh⟩ : ∃ sh, sq = delivered + 2 + sh := ⟨sq - delivered - 2, by omega⟩
      have hsl : sh ≤ 62 := by omega
      have w1 : IntKind.u64.wrap ((sq : Int) - (delivered : Int)) = (sh : Int) + 2 := by rw [wrap_u64]; omega
      have w2 : IntKind.u64.wrap ((sh : Int) + 2 - 2) = (sh : Int) := by rw [wrap_u64]; omega
      rw [show sq - delivered - 2 = sh by omega] at HAM
      have HSH := Lib.hid hsh
      have w3 : IntKind.u64.wrap ((2 : Int) ^ sh) = (2 : Int) ^ sh := by
        rw [shl1 sh (by omega), wrap_u64]
        exact Int.emod_eq_of_lt (Int.natCast_nonneg _) (Int.ofNat_lt.mpr (1#64 <<< sh : BitVec 64).isLt)
      have hmin : min sh 64 = sh := by omega
      generalize ackM delivered ((es.map fun f => (f.seq, f.b)).take k) = mk at *
      obtain ⟨mn, hmn⟩ : ∃ mn : BitVec 64, mn = (mk ||| 1#64 <<< sh) := ⟨_, rfl⟩
      have hmb : bits .or .u64 (mk.toNat : Int) ((2 : Int) ^ sh) = (mn.toNat : Int) := by rw [shl1 sh (by omega), bits_or_u64, hmn]
      rw [← hmn] at HAM
      clear hmn
      have m12 : wr.cell? ⟨w.heap.size + 1, 12, none⟩ = some (.int .u64 (mk.toNat : Int)) := by rw [HG1.out.cell 12]; rfl
      have mf12 := HG1.out.free 12
      have hg1 := HG1.out.lt
      have hpr := (HM.out.st HS.out (Dj.no _)).ob.lt
      have n1 : w.heap.size + 1 ≠ wr.heap.size := by omega
      have n2 : wr.heap.size ≠ w.heap.size + 1 := by omega
      have n3 : p ≠ wr.heap.size := by omega
      have n4 : wr.heap.size ≠ p := by omega
      clear hsh
      clear hcs hcx d0 d1 d2 d3 d4 d5 d6 d7 d8 d10 f0 f1 f2 f3 f4 f5 f6 f7 f8 f9 f10
      go_wp2_with fail
      go_region
      have sA : St (fpB0 (w.heap.size + 1)) wr (fpB0 (w.heap.size + 1)) (wr.setCell ⟨w.heap.size + 1, 12, none⟩ (.int .u64 (mn.toNat : Int))) := St.setCell (F := fpB0 (w.heap.size + 1)) _ ⟨w.heap.size + 1, 12, none⟩ _ rfl
      have hA1 := HG1.out.set 12 (.int .u64 (mn.toNat : Int))
      have hA0 := HG0.out.move (sA.block _ HG0.out.lt (fun e => by have e' : w.heap.size = w.heap.size + 1 := e; omega))
      have hSA := HS.out.own sA (by omega)
      go_wp2
      refine ⟨⟨k + 1, by omega, by go_num, ?_, ?_, ?_⟩, by simp [intOf]; omega⟩
      · exact Lib.hid (Ob.drew (hA0.move ((St.alloc' No _ _).block _ hA0.lt (fun e => e))))
      · rw [HAM.out]
        exact Lib.hid (Ob.drew (hA1.move ((St.alloc' No _ _).block _ hA1.lt (fun e => e))))
      · exact Lib.hid ((hSA.trans (St.alloc' No _ _)).trans (St.drew No _))
    · obtain rfl : k = es.length := by omega
      have HAM : Hid (ackM delivered ((es.map fun f => (f.seq, f.b)).take es.length) = ackM delivered (es.map fun f => (f.seq, f.b))) := Lib.hid (by rw [List.take_of_length_le (by rw [HLE.out]; exact Nat.le_refl _)])
      rw [HAM.out] at HG1
      obtain ⟨mk, hmk⟩ : ∃ mk, mk = ackM delivered (es.map fun f => (f.seq, f.b)) := ⟨_, rfl⟩
      rw [← hmk] at HG1
      have HMK := Lib.hid hmk
      clear hmk
      clear d0 d1 d2 d3 d4 d5 d6 d8 d9 d10 f0 f1 f2 f3 f4 f5 f6 f7 f8 f9 f10
      go_wp2_with fail
      refine wp_region_still_tail 6 (by kernel_rfl) (by kernel_rfl) ?_
      simp only [List.take_succ_cons, List.take_zero, List.drop_succ_cons, List.drop_zero]
      still_step
      still_step
      still_step
      still_step
      refine still_load_row rfl 60 (.tmp 3) rfl (w.heap.size + 1) rfl 60 #[.int .u8 11, .int .u64 delivered, .int .u64 0, .int .u64 0, .slice none 0 0, .slice none 0 0, .bool false, .int .u8 0, .int .u8 0, .int .u8 0, .int .u32 0, .int .u32 0, .int .u64 (mk.toNat : Int), .int .u8 0, .slice none 0 0, .slice none 0 0, .slice none 0 0] _ _ HG1.out Try.underlying60 rfl msgInfo ?_
      still_step
      refine wpStill_nil ?_
      change wpList _ _ _ _ _ wr.drew
      have HG2 := Lib.hid (Ob.drew HG0.out)
      have HS2 := Lib.hid (HS.out.trans (St.drew No _))
      clear HG0 HG1 HS
      generalize wr.drew = w2 at *
      refine wpList_store_row rfl 62 (.tmp 2) (.tmp 39) rfl w.heap.size (outC c.adr 11 delivered mk (.slice none 0 0)) rfl rfl 62 _ HG2.out outInfo rfl (by simp [outC, Value.oneCell']) ?_
      have HOX : Hid (Ob (w2.setRow w.heap.size (outC c.adr 11 delivered mk (.slice none 0 0))) w.heap.size 62 (outC c.adr 11 delivered mk (.slice none 0 0))) := Lib.hid (HG2.out.setRow _)
      have HSX : Hid (St No w No (w2.setRow w.heap.size (outC c.adr 11 delivered mk (.slice none 0 0)))) := Lib.hid (HS2.out.own (St.setRow (F := fpB0 w.heap.size) _ _ _ rfl) (Nat.le_refl _))
      clear HG2 HS2
      generalize w2.setRow w.heap.size (outC c.adr 11 delivered mk (.slice none 0 0)) = wx at *
      go_wp2_with fail
      refine bodyPost_ret (results_cell_row rfl _ _ w.heap.size _ _ _ _ rfl HOX.out Try.underlying62 rfl outInfo) rfl ?_
      exact ⟨by rw [← HMK.out], HSX.out⟩
end Go.Proofs.Ytjepmckofocdnaa
