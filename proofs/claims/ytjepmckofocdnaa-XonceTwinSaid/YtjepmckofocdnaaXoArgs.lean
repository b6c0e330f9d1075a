
/-
  The laws' arguments: a step as a message, a setup; a new end by the law's made; fits.
-/
import Derived.Test.YtjepmckofocdnaaRowXo
import Derived.Test.YtjepmckofocdnaaXoComeA
import Derived.Test.YtjepmckofocdnaaXoSent
import Derived.Deep.MidRow
namespace Go.Proofs.Ytjepmckofocdnaa
open Go.RowKit
set_option linter.unusedVariables false
set_option linter.unusedSimpArgs false

/-- a whole struct is loaded, wherever it lies -/
theorem wpList_load_at {P : Program} {ops : Array Oper} {rest : List Oper} {op : Oper} {a : Act} {w : World} {Q : Exit → Act → World → Prop} (hgd : op.guard = none) (ty : TypeId) (x : Operand) (ho : op.op = .load ty x)
    (y : Addr) (hx : a.eval x = .pointer (some y)) (cs : List Value) (d : TypeDesc) (hc : ∀ (j : Nat) (v : Value), cs[j]? = some v → w.cell? (y.add j) = some v)
    (hu : P.underlying ty = some d) (hd : d.isRow = true) (hi : (P.info? ty).map (·.size) = some cs.length)
    (h : wpList P ops Q rest (a.put op.dst (.agg cs.toArray)) w) : wpList P ops Q (op :: rest) a w := by
  have hr : (loadVar ty y).run P w = .ok (.agg cs.toArray) w := by
    have hl : (loadCells y cs.length).run P w = .ok cs.toArray w := run_loadCells_list (P := P) w y cs hc
    cases hq : P.info? ty with
    | none => simp [hq] at hi
    | some i =>
      have hs : i.size = cs.length := by simpa [hq] using hi
      have hagg : (isAgg ty).run P w = .ok true w := by
        unfold isAgg
        rw [Sem.run_bind, run_underlying hu w]
        cases d <;> simp_all
      simp [loadVar, Sem.run_bind, hagg, sizeOf, typeInfo, hq, hs, hl]
  refine wpList_plain hgd fun _ hK => ?_
  unfold Oper.wp execOp
  simp only [ho, hx, Instr.loadAt, Instr.sureAddr, Sem.run_bind, Sem.run_pure, Result.andThen_ok, hr]
  exact hK _ _ h
/-- a step's message -/
def StpR.mv (r : StpR) : MV := ⟨r.m_kind, r.m_seq.toNat, r.m_mask, r.m_key, r.m_hi, (r.m_valueA, r.m_value.length, r.m_valueC), (r.m_oldA, r.m_old.length, r.m_oldC), r.m_has, r.m_of, r.m_status, r.m_host, r.m_grant, r.m_bounds, r.m_limit, (r.m_pairsA, r.m_pairsN, r.m_pairsC), (r.m_sessA, r.m_sessN, r.m_sessC), r.m_payloadA, r.m_payload.length, r.m_payloadC⟩
theorem StpR.cells_mv {w : World} {r : StpR} (h : r.Ok w) : r.cells = .int .i64 r.kind :: .int .i64 r.who :: r.mv.cells.toList := by
  have e : ((r.m_seq.toNat : Nat) : Int) = r.m_seq := by have := h.m_seq.1; omega
  unfold StpR.cells MV.cells StpR.mv
  simp only [e]
theorem StpR.mv_wf {w : World} {r : StpR} (h : r.Ok w) : r.mv.Wf :=
  ⟨by have := h.m_seq; show r.m_seq.toNat ≤ _; omega, h.m_key, h.m_hi, h.m_grant, h.m_bounds, h.m_value.2.1, h.m_old.2.1, h.m_pairs, h.m_sess⟩
theorem stpInfo : (Try.prog.info? 100).map (·.size) = some 19 := by kernel_rfl
theorem StpR.one (r : StpR) : r.cells.toArray.all (·.oneCell') = true := by
  simp [StpR.cells, Value.oneCell']
def fits8B (h q n : Int) : Bool := decide (1 ≤ h ∧ h ≤ 16 ∧ 1 ≤ q ∧ q ≤ 16 ∧ 1 ≤ n ∧ n ≤ q)
set_option maxRecDepth 100000 in
set_option maxHeartbeats 1000000 in
theorem fits8_calls (h q n : Int) (w : World) : Calls Try.prog 34 #[.int .i64 h, .int .i64 q, .int .i64 n] w fun e w' => e = .returned (.bool (fits8B h q n)) ∧ w = w' := by
  by_cases c1 : 1 ≤ h
  case neg =>
    have HB : Hid (fits8B h q n = false) := Lib.hid (decide_eq_false (fun e => c1 e.1))
    go_enter Try.func34, Try.ntmps34
    go_wp2
    go_ret
    exact ⟨by rw [HB.out]; rfl, rfl⟩
  by_cases c2 : h ≤ 16
  case neg =>
    have HB : Hid (fits8B h q n = false) := Lib.hid (decide_eq_false (fun e => c2 e.2.1))
    go_enter Try.func34, Try.ntmps34
    go_wp2
    go_ret
    exact ⟨by rw [HB.out]; rfl, rfl⟩
  by_cases c3 : 1 ≤ q
  case neg =>
    have HB : Hid (fits8B h q n = false) := Lib.hid (decide_eq_false (fun e => c3 e.2.2.1))
    go_enter Try.func34, Try.ntmps34
    go_wp2
    go_ret
    exact ⟨by rw [HB.out]; rfl, rfl⟩
  by_cases c4 : q ≤ 16
  case neg =>
    have HB : Hid (fits8B h q n = false) := Lib.hid (decide_eq_false (fun e => c4 e.2.2.2.1))
    go_enter Try.func34, Try.ntmps34
    go_wp2
    go_ret
    exact ⟨by rw [HB.out]; rfl, rfl⟩
  by_cases c5 : 1 ≤ n
  case neg =>
    have HB : Hid (fits8B h q n = false) := Lib.hid (decide_eq_false (fun e => c5 e.2.2.2.2.1))
    go_enter Try.func34, Try.ntmps34
    go_wp2
    go_ret
    exact ⟨by rw [HB.out]; rfl, rfl⟩
  by_cases c6 : n ≤ q
  case neg =>
    have HB : Hid (fits8B h q n = false) := Lib.hid (decide_eq_false (fun e => c6 e.2.2.2.2.2))
    go_enter Try.func34, Try.ntmps34
    go_wp2
    go_ret
    exact ⟨by rw [HB.out]; rfl, rfl⟩
  have HB : Hid (fits8B h q n = true) := Lib.hid (decide_eq_true ⟨c1, c2, c3, c4, c5, c6⟩)
  go_enter Try.func34, Try.ntmps34
  go_wp2
  go_ret
  exact ⟨by rw [HB.out]; rfl, rfl⟩
set_option maxRecDepth 100000 in
set_option maxHeartbeats 1000000 in
/-- made, by New -/
theorem made_calls (k : EC) (hk : k.Ok) (V : Value) (w : World) :
    Calls Try.prog 17 #[.agg #[.int .i64 k.self, .int .i64 k.hosts, .int .i64 k.room, .int .i64 k.win, .bool false, V]] w (NewJ w k) := by
  have h1 := hk.self
  have h2 := hk.hosts
  have h3 := hk.win1
  have h4 := hk.win
  have h5 := hk.room
  have hnc := new_calls k (by omega) (by omega) (by omega) (by omega) (decide_eq_true (by omega))
  have HNC := Lib.hid hnc
  have wu : IntKind.u8.wrap (k.self : Int) = (k.self : Int) := by simp [IntKind.wrap, IntKind.bits, IntKind.signed]; omega
  have HS : Hid (St No w No (w.alloc (.cells #[.int .i64 k.self, .int .i64 k.hosts, .int .i64 k.room, .int .i64 k.win, .bool false, V] 26))) := Lib.hid (St.alloc' No w _)
  clear hnc h1 h2 h3 h4 h5 hk
  go_enter Try.func17, Try.ntmps17
  go_wp2_with fail
  refine (HNC.out _).mono ?_
  rintro r w2 ⟨F, p, rfl, he, hs⟩
  have HE := Lib.hid he
  have HS2 := Lib.hid (HS.out.trans hs)
  clear he hs
  go_wp2
  go_ret2
  exact ⟨F, p, rfl, HE.out, HS2.out⟩
end Go.Proofs.Ytjepmckofocdnaa
