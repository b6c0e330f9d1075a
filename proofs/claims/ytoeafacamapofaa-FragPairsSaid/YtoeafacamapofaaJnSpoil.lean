
/-
  The statements' spoilSlots; two slots that are told alike.
-/
import Derived.Test.YtoeafacamapofaaJnSlots
namespace Go.Proofs.Ytoeafacamapofaa
open Go.RowKit
set_option linter.unusedVariables false
set_option linter.unusedSimpArgs false

theorem Own.len5 {w : World} {e : Nat} {v : Value} {n : Nat} {xs : List Value} (h : Own w e 5 v n xs) : xs.length = n * 5 := h.1
theorem zeroFS (w : World) : Src (w.alloc (.cells #[.int .u8 98, .int .u64 0, .int .i64 0, .int .i64 0, .int .i64 0] 109)) (some ⟨w.heap.size, 0, none⟩) 1 5 (FS.cells ⟨98, 0, 0, 0, 0⟩) := fsOne w ⟨98, 0, 0, 0, 0⟩
set_option maxRecDepth 100000 in
set_option maxHeartbeats 1000000 in
theorem spoilSlots_calls (v : Value) (n : Nat) (xs : List Value) (hl : n ≤ 2097152) (w : World) (ho : Own w 109 5 v n xs) :
    Calls Try.prog 60 #[v] w (SpOut w v) := by
  obtain ⟨a, c, rfl, hc1, hc2, hfp, hn⟩ := ho.form
  obtain ⟨i, hi, hz, hsz, hby⟩ := info_parts fsinfo
  have HI := Lib.hid hi
  have HZ := Lib.hid hz
  have HSZ := Lib.hid hsz
  have HBY := Lib.hid hby
  have HO := Lib.hid ho
  have HFP := Lib.hid hfp
  have HN := Lib.hid hn
  clear ho hfp hn hc1 hc2 hi hz hsz hby
  go_enter Try.func60, Try.ntmps60
  go_wp2
  go_loopw [2] (fun t wr => ∃ (k : Nat) (ys : List Value), k ≤ n ∧ t = .int .i64 k ∧ Hid (Own wr 109 5 (.slice a n c) n ys) ∧ Hid (St (fpV (.slice a n c)) w (fpV (.slice a n c)) wr)) (fun t _ => n - (intOf t).toNat)
  case atStart => exact ⟨0, xs, by omega, rfl, HO, Lib.hid (St.refl _ _)⟩
  case round =>
    obtain ⟨k, ys, hk, rfl, HOY, HS⟩ := hrel
    by_cases hlt : k < n
    · obtain ⟨g, rfl⟩ : ∃ g, a = some ⟨g, 0, none⟩ := by
        rcases HOY.out.2 with ⟨h, _⟩ | ⟨g, cap, cur, h, _⟩
        · simp at h; omega
        · simp at h; exact ⟨g, h.1⟩
      have hyl := HOY.out.len5
      have hki : (k : Int) < (n : Int) := by omega
      have g0 := HOY.out.cellAt (k * 5) _ (List.getElem?_eq_getElem (by omega))
      have g1 := HOY.out.cellAt (k * 5 + 1) _ (List.getElem?_eq_getElem (by omega))
      have g2 := HOY.out.cellAt (k * 5 + 2) _ (List.getElem?_eq_getElem (by omega))
      have g3 := HOY.out.cellAt (k * 5 + 3) _ (List.getElem?_eq_getElem (by omega))
      have g4 := HOY.out.cellAt (k * 5 + 4) _ (List.getElem?_eq_getElem (by omega))
      have f0 := HOY.out.freeAt (k * 5)
      have f1 := HOY.out.freeAt (k * 5 + 1)
      have f2 := HOY.out.freeAt (k * 5 + 2)
      have f3 := HOY.out.freeAt (k * 5 + 3)
      have f4 := HOY.out.freeAt (k * 5 + 4)
      generalize ys[k * 5]'(by omega) = u0 at g0
      generalize ys[k * 5 + 1]'(by omega) = u1 at g1
      generalize ys[k * 5 + 2]'(by omega) = u2 at g2
      generalize ys[k * 5 + 3]'(by omega) = u3 at g3
      generalize ys[k * 5 + 4]'(by omega) = u4 at g4
      clear hyl
      go_wp2
      have hF : fpV (.slice (some ⟨g, 0, none⟩) n c) g := by simp [fpV, Value.ownBlock]
      have ht := fun x0 x1 x2 x3 x4 => ((((St.setCell (F := fpV (.slice (some ⟨g, 0, none⟩) n c)) wr ⟨g, k * 5, none⟩ x0 hF).trans (St.setCell _ ⟨g, k * 5 + 1, none⟩ x1 hF)).trans (St.setCell _ ⟨g, k * 5 + 2, none⟩ x2 hF)).trans (St.setCell _ ⟨g, k * 5 + 3, none⟩ x3 hF)).trans (St.setCell _ ⟨g, k * 5 + 4, none⟩ x4 hF)
      refine ⟨⟨k + 1, _, by omega, by simp, Lib.hid (((((HOY.out.set (k * 5) _).set (k * 5 + 1) _).set (k * 5 + 2) _).set (k * 5 + 3) _).set (k * 5 + 4) _), Lib.hid (HS.out.trans (ht _ _ _ _ _))⟩, by simp [intOf]; omega⟩
    · obtain rfl : k = n := by omega
      have HO1 := HOY
      have HS1 := HS
      obtain ⟨wo, rfl⟩ : ∃ wo : World, wo = wr := ⟨_, rfl⟩
      clear HOY HS
      go_wp2
      go_loopw [0, 3] (fun v t wr => ∃ (j : Nat) (zs : List Value), j ≤ 9 ∧ t = .int .i64 j ∧ Hid (Own wr 109 5 v (k + j) zs) ∧ Hid (St (fpV (.slice a k c)) w (fpV v) wr)) (fun _ t _ => 9 - (intOf t).toNat)
      case atStart => exact ⟨0, ys, by omega, rfl, HO1, HS1⟩
      case round =>
        clear HO1 HS1
        obtain ⟨j, zs, hj, rfl, HOZ, HSZ2⟩ := hrel
        by_cases hlt2 : j < 9
        · go_wp2_with (at_builtin; refine wpList_app rfl (.tmp 18) (.tmp 20) 86 rfl 109 i _ 5 40 Try.underlying86 HI.out HZ.out HSZ.out HBY.out rfl (by decide) _ (k + j) zs rfl (HOZ.out.st (St.alloc' No wr _) (Dj.no _)) (some ⟨wr.heap.size, 0, none⟩) 1 1 (FS.cells ⟨98, 0, 0, 0, 0⟩) rfl (zeroFS wr) (fun h => by cases h) (by unfold maxLen; omega) (by omega) ?_; intro v2 w2 ho2 hs2 hn2; have HO2 := Lib.hid ho2; have HS2 := Lib.hid (hs2.oneB); clear ho2 hs2 hn2)
          go_roundw
          case rel => exact ⟨j + 1, _, by omega, by go_num, HO2, Lib.hid (HSZ2.out.trans HS2.out)⟩
          case measure => simp [intOf]; omega
        · obtain rfl : j = 9 := by omega
          go_wp2
          go_end0
          exact ⟨rfl, _, HSZ2.out⟩
section
variable {P : Program}
theorem run_eq_int5 (t t1 t2 t3 t4 t5 : TypeId) (f1 f2 f3 f4 f5 : Field) (ht : P.underlying t = some (.struct #[f1, f2, f3, f4, f5])) (hp : P.stoodInHeld t = false)
    (h1 : f1.name ≠ "_") (h2 : f2.name ≠ "_") (h3 : f3.name ≠ "_") (h4 : f4.name ≠ "_") (h5 : f5.name ≠ "_") (o1 : f1.offset = 0) (o2 : f2.offset = 1) (o3 : f3.offset = 2) (o4 : f4.offset = 3) (o5 : f5.offset = 4)
    (e1 : f1.type = t1) (e2 : f2.type = t2) (e3 : f3.type = t3) (e4 : f4.type = t4) (e5 : f5.type = t5) (k1 k2 k3 k4 k5 : IntKind)
    (hu1 : P.underlying t1 = some (.int k1)) (hu2 : P.underlying t2 = some (.int k2)) (hu3 : P.underlying t3 = some (.int k3)) (hu4 : P.underlying t4 = some (.int k4)) (hu5 : P.underlying t5 = some (.int k5))
    (ha1 : ∀ w, (isAgg t1).run P w = .ok false w) (ha2 : ∀ w, (isAgg t2).run P w = .ok false w) (ha3 : ∀ w, (isAgg t3).run P w = .ok false w) (ha4 : ∀ w, (isAgg t4).run P w = .ok false w) (ha5 : ∀ w, (isAgg t5).run P w = .ok false w)
    (a b c d e : Int) (w : World) :
    (Op.equal t (.agg #[.int k1 a, .int k2 b, .int k3 c, .int k4 d, .int k5 e]) (.agg #[.int k1 a, .int k2 b, .int k3 c, .int k4 d, .int k5 e])).run P w = .ok true w := by
  have hf : P.fieldsOf t = #[f1, f2, f3, f4, f5] := by unfold Program.fieldsOf; rw [ht]
  unfold Op.equal
  rw [show Op.maxDepth = (9998 + 1) + 1 from rfl, run_equalIn_struct w (9998 + 1) t _ _ (by rw [hf]; exact ht) hp, hf]
  have p1 : ∀ (u1 u2 u3 u4 u5 : Value) (w : World), (part t1 #[u1, u2, u3, u4, u5] 0).run P w = .ok u1 w := fun u1 u2 u3 u4 u5 w => by simp [part, ha1, Result.andThen]
  have p2 : ∀ (u1 u2 u3 u4 u5 : Value) (w : World), (part t2 #[u1, u2, u3, u4, u5] 1).run P w = .ok u2 w := fun u1 u2 u3 u4 u5 w => by simp [part, ha2, Result.andThen]
  have p3 : ∀ (u1 u2 u3 u4 u5 : Value) (w : World), (part t3 #[u1, u2, u3, u4, u5] 2).run P w = .ok u3 w := fun u1 u2 u3 u4 u5 w => by simp [part, ha3, Result.andThen]
  have p4 : ∀ (u1 u2 u3 u4 u5 : Value) (w : World), (part t4 #[u1, u2, u3, u4, u5] 3).run P w = .ok u4 w := fun u1 u2 u3 u4 u5 w => by simp [part, ha4, Result.andThen]
  have p5 : ∀ (u1 u2 u3 u4 u5 : Value) (w : World), (part t5 #[u1, u2, u3, u4, u5] 4).run P w = .ok u5 w := fun u1 u2 u3 u4 u5 w => by simp [part, ha5, Result.andThen]
  have q1 : ∀ (a : Int) (w : World), (Op.equalIn (9998 + 1) t1 (.int k1 a) (.int k1 a)).run P w = .ok (a == a) w := fun a w => run_equalIn_int w 9998 t1 k1 k1 a a hu1
  have q2 : ∀ (a : Int) (w : World), (Op.equalIn (9998 + 1) t2 (.int k2 a) (.int k2 a)).run P w = .ok (a == a) w := fun a w => run_equalIn_int w 9998 t2 k2 k2 a a hu2
  have q3 : ∀ (a : Int) (w : World), (Op.equalIn (9998 + 1) t3 (.int k3 a) (.int k3 a)).run P w = .ok (a == a) w := fun a w => run_equalIn_int w 9998 t3 k3 k3 a a hu3
  have q4 : ∀ (a : Int) (w : World), (Op.equalIn (9998 + 1) t4 (.int k4 a) (.int k4 a)).run P w = .ok (a == a) w := fun a w => run_equalIn_int w 9998 t4 k4 k4 a a hu4
  have q5 : ∀ (a : Int) (w : World), (Op.equalIn (9998 + 1) t5 (.int k5 a) (.int k5 a)).run P w = .ok (a == a) w := fun a w => run_equalIn_int w 9998 t5 k5 k5 a a hu5
  simp only [Nat.reduceAdd] at q1 q2 q3 q4 q5
  simp [Op.eqFields, h1, h2, h3, h4, h5, e1, e2, e3, e4, e5, o1, o2, o3, o4, o5, p1, p2, p3, p4, p5, Result.andThen, q1, q2, q3, q4, q5]
end
theorem run_neq_fs (r : FS) (w : World) : (binOp .neq 109 (.agg r.cells.toArray) (.agg r.cells.toArray)).run Try.prog w = .ok (.bool false) w := by
  have h := run_eq_int5 109 28 43 3 3 3 _ _ _ _ _ Try.underlying109 (by kernel_rfl) (by decide) (by decide) (by decide) (by decide) (by decide) rfl rfl rfl rfl rfl rfl rfl rfl rfl rfl .u8 .u64 .i64 .i64 .i64
    Try.underlying28 Try.underlying43 Try.underlying3 Try.underlying3 Try.underlying3 (fun w => by kernel_rfl) (fun w => by kernel_rfl) (fun w => by kernel_rfl) (fun w => by kernel_rfl) (fun w => by kernel_rfl) r.frm r.id r.got r.count r.age w
  simp only [FS.cells, List.toArray]
  simp [binOp, h, Result.andThen]
end Go.Proofs.Ytoeafacamapofaa
