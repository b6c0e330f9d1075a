
/-
  The network's small functions: Clone, twin, blocked, there, Len, New.
-/
import Derived.Test.YtoeafacamapofaaStMap3
import Derived.Test.YtoeafacamapofaaCwHand
namespace Go.Proofs.Ytoeafacamapofaa
open Go.RowKit
set_option linter.unusedVariables false
set_option linter.unusedSimpArgs false

theorem OwB.empty (w : World) : OwB (w.alloc (.cells #[] 5)) (.slice (some ⟨w.heap.size, 0, none⟩) 0 0) [] := by
  have h := Ob.alloc w #[] 5
  exact ⟨rfl, .inr ⟨w.heap.size, 0, #[], rfl, Nat.zero_le _, h, by simp, by unfold maxLen; omega, by simp, by simp [bv]⟩⟩
theorem St.grow0 {w w2 : World} {o : Obj} {n c : Nat} {G : Nat → Prop} (h : St (fpV (.slice (some ⟨w.heap.size, 0, none⟩) n c)) (w.alloc o) G w2) : St No w G w2 := by
  have hs := h.size
  rw [World.size_alloc] at hs
  refine ⟨h.os, h.tape, h.output, by omega, fun k hk _ => ?_, fun k hk => ?_⟩
  · rw [h.block k (by rw [World.size_alloc]; omega) (fun hf => by simp [fpV, Value.ownBlock] at hf; omega)]
    exact Below.heap_alloc w o k hk
  · rcases h.new k hk with hf | hf
    · simp [fpV, Value.ownBlock] at hf; exact .inr (by omega)
    · rw [World.size_alloc] at hf; exact .inr (by omega)
set_option maxRecDepth 100000 in
theorem sclone_calls (a : Option Addr) (c : Nat) (bs : List B8) (hn : bs.length ≤ 140737488351232) (hac : a = none → c = 0) (w : World) (hb : Bs w a bs) :
    Calls Try.prog 100 #[.slice a bs.length c] w fun e w' => ∃ v, e = .returned v ∧ OwB w' v bs ∧ St No w (fpV v) w' := by
  cases a with
  | none =>
    obtain rfl := hb.none_nil
    obtain rfl := hac rfl
    clear hac
    have he := fun W => Lib.run_eql_slice_nil (P := Try.prog) W 25 5 none 0 0 0 0 Try.underlying25
    go_enter Try.func100, Try.ntmps100
    go_wp2
    go_ret
    exact ⟨_, rfl, OwB.nil _, St.refl _ _ |>.drop (fun k hk => by simp [fpV, Value.ownBlock] at hk)⟩
  | some x =>
    have HB := Lib.hid hb
    clear hb hac
    have he := fun W => Lib.run_eql_slice_nil (P := Try.prog) W 25 5 (some x) bs.length c 0 0 Try.underlying25
    go_enter Try.func100, Try.ntmps100
    go_wp2_with (at_builtin; refine wpList_appB rfl (.tmp 5) (.tmp 6) rfl _ [] rfl (OwB.empty w) (some x) bs.length c bs rfl rfl (HB.out.st (St.alloc' No w _) (Dj.no _)) (fun h => by cases h) (by simp; omega) ?_; intro v2 w2 ho2 hs2 hn2; have HO2 := Lib.hid ho2; have HS2 := Lib.hid hs2; clear ho2 hs2 hn2)
    go_ret
    refine ⟨v2, rfl, HO2.out, ?_⟩
    exact St.grow0 HS2.out
theorem Ob.three {w : World} {p : Nat} {T : TypeId} {a b c : Value} (h : Ob w p T #[a, b, c]) : w.cell? ⟨p, 0, none⟩ = some a ∧ w.cell? ⟨p, 1, none⟩ = some b ∧ w.cell? ⟨p, 2, none⟩ = some c ∧
    w.frozen? ⟨p, 0, none⟩ = false ∧ w.frozen? ⟨p, 1, none⟩ = false ∧ w.frozen? ⟨p, 2, none⟩ = false :=
  ⟨by rw [h.cell 0]; rfl, by rw [h.cell 1]; rfl, by rw [h.cell 2]; rfl, h.free 0, h.free 1, h.free 2⟩
theorem lnew2 (w : World) (a b : Obj) : ((w.alloc a).alloc b).heap[w.heap.size + 1]? = some b := by
  have h := heap_alloc_new (w.alloc a) b
  rw [World.size_alloc] at h
  exact h
theorem lmid2 (w : World) (a b : Obj) : ((w.alloc a).alloc b).heap[w.heap.size]? = some a := (Below.heap_alloc _ _ _ (by simp)).trans (heap_alloc_new w a)
/-- a datagram in memory -/
structure DR where
  src : Int
  dst : Int
  a : Option Addr
  c : Nat
  data : List B8
def DR.cells (r : DR) : List Value := [.int .u8 r.src, .int .u8 r.dst, .slice r.a r.data.length r.c]
theorem DR.cells_len (r : DR) : r.cells.length = 3 := rfl
theorem dgInfo : (Try.prog.info? 38).map (fun i => (i.zero, i.size, i.bytes)) = some (some (.agg #[.int .u8 0, .int .u8 0, .slice none 0 0]), 3, 32) := by kernel_rfl
theorem dgInfo3 : (Try.prog.info? 38).map (·.size) = some 3 := by kernel_rfl
set_option maxRecDepth 100000 in
set_option maxHeartbeats 1000000 in
theorem twin_calls (s d : Int) (a : Option Addr) (c : Nat) (bs : List B8) (hn : bs.length ≤ 140737488351232) (hac : a = none → c = 0) (w : World) (hb : Bs w a bs) :
    Calls Try.prog 66 #[.agg #[.int .u8 s, .int .u8 d, .slice a bs.length c]] w fun e w' => ∃ b k, e = .returned (.agg #[.int .u8 s, .int .u8 d, .slice b bs.length k]) ∧ OwB w' (.slice b bs.length k) bs ∧ St No w (fpV (.slice b bs.length k)) w' := by
  have HC : Hid (∀ W, St No w No W → Calls Try.prog 100 #[.slice a bs.length c] W fun e w' => ∃ v, e = .returned v ∧ OwB w' v bs ∧ St No W (fpV v) w') := Lib.hid (fun W st => sclone_calls a c bs hn hac W (hb.st st (Dj.no _)))
  have hu := Try.underlying38
  clear hb hac
  go_enter Try.func66, Try.ntmps66
  go_wp2_with fail
  refine (HC.out _ ((St.alloc' No w _).trans (St.alloc' No _ _))).mono ?_
  rintro e w1 ⟨v, rfl, ho1, hs1⟩
  obtain ⟨va, vc, rfl, _, _, _, _⟩ := ho1.form
  have hT : Ob w1 w.heap.size 38 #[.int .u8 s, .int .u8 d, .slice a bs.length c] := (hs1.block _ (by simp; omega) (fun h => h)).trans (lmid2 w _ _)
  have hR : Ob w1 (w.heap.size + 1) 38 #[.int .u8 0, .int .u8 0, .slice none 0 0] := (hs1.block _ (by simp) (fun h => h)).trans (lnew2 w _ _)
  obtain ⟨c0, c1, c2, e0, e1, e2⟩ := hT.three
  obtain ⟨r0, r1, r2, s0, s1, s2⟩ := hR.three
  have hnw : ∀ q, fpV (.slice va bs.length vc) q → w.heap.size + 2 ≤ q := fun q hq => (hs1.new q hq).elim (fun h => h.elim) (fun h => by simpa using h)
  have HT := Lib.hid hT
  have HR := Lib.hid hR
  have HO1 := Lib.hid ho1
  have HS1 := Lib.hid hs1
  have HNW := Lib.hid hnw
  clear hT hR ho1 hs1 hnw
  go_wp2
  refine bodyPost_ret (results_cell_row rfl _ _ (w.heap.size + 1) _ _ _ _ rfl ((((HR.out.move (Below.heap_setCell w1 ⟨w.heap.size, 2, none⟩ _ _ (by simp))).set 0 _).set 1 _).set 2 _) hu rfl dgInfo3) rfl ?_
  have t := fun x0 x1 x2 x3 => (((St.setCell (F := fun k => k = w.heap.size ∨ k = w.heap.size + 1) w1 ⟨w.heap.size, 2, none⟩ x0 (.inl rfl)).trans (St.setCell _ ⟨w.heap.size + 1, 0, none⟩ x1 (.inr rfl))).trans (St.setCell _ ⟨w.heap.size + 1, 1, none⟩ x2 (.inr rfl))).trans (St.setCell _ ⟨w.heap.size + 1, 2, none⟩ x3 (.inr rfl))
  have h0 := ((St.alloc' No w _).trans (St.alloc' No _ _)).trans HS1.out
  refine ⟨va, vc, rfl, HO1.out.st (t _ _ _ _) (by rintro k (rfl | rfl) hk <;> have := HNW.out _ hk <;> omega), ?_⟩
  refine ⟨(t _ _ _ _).os.trans h0.os, (t _ _ _ _).tape.trans h0.tape, (t _ _ _ _).output.trans h0.output, Nat.le_trans h0.size (t _ _ _ _).size, fun k hk hn => ?_, fun k hk => .inr (by have := HNW.out k hk; omega)⟩
  rw [(t _ _ _ _).block k (Nat.lt_of_lt_of_le hk h0.size) (by omega)]
  exact h0.block k hk hn
theorem linkKey : KeyEq Try.prog 216 (key2 .u8 .u8) where
  check e x w := by obtain ⟨a, c⟩ := x; kernel_rfl
  eq x y w := run_eq2 .u8 .u8 216 28 28 _ _ Try.underlying216 (by kernel_rfl) (by decide) (by decide) rfl rfl rfl rfl Try.underlying28 Try.underlying28 (fun w => by kernel_rfl) (fun w => by kernel_rfl) x y w
  now := ⟨_, Try.underlying216, fun x y => rfl⟩
  stay x w := stay2 .u8 .u8 x w
theorem lookup_none (W : World) (b : Nat) (x y : Int) (h : W.heap[b]? = some (.map #[] 0)) :
    (Instr.lookup 116 (.map (some b)) (.agg #[.int .u8 x, .int .u8 y]) true).run Try.prog W = .ok (.tuple #[.agg #[], .bool false]) W := by
  have hz : (zeroValue 213).run Try.prog W = .ok (.agg #[]) W := by kernel_rfl
  exact run_lookup linkKey Try.underlying116 hz h (x, y) [] rfl true
/-- a list of datagrams in memory, their bytes in D -/
def Dgs (w : World) (V : Value) (D : Nat → Prop) (rs : List DR) : Prop :=
  Own w 38 3 V rs.length (rs.flatMap DR.cells) ∧ In D w ∧ (∀ k, fpV V k → ¬ D k) ∧ ∀ r ∈ rs, Bs w r.a r.data ∧ (∀ k, fpA r.a k → D k) ∧ (r.a = none → r.c = 0) ∧ r.data.length ≤ 1024
/-- the network in memory: its room, its list; nothing is barred -/
def Nt (w : World) (F : Nat → Prop) (p : Nat) (rs : List DR) : Prop :=
  ∃ (b : Nat) (V : Value) (D : Nat → Prop) (k0 k1 k2 k3 k4 k5 k6 : Int), Ob w p 118 #[.int .i64 4096, V, .map (some b), .int .i64 k0, .int .i64 k1, .int .i64 k2, .int .i64 k3, .int .i64 k4, .int .i64 k5, .int .i64 k6] ∧
    w.heap[b]? = some (.map #[] 0) ∧ Dgs w V D rs ∧ ¬ fpV V p ∧ ¬ D p ∧ p ≠ b ∧ ¬ fpV V b ∧ ¬ D b ∧ rs.length ≤ 4096 ∧ ∀ k, F k ↔ k = p ∨ k = b ∨ fpV V k ∨ D k
end Go.Proofs.Ytoeafacamapofaa
