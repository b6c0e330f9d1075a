
/-
  The walks over the statements' things: isThing, num, thing.
-/
import Derived.Test.YtfhoekcmkbeabaaCwWriting
import Derived.Test.YtfhoekcmkbeabaaCwHand
import Derived.Test.YtfhoekcmkbeabaaCwLists
import Derived.Laws.ResultCell
namespace Go.Proofs.Ytfhoekcmkbeabaa
open Go.RowKit
set_option linter.unusedVariables false
set_option linter.unusedSimpArgs false

theorem isThing_calls (k : Int) (w : World) : Calls Try.prog 33 #[.int .i64 k] w fun e w' => e = .returned (.bool (decide (1 ≤ k) && decide (k ≤ 9))) ∧ w = w' := by
  by_cases h1 : 1 ≤ k
  · by_cases h9 : k ≤ 9
    · go_enter Try.func33, Try.ntmps33
      go_wp2
      go_ret
      exact ⟨by simp [h1, h9], rfl⟩
    · go_enter Try.func33, Try.ntmps33
      go_wp2
      go_ret
      exact ⟨by simp [h1, h9], rfl⟩
  · go_enter Try.func33, Try.ntmps33
    go_wp2
    go_ret
    exact ⟨by rw [decide_eq_false (Int.not_le.2 h1)]; rfl, rfl⟩
theorem num_calls (k : Int) (w : World) : Calls Try.prog 32 #[.int .i64 k] w fun e w' => e = .returned (.int .i64 k) ∧ w = w' := by
  go_enter Try.func32, Try.ntmps32
  go_wp2
  go_ret
  exact ⟨rfl, rfl⟩

/-- what of a step its kind has -/
def Th.norm (t : Th) : Th :=
  ⟨t.kind, (if t.kind = 1 then (t.n.setWidth 8).setWidth 64 else if t.kind = 2 then (t.n.setWidth 16).setWidth 64 else if t.kind = 3 then (t.n.setWidth 32).setWidth 64 else if t.kind = 4 ∨ t.kind = 5 then t.n else 0),
    (if t.kind = 6 then t.i else 0), (if t.kind = 7 then t.f else false), (if t.kind = 8 ∨ t.kind = 9 then t.a else none), (if t.kind = 8 ∨ t.kind = 9 then t.c else 0), (if t.kind = 8 ∨ t.kind = 9 then t.bs else [])⟩
theorem Th.norm_ok {w : World} {t : Th} (h : t.ok w) : t.norm.ok w := by
  obtain ⟨h1, h2, h3, h4, h5⟩ := h
  unfold Th.norm
  constructor
  · show _ ≤ ite _ _ _; split <;> omega
  · show ite _ _ _ ≤ _; split <;> omega
  · show (ite _ _ _ : List B8).length ≤ _; split; exact h3; simp
  · show ite _ _ _ = none → ite _ _ _ = 0; split; exact h4; exact fun _ => rfl
  · show Bs w (ite _ _ _) (ite _ _ _); split; exact h5; exact Rd.nil _ _
theorem Th.norm_fp {t : Th} {F : Nat → Prop} (h : Apart F t.a t.bs) : Apart F t.norm.a t.norm.bs := by
  unfold Th.norm
  show Apart F (ite _ _ _) (ite _ _ _)
  split
  · exact h
  · exact .inl rfl
theorem mid3 (w : World) (a b c : Obj) : (((w.alloc a).alloc b).alloc c).heap[w.heap.size + 1]? = some b := by
  have h := heap_alloc_new (w.alloc a) b
  rw [World.size_alloc] at h
  exact (Below.heap_alloc _ _ _ (by simp)).trans h
theorem cut8 (n : BitVec 64) : (((n.setWidth 8).setWidth 64).toNat : Int) = (n.toNat : Int) % 256 := by
  simp [BitVec.toNat_setWidth]; omega
theorem cut16 (n : BitVec 64) : (((n.setWidth 16).setWidth 64).toNat : Int) = IntKind.u64.wrap (IntKind.u16.wrap (n.toNat : Int)) := by
  rw [IntKind.wrap_u16, wrap_u64]; simp [BitVec.toNat_setWidth]
theorem cut32 (n : BitVec 64) : (((n.setWidth 32).setWidth 64).toNat : Int) = (n.toNat : Int) % 4294967296 := by
  simp [BitVec.toNat_setWidth]; omega
def ThPost (w : World) (t : Th) (e : Ending) (w' : World) : Prop := e = .returned (.agg t.cells) ∧ St No w No w'
set_option maxRecDepth 100000 in
set_option maxHeartbeats 1000000 in
theorem thing1 (n : BitVec 64) (i : Int) (f : Bool) (a : Option Addr) (c : Nat) (bs : List B8) (w : World) :
    Calls Try.prog 34 #[.agg #[.int .i64 1, .int .u64 (n.toNat : Int), .int .i64 i, .bool f, .slice a bs.length c]] w (ThPost w ⟨1, (n.setWidth 8).setWidth 64, 0, false, none, 0, []⟩) := by
  have hu := Try.underlying51
  have hx := n.isLt
  go_enter Try.func34, Try.ntmps34
  go_wp2
  refine bodyPost_ret (results_cell_row rfl _ _ (w.heap.size + 1) _ _ _ _ rfl (mid3 w _ _ _) hu rfl rfl) rfl ?_
  refine ⟨?_, ((St.alloc' No w _).trans (St.alloc' No _ _)).trans (St.alloc' No _ _)⟩
  simp only [Th.cells, cut8, cut16, cut32]
  try rfl
set_option maxRecDepth 100000 in
set_option maxHeartbeats 1000000 in
theorem thing2 (n : BitVec 64) (i : Int) (f : Bool) (a : Option Addr) (c : Nat) (bs : List B8) (w : World) :
    Calls Try.prog 34 #[.agg #[.int .i64 2, .int .u64 (n.toNat : Int), .int .i64 i, .bool f, .slice a bs.length c]] w (ThPost w ⟨2, (n.setWidth 16).setWidth 64, 0, false, none, 0, []⟩) := by
  have hu := Try.underlying51
  have hx := n.isLt
  go_enter Try.func34, Try.ntmps34
  go_wp2
  refine bodyPost_ret (results_cell_row rfl _ _ (w.heap.size + 1) _ _ _ _ rfl (mid3 w _ _ _) hu rfl rfl) rfl ?_
  refine ⟨?_, ((St.alloc' No w _).trans (St.alloc' No _ _)).trans (St.alloc' No _ _)⟩
  simp only [Th.cells, cut8, cut16, cut32]
  try rfl
set_option maxRecDepth 100000 in
set_option maxHeartbeats 1000000 in
theorem thing3 (n : BitVec 64) (i : Int) (f : Bool) (a : Option Addr) (c : Nat) (bs : List B8) (w : World) :
    Calls Try.prog 34 #[.agg #[.int .i64 3, .int .u64 (n.toNat : Int), .int .i64 i, .bool f, .slice a bs.length c]] w (ThPost w ⟨3, (n.setWidth 32).setWidth 64, 0, false, none, 0, []⟩) := by
  have hu := Try.underlying51
  have hx := n.isLt
  go_enter Try.func34, Try.ntmps34
  go_wp2
  refine bodyPost_ret (results_cell_row rfl _ _ (w.heap.size + 1) _ _ _ _ rfl (mid3 w _ _ _) hu rfl rfl) rfl ?_
  refine ⟨?_, ((St.alloc' No w _).trans (St.alloc' No _ _)).trans (St.alloc' No _ _)⟩
  simp only [Th.cells, cut8, cut16, cut32]
  try rfl
set_option maxRecDepth 100000 in
set_option maxHeartbeats 1000000 in
theorem thing4 (n : BitVec 64) (i : Int) (f : Bool) (a : Option Addr) (c : Nat) (bs : List B8) (w : World) :
    Calls Try.prog 34 #[.agg #[.int .i64 4, .int .u64 (n.toNat : Int), .int .i64 i, .bool f, .slice a bs.length c]] w (ThPost w ⟨4, n, 0, false, none, 0, []⟩) := by
  have hu := Try.underlying51
  have hx := n.isLt
  go_enter Try.func34, Try.ntmps34
  go_wp2
  refine bodyPost_ret (results_cell_row rfl _ _ (w.heap.size + 1) _ _ _ _ rfl (mid3 w _ _ _) hu rfl rfl) rfl ?_
  refine ⟨?_, ((St.alloc' No w _).trans (St.alloc' No _ _)).trans (St.alloc' No _ _)⟩
  simp only [Th.cells, cut8, cut16, cut32]
  try rfl
set_option maxRecDepth 100000 in
set_option maxHeartbeats 1000000 in
theorem thing5 (n : BitVec 64) (i : Int) (f : Bool) (a : Option Addr) (c : Nat) (bs : List B8) (w : World) :
    Calls Try.prog 34 #[.agg #[.int .i64 5, .int .u64 (n.toNat : Int), .int .i64 i, .bool f, .slice a bs.length c]] w (ThPost w ⟨5, n, 0, false, none, 0, []⟩) := by
  have hu := Try.underlying51
  have hx := n.isLt
  go_enter Try.func34, Try.ntmps34
  go_wp2
  refine bodyPost_ret (results_cell_row rfl _ _ (w.heap.size + 1) _ _ _ _ rfl (mid3 w _ _ _) hu rfl rfl) rfl ?_
  refine ⟨?_, ((St.alloc' No w _).trans (St.alloc' No _ _)).trans (St.alloc' No _ _)⟩
  simp only [Th.cells, cut8, cut16, cut32]
  try rfl
set_option maxRecDepth 100000 in
set_option maxHeartbeats 1000000 in
theorem thing6 (n : BitVec 64) (i : Int) (f : Bool) (a : Option Addr) (c : Nat) (bs : List B8) (w : World) :
    Calls Try.prog 34 #[.agg #[.int .i64 6, .int .u64 (n.toNat : Int), .int .i64 i, .bool f, .slice a bs.length c]] w (ThPost w ⟨6, 0, i, false, none, 0, []⟩) := by
  have hu := Try.underlying51
  have hx := n.isLt
  go_enter Try.func34, Try.ntmps34
  go_wp2
  refine bodyPost_ret (results_cell_row rfl _ _ (w.heap.size + 1) _ _ _ _ rfl (mid3 w _ _ _) hu rfl rfl) rfl ?_
  refine ⟨?_, ((St.alloc' No w _).trans (St.alloc' No _ _)).trans (St.alloc' No _ _)⟩
  simp only [Th.cells, cut8, cut16, cut32]
  try rfl
set_option maxRecDepth 100000 in
set_option maxHeartbeats 1000000 in
theorem thing7 (n : BitVec 64) (i : Int) (f : Bool) (a : Option Addr) (c : Nat) (bs : List B8) (w : World) :
    Calls Try.prog 34 #[.agg #[.int .i64 7, .int .u64 (n.toNat : Int), .int .i64 i, .bool f, .slice a bs.length c]] w (ThPost w ⟨7, 0, 0, f, none, 0, []⟩) := by
  have hu := Try.underlying51
  have hx := n.isLt
  go_enter Try.func34, Try.ntmps34
  go_wp2
  refine bodyPost_ret (results_cell_row rfl _ _ (w.heap.size + 1) _ _ _ _ rfl (mid3 w _ _ _) hu rfl rfl) rfl ?_
  refine ⟨?_, ((St.alloc' No w _).trans (St.alloc' No _ _)).trans (St.alloc' No _ _)⟩
  simp only [Th.cells, cut8, cut16, cut32]
  try rfl
set_option maxRecDepth 100000 in
set_option maxHeartbeats 1000000 in
theorem thing8 (n : BitVec 64) (i : Int) (f : Bool) (a : Option Addr) (c : Nat) (bs : List B8) (w : World) :
    Calls Try.prog 34 #[.agg #[.int .i64 8, .int .u64 (n.toNat : Int), .int .i64 i, .bool f, .slice a bs.length c]] w (ThPost w ⟨8, 0, 0, false, a, c, bs⟩) := by
  have hu := Try.underlying51
  have hx := n.isLt
  go_enter Try.func34, Try.ntmps34
  go_wp2
  refine bodyPost_ret (results_cell_row rfl _ _ (w.heap.size + 1) _ _ _ _ rfl (mid3 w _ _ _) hu rfl rfl) rfl ?_
  refine ⟨?_, ((St.alloc' No w _).trans (St.alloc' No _ _)).trans (St.alloc' No _ _)⟩
  simp only [Th.cells, cut8, cut16, cut32]
  try rfl
set_option maxRecDepth 100000 in
set_option maxHeartbeats 1000000 in
theorem thing9 (n : BitVec 64) (i : Int) (f : Bool) (a : Option Addr) (c : Nat) (bs : List B8) (w : World) :
    Calls Try.prog 34 #[.agg #[.int .i64 9, .int .u64 (n.toNat : Int), .int .i64 i, .bool f, .slice a bs.length c]] w (ThPost w ⟨9, 0, 0, false, a, c, bs⟩) := by
  have hu := Try.underlying51
  have hx := n.isLt
  go_enter Try.func34, Try.ntmps34
  go_wp2
  refine bodyPost_ret (results_cell_row rfl _ _ (w.heap.size + 1) _ _ _ _ rfl (mid3 w _ _ _) hu rfl rfl) rfl ?_
  refine ⟨?_, ((St.alloc' No w _).trans (St.alloc' No _ _)).trans (St.alloc' No _ _)⟩
  simp only [Th.cells, cut8, cut16, cut32]
  try rfl
theorem thing_calls (t : Th) (h1 : 1 ≤ t.kind) (h9 : t.kind ≤ 9) (w : World) : Calls Try.prog 34 #[.agg t.cells] w (ThPost w t.norm) := by
  obtain ⟨k, n, i, f, a, c, bs⟩ := t
  simp only at h1 h9
  rcases (by omega : k = 1 ∨ k = 2 ∨ k = 3 ∨ k = 4 ∨ k = 5 ∨ k = 6 ∨ k = 7 ∨ k = 8 ∨ k = 9) with rfl | rfl | rfl | rfl | rfl | rfl | rfl | rfl | rfl
  · exact thing1 n i f a c bs w
  · exact thing2 n i f a c bs w
  · exact thing3 n i f a c bs w
  · exact thing4 n i f a c bs w
  · exact thing5 n i f a c bs w
  · exact thing6 n i f a c bs w
  · exact thing7 n i f a c bs w
  · exact thing8 n i f a c bs w
  · exact thing9 n i f a c bs w
end Go.Proofs.Ytfhoekcmkbeabaa
