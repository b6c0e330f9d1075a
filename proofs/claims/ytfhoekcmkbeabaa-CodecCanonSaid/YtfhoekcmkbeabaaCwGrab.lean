
/-
  The walk over the statements' take: a thing taken by the program's reader.
-/
import Derived.Test.YtfhoekcmkbeabaaCwReader7
import Derived.Laws.ResultCell
import Derived.Laws.Tables
namespace Go.Proofs.Ytfhoekcmkbeabaa
open Go.RowKit
set_option linter.unusedVariables false
set_option linter.unusedSimpArgs false

/-- what is taken -/
structure Tk where
  n : BitVec 64
  i : Int
  f : Bool
  bs : List B8
def tkT (th : Bool) (s : RS) (k m : Int) : Tk :=
  if k = 1 then ⟨((numT th s 1).setWidth 8).setWidth 64, 0, false, []⟩ else if k = 2 then ⟨((numT th s 2).setWidth 16).setWidth 64, 0, false, []⟩ else if k = 3 then ⟨((numT th s 4).setWidth 32).setWidth 64, 0, false, []⟩
  else if k = 4 then ⟨numT th s 8, 0, false, []⟩ else if k = 5 then ⟨varT th s, 0, false, []⟩ else if k = 6 then ⟨0, unzig (varT th s), false, []⟩ else if k = 7 then ⟨0, 0, flagT th s, []⟩
  else if k = 8 then ⟨0, 0, false, rawB th s m⟩ else ⟨0, 0, false, blockB th s m⟩
def RS.tk (s : RS) (k m : Int) : RS :=
  if k = 1 then s.took 1 else if k = 2 then s.took 2 else if k = 3 then s.took 4 else if k = 4 then s.took 8 else if k = 5 ∨ k = 6 then s.var else if k = 7 then s.flag else if k = 8 then s.raw m else s.block m
/-- a thing in new memory -/
def Tk.cells (t : Tk) (k : Int) (V : Value) : Array Value := #[.int .i64 k, .int .u64 (t.n.toNat : Int), .int .i64 t.i, .bool t.f, V]
def GrabPost (w : World) (v : Value) (th : Bool) (p : Nat) (D : Nat → Prop) (s : RS) (k m : Int) (e : Ending) (w' : World) : Prop :=
  ∃ V, e = .returned (.agg ((tkT th s k m).cells k V)) ∧ OwB w' V (tkT th s k m).bs ∧ Rh w' v th p D (s.tk k m) ∧ St (fpP p) w (fun q => fpP p q ∨ fpV V q) w' ∧ (∀ q, fpV V q → w.heap.size ≤ q)
def RT (w : World) : Nat → Prop := fun k => k = w.heap.size ∨ k = w.heap.size + 1
theorem grab_frame {w : World} {p : Nat} {D : Nat → Prop} {v : Value} {th : Bool} {s : RS} {V : Value} {bs : List B8} {w1 w2 : World} {o1 o2 : Obj} (hp : p < w.heap.size) (hD : In D w)
    (hr : Rh w1 v th p D s) (ho : OwB w1 V bs) (hs : St (fpP p) ((w.alloc o1).alloc o2) (fun q => fpP p q ∨ fpV V q) w1) (hV : ∀ q, fpV V q → w.heap.size + 2 ≤ q) (t1 : St (RT w) w1 (RT w) w2) :
    OwB w2 V bs ∧ Rh w2 v th p D s ∧ St (fpP p) w (fun q => fpP p q ∨ fpV V q) w2 := by
  have hp1 : ¬ (p = w.heap.size ∨ p = w.heap.size + 1) := by omega
  have s0 : St (fpP p) w (fpP p) ((w.alloc o1).alloc o2) := (St.alloc' _ w _).trans (St.alloc' _ _ _)
  refine ⟨ho.st t1 ?_, hr.st t1 hp1 ?_, ?_⟩
  · rintro k (rfl | rfl) hk <;> have := hV _ hk <;> omega
  · rintro k (rfl | rfl) hk <;> have := hD _ hk <;> omega
  · have s01 := s0.trans hs
    refine ⟨t1.os.trans s01.os, t1.tape.trans s01.tape, t1.output.trans s01.output, Nat.le_trans s01.size t1.size, fun k hk hn => ?_, ?_⟩
    · rw [t1.block k (Nat.lt_of_lt_of_le hk s01.size) (by unfold RT; omega)]
      exact s01.block k hk hn
    · exact s01.new
theorem grab_post {w : World} {p : Nat} {D : Nat → Prop} {v : Value} {th : Bool} {s : RS} {V : Value} {bs : List B8} {w1 w2 : World} {o1 o2 : Obj} (hp : p < w.heap.size) (hD : In D w)
    (hr : Rh w1 v th p D s) (ho : OwB w1 V bs) (hs : St (fpP p) ((w.alloc o1).alloc o2) (fun q => fpP p q ∨ fpV V q) w1) (hV : ∀ q, fpV V q → w.heap.size + 2 ≤ q) (t1 : St (RT w) w1 (RT w) w2) :
    OwB w2 V bs ∧ Rh w2 v th p D s ∧ St (fpP p) w (fun q => fpP p q ∨ fpV V q) w2 ∧ (∀ q, fpV V q → w.heap.size ≤ q) := by
  obtain ⟨h1, h2, h3⟩ := grab_frame hp hD hr ho hs hV t1
  exact ⟨h1, h2, h3, fun q hq => by have := hV q hq; omega⟩
theorem Ob.five {w : World} {p : Nat} {T : TypeId} {a b c d e : Value} (h : Ob w p T #[a, b, c, d, e]) : w.cell? ⟨p, 0, none⟩ = some a ∧ w.cell? ⟨p, 1, none⟩ = some b ∧ w.cell? ⟨p, 2, none⟩ = some c ∧ w.cell? ⟨p, 3, none⟩ = some d ∧ w.cell? ⟨p, 4, none⟩ = some e ∧
    w.frozen? ⟨p, 0, none⟩ = false ∧ w.frozen? ⟨p, 1, none⟩ = false ∧ w.frozen? ⟨p, 2, none⟩ = false ∧ w.frozen? ⟨p, 3, none⟩ = false ∧ w.frozen? ⟨p, 4, none⟩ = false :=
  ⟨by rw [h.cell 0]; rfl, by rw [h.cell 1]; rfl, by rw [h.cell 2]; rfl, by rw [h.cell 3]; rfl, by rw [h.cell 4]; rfl, h.free 0, h.free 1, h.free 2, h.free 3, h.free 4⟩
theorem grabCut8 (x : BitVec 64) (X : Int) (h : X = (x.toNat : Int) % 256 ∨ X = IntKind.u64.wrap ((x.toNat : Int) % 256) ∨ X = ((x.setWidth 8).toNat : Int) ∨ X = IntKind.u64.wrap ((x.setWidth 8).toNat : Int)) : X = (((x.setWidth 8).setWidth 64).toNat : Int) := by
  have h1 := (x.setWidth 8).isLt
  have h2 : ((x.setWidth 8).toNat : Int) = (x.toNat : Int) % 256 := by rw [BitVec.toNat_setWidth]; omega
  rw [BitVec.toNat_setWidth 64, Nat.mod_eq_of_lt (by omega)]
  rcases h with rfl | rfl | rfl | rfl
  · exact h2.symm
  · rw [wrap_u64]; omega
  · rfl
  · rw [wrap_u64]; omega
theorem grabCut16 (x : BitVec 64) (X : Int) (h : X = (x.toNat : Int) % 65536 ∨ X = IntKind.u64.wrap ((x.toNat : Int) % 65536) ∨ X = ((x.setWidth 16).toNat : Int) ∨ X = IntKind.u64.wrap ((x.setWidth 16).toNat : Int)) : X = (((x.setWidth 16).setWidth 64).toNat : Int) := by
  have h1 := (x.setWidth 16).isLt
  have h2 : ((x.setWidth 16).toNat : Int) = (x.toNat : Int) % 65536 := by rw [BitVec.toNat_setWidth]; omega
  rw [BitVec.toNat_setWidth 64, Nat.mod_eq_of_lt (by omega)]
  rcases h with rfl | rfl | rfl | rfl
  · exact h2.symm
  · rw [wrap_u64]; omega
  · rfl
  · rw [wrap_u64]; omega
theorem grabCut32 (x : BitVec 64) (X : Int) (h : X = (x.toNat : Int) % 4294967296 ∨ X = IntKind.u64.wrap ((x.toNat : Int) % 4294967296) ∨ X = ((x.setWidth 32).toNat : Int) ∨ X = IntKind.u64.wrap ((x.setWidth 32).toNat : Int)) : X = (((x.setWidth 32).setWidth 64).toNat : Int) := by
  have h1 := (x.setWidth 32).isLt
  have h2 : ((x.setWidth 32).toNat : Int) = (x.toNat : Int) % 4294967296 := by rw [BitVec.toNat_setWidth]; omega
  rw [BitVec.toNat_setWidth 64, Nat.mod_eq_of_lt (by omega)]
  rcases h with rfl | rfl | rfl | rfl
  · exact h2.symm
  · rw [wrap_u64]; omega
  · rfl
  · rw [wrap_u64]; omega
theorem mid2 (w : World) (a b : Obj) : ((w.alloc a).alloc b).heap[w.heap.size]? = some a := by
  exact (Below.heap_alloc _ _ _ (by simp)).trans (heap_alloc_new w a)
theorem new2 (w : World) (a b : Obj) : ((w.alloc a).alloc b).heap[w.heap.size + 1]? = some b := by
  have h := heap_alloc_new (w.alloc a) b
  rw [World.size_alloc] at h
  exact h
theorem thInfo : (Try.prog.info? 51).map (·.size) = some 5 := by kernel_rfl
set_option maxRecDepth 100000 in
set_option maxHeartbeats 1000000 in
theorem grab1 (m : Int) (hm : m ≤ 9223372036854775807) (w : World) (v : Value) (th : Bool) (p : Nat) (D : Nat → Prop) (hD : In D w) (hp : p < w.heap.size) (s : RS) (hl : s.rest.length ≤ 140737488351232) (h : Rh w v th p D s) :
    Calls Try.prog 47 #[v, .int .i64 1, .int .i64 m] w (GrabPost w v th p D s 1 m) := by
  have HH := Lib.hid h
  have HD := Lib.hid hD
  have HS0 : Hid (∀ o1 o2, St No w No ((w.alloc o1).alloc o2)) := Lib.hid (fun o1 o2 => (St.alloc' No w _).trans (St.alloc' No _ _))
  have hu := Try.underlying51
  clear h hD
  go_enter Try.func47, Try.ntmps47
  go_wp2_with fail
  refine (rU8_calls _ v th p D s (HH.out.st (HS0.out _ _) (fun h => h) (Dj.no _))).mono ?_
  rintro e w1 ⟨hr1, hs1, rfl⟩
  have HR1 := Lib.hid hr1
  have HS1 := Lib.hid hs1
  have hT : Ob w1 (w.heap.size + 1) 51 #[.int .i64 1, .int .u64 0, .int .i64 0, .bool false, .slice none 0 0] := (hs1.block _ (by simp) (fun hf => by have : w.heap.size + 1 = p := hf; omega)).trans (new2 w _ _)
  have hR : Ob w1 w.heap.size 51 #[.int .i64 0, .int .u64 0, .int .i64 0, .bool false, .slice none 0 0] := (hs1.block _ (by simp; omega) (fun hf => by have : w.heap.size = p := hf; omega)).trans (mid2 w _ _)
  obtain ⟨c0, c1, c2, c3, c4, e0, e1, e2, e3, e4⟩ := hT.five
  obtain ⟨r0, r1, r2, r3, r4, s0, s1, s2, s3, s4⟩ := hR.five
  have HT := Lib.hid hT
  have HR := Lib.hid hR
  have HP := Lib.hid hp
  clear hr1 hs1 hT hR hp
  obtain ⟨x, hx⟩ : ∃ x, numT th s 1 = x := ⟨_, rfl⟩
  have HX := Lib.hid hx
  have HCUT := Lib.hid (grabCut8 x)
  rw [hx]
  clear hx
  go_wp2
  refine bodyPost_ret (results_cell_row rfl _ _ w.heap.size _ _ _ _ rfl (((((((HR.out.move (Below.heap_setCell w1 ⟨w.heap.size + 1, 1, none⟩ _ _ (by simp))).set 0 _).set 1 _).set 2 _).set 3 _).set 4 _)) hu rfl thInfo) rfl ?_
  refine ⟨.slice none 0 0, ?_, grab_post HP.out HD.out HR1.out (OwB.nil _) (HS1.out.drop (fun q hq => hq.elim .inl (fun h => absurd h (by simp [fpV, Value.ownBlock])))) (fun q hq => absurd hq (by simp [fpV, Value.ownBlock])) ((((((St.setCell (F := RT w) w1 ⟨w.heap.size + 1, 1, none⟩ _ (.inr rfl)).trans (St.setCell _ ⟨w.heap.size, 0, none⟩ _ (.inl rfl))).trans (St.setCell _ ⟨w.heap.size, 1, none⟩ _ (.inl rfl))).trans (St.setCell _ ⟨w.heap.size, 2, none⟩ _ (.inl rfl))).trans (St.setCell _ ⟨w.heap.size, 3, none⟩ _ (.inl rfl))).trans (St.setCell _ ⟨w.heap.size, 4, none⟩ _ (.inl rfl)))⟩
  rw [show tkT th s 1 m = ⟨((numT th s 1).setWidth 8).setWidth 64, 0, false, []⟩ from rfl, HX.out]
  exact congrArg (fun y => Ending.returned (.agg #[.int .i64 1, .int .u64 y, .int .i64 0, .bool false, .slice none 0 0])) (HCUT.out _ (by first | exact .inl rfl | exact .inr (.inl rfl) | exact .inr (.inr (.inl rfl)) | exact .inr (.inr (.inr rfl))))
set_option maxRecDepth 100000 in
set_option maxHeartbeats 1000000 in
theorem grab2 (m : Int) (hm : m ≤ 9223372036854775807) (w : World) (v : Value) (th : Bool) (p : Nat) (D : Nat → Prop) (hD : In D w) (hp : p < w.heap.size) (s : RS) (hl : s.rest.length ≤ 140737488351232) (h : Rh w v th p D s) :
    Calls Try.prog 47 #[v, .int .i64 2, .int .i64 m] w (GrabPost w v th p D s 2 m) := by
  have HH := Lib.hid h
  have HD := Lib.hid hD
  have HS0 : Hid (∀ o1 o2, St No w No ((w.alloc o1).alloc o2)) := Lib.hid (fun o1 o2 => (St.alloc' No w _).trans (St.alloc' No _ _))
  have hu := Try.underlying51
  clear h hD
  go_enter Try.func47, Try.ntmps47
  go_wp2_with fail
  refine (rU16_calls _ v th p D s (HH.out.st (HS0.out _ _) (fun h => h) (Dj.no _))).mono ?_
  rintro e w1 ⟨hr1, hs1, rfl⟩
  have HR1 := Lib.hid hr1
  have HS1 := Lib.hid hs1
  have hT : Ob w1 (w.heap.size + 1) 51 #[.int .i64 2, .int .u64 0, .int .i64 0, .bool false, .slice none 0 0] := (hs1.block _ (by simp) (fun hf => by have : w.heap.size + 1 = p := hf; omega)).trans (new2 w _ _)
  have hR : Ob w1 w.heap.size 51 #[.int .i64 0, .int .u64 0, .int .i64 0, .bool false, .slice none 0 0] := (hs1.block _ (by simp; omega) (fun hf => by have : w.heap.size = p := hf; omega)).trans (mid2 w _ _)
  obtain ⟨c0, c1, c2, c3, c4, e0, e1, e2, e3, e4⟩ := hT.five
  obtain ⟨r0, r1, r2, r3, r4, s0, s1, s2, s3, s4⟩ := hR.five
  have HT := Lib.hid hT
  have HR := Lib.hid hR
  have HP := Lib.hid hp
  clear hr1 hs1 hT hR hp
  obtain ⟨x, hx⟩ : ∃ x, numT th s 2 = x := ⟨_, rfl⟩
  have HX := Lib.hid hx
  have HCUT := Lib.hid (grabCut16 x)
  rw [hx]
  clear hx
  go_wp2
  refine bodyPost_ret (results_cell_row rfl _ _ w.heap.size _ _ _ _ rfl (((((((HR.out.move (Below.heap_setCell w1 ⟨w.heap.size + 1, 1, none⟩ _ _ (by simp))).set 0 _).set 1 _).set 2 _).set 3 _).set 4 _)) hu rfl thInfo) rfl ?_
  refine ⟨.slice none 0 0, ?_, grab_post HP.out HD.out HR1.out (OwB.nil _) (HS1.out.drop (fun q hq => hq.elim .inl (fun h => absurd h (by simp [fpV, Value.ownBlock])))) (fun q hq => absurd hq (by simp [fpV, Value.ownBlock])) ((((((St.setCell (F := RT w) w1 ⟨w.heap.size + 1, 1, none⟩ _ (.inr rfl)).trans (St.setCell _ ⟨w.heap.size, 0, none⟩ _ (.inl rfl))).trans (St.setCell _ ⟨w.heap.size, 1, none⟩ _ (.inl rfl))).trans (St.setCell _ ⟨w.heap.size, 2, none⟩ _ (.inl rfl))).trans (St.setCell _ ⟨w.heap.size, 3, none⟩ _ (.inl rfl))).trans (St.setCell _ ⟨w.heap.size, 4, none⟩ _ (.inl rfl)))⟩
  rw [show tkT th s 2 m = ⟨((numT th s 2).setWidth 16).setWidth 64, 0, false, []⟩ from rfl, HX.out]
  exact congrArg (fun y => Ending.returned (.agg #[.int .i64 2, .int .u64 y, .int .i64 0, .bool false, .slice none 0 0])) (HCUT.out _ (by first | exact .inl rfl | exact .inr (.inl rfl) | exact .inr (.inr (.inl rfl)) | exact .inr (.inr (.inr rfl))))
set_option maxRecDepth 100000 in
set_option maxHeartbeats 1000000 in
theorem grab3 (m : Int) (hm : m ≤ 9223372036854775807) (w : World) (v : Value) (th : Bool) (p : Nat) (D : Nat → Prop) (hD : In D w) (hp : p < w.heap.size) (s : RS) (hl : s.rest.length ≤ 140737488351232) (h : Rh w v th p D s) :
    Calls Try.prog 47 #[v, .int .i64 3, .int .i64 m] w (GrabPost w v th p D s 3 m) := by
  have HH := Lib.hid h
  have HD := Lib.hid hD
  have HS0 : Hid (∀ o1 o2, St No w No ((w.alloc o1).alloc o2)) := Lib.hid (fun o1 o2 => (St.alloc' No w _).trans (St.alloc' No _ _))
  have hu := Try.underlying51
  clear h hD
  go_enter Try.func47, Try.ntmps47
  go_wp2_with fail
  refine (rU32_calls _ v th p D s (HH.out.st (HS0.out _ _) (fun h => h) (Dj.no _))).mono ?_
  rintro e w1 ⟨hr1, hs1, rfl⟩
  have HR1 := Lib.hid hr1
  have HS1 := Lib.hid hs1
  have hT : Ob w1 (w.heap.size + 1) 51 #[.int .i64 3, .int .u64 0, .int .i64 0, .bool false, .slice none 0 0] := (hs1.block _ (by simp) (fun hf => by have : w.heap.size + 1 = p := hf; omega)).trans (new2 w _ _)
  have hR : Ob w1 w.heap.size 51 #[.int .i64 0, .int .u64 0, .int .i64 0, .bool false, .slice none 0 0] := (hs1.block _ (by simp; omega) (fun hf => by have : w.heap.size = p := hf; omega)).trans (mid2 w _ _)
  obtain ⟨c0, c1, c2, c3, c4, e0, e1, e2, e3, e4⟩ := hT.five
  obtain ⟨r0, r1, r2, r3, r4, s0, s1, s2, s3, s4⟩ := hR.five
  have HT := Lib.hid hT
  have HR := Lib.hid hR
  have HP := Lib.hid hp
  clear hr1 hs1 hT hR hp
  obtain ⟨x, hx⟩ : ∃ x, numT th s 4 = x := ⟨_, rfl⟩
  have HX := Lib.hid hx
  have HCUT := Lib.hid (grabCut32 x)
  rw [hx]
  clear hx
  go_wp2
  refine bodyPost_ret (results_cell_row rfl _ _ w.heap.size _ _ _ _ rfl (((((((HR.out.move (Below.heap_setCell w1 ⟨w.heap.size + 1, 1, none⟩ _ _ (by simp))).set 0 _).set 1 _).set 2 _).set 3 _).set 4 _)) hu rfl thInfo) rfl ?_
  refine ⟨.slice none 0 0, ?_, grab_post HP.out HD.out HR1.out (OwB.nil _) (HS1.out.drop (fun q hq => hq.elim .inl (fun h => absurd h (by simp [fpV, Value.ownBlock])))) (fun q hq => absurd hq (by simp [fpV, Value.ownBlock])) ((((((St.setCell (F := RT w) w1 ⟨w.heap.size + 1, 1, none⟩ _ (.inr rfl)).trans (St.setCell _ ⟨w.heap.size, 0, none⟩ _ (.inl rfl))).trans (St.setCell _ ⟨w.heap.size, 1, none⟩ _ (.inl rfl))).trans (St.setCell _ ⟨w.heap.size, 2, none⟩ _ (.inl rfl))).trans (St.setCell _ ⟨w.heap.size, 3, none⟩ _ (.inl rfl))).trans (St.setCell _ ⟨w.heap.size, 4, none⟩ _ (.inl rfl)))⟩
  rw [show tkT th s 3 m = ⟨((numT th s 4).setWidth 32).setWidth 64, 0, false, []⟩ from rfl, HX.out]
  exact congrArg (fun y => Ending.returned (.agg #[.int .i64 3, .int .u64 y, .int .i64 0, .bool false, .slice none 0 0])) (HCUT.out _ (by first | exact .inl rfl | exact .inr (.inl rfl) | exact .inr (.inr (.inl rfl)) | exact .inr (.inr (.inr rfl))))
set_option maxRecDepth 100000 in
set_option maxHeartbeats 1000000 in
theorem grab4 (m : Int) (hm : m ≤ 9223372036854775807) (w : World) (v : Value) (th : Bool) (p : Nat) (D : Nat → Prop) (hD : In D w) (hp : p < w.heap.size) (s : RS) (hl : s.rest.length ≤ 140737488351232) (h : Rh w v th p D s) :
    Calls Try.prog 47 #[v, .int .i64 4, .int .i64 m] w (GrabPost w v th p D s 4 m) := by
  have HH := Lib.hid h
  have HD := Lib.hid hD
  have HS0 : Hid (∀ o1 o2, St No w No ((w.alloc o1).alloc o2)) := Lib.hid (fun o1 o2 => (St.alloc' No w _).trans (St.alloc' No _ _))
  have hu := Try.underlying51
  clear h hD
  go_enter Try.func47, Try.ntmps47
  go_wp2_with fail
  refine (rU64_calls _ v th p D s (HH.out.st (HS0.out _ _) (fun h => h) (Dj.no _))).mono ?_
  rintro e w1 ⟨hr1, hs1, rfl⟩
  have HR1 := Lib.hid hr1
  have HS1 := Lib.hid hs1
  have hT : Ob w1 (w.heap.size + 1) 51 #[.int .i64 4, .int .u64 0, .int .i64 0, .bool false, .slice none 0 0] := (hs1.block _ (by simp) (fun hf => by have : w.heap.size + 1 = p := hf; omega)).trans (new2 w _ _)
  have hR : Ob w1 w.heap.size 51 #[.int .i64 0, .int .u64 0, .int .i64 0, .bool false, .slice none 0 0] := (hs1.block _ (by simp; omega) (fun hf => by have : w.heap.size = p := hf; omega)).trans (mid2 w _ _)
  obtain ⟨c0, c1, c2, c3, c4, e0, e1, e2, e3, e4⟩ := hT.five
  obtain ⟨r0, r1, r2, r3, r4, s0, s1, s2, s3, s4⟩ := hR.five
  have HT := Lib.hid hT
  have HR := Lib.hid hR
  have HP := Lib.hid hp
  clear hr1 hs1 hT hR hp
  obtain ⟨x, hx⟩ : ∃ x, numT th s 8 = x := ⟨_, rfl⟩
  have HX := Lib.hid hx
  rw [hx]
  clear hx
  go_wp2
  refine bodyPost_ret (results_cell_row rfl _ _ w.heap.size _ _ _ _ rfl (((((((HR.out.move (Below.heap_setCell w1 ⟨w.heap.size + 1, 1, none⟩ _ _ (by simp))).set 0 _).set 1 _).set 2 _).set 3 _).set 4 _)) hu rfl thInfo) rfl ?_
  refine ⟨.slice none 0 0, ?_, grab_post HP.out HD.out HR1.out (OwB.nil _) (HS1.out.drop (fun q hq => hq.elim .inl (fun h => absurd h (by simp [fpV, Value.ownBlock])))) (fun q hq => absurd hq (by simp [fpV, Value.ownBlock])) ((((((St.setCell (F := RT w) w1 ⟨w.heap.size + 1, 1, none⟩ _ (.inr rfl)).trans (St.setCell _ ⟨w.heap.size, 0, none⟩ _ (.inl rfl))).trans (St.setCell _ ⟨w.heap.size, 1, none⟩ _ (.inl rfl))).trans (St.setCell _ ⟨w.heap.size, 2, none⟩ _ (.inl rfl))).trans (St.setCell _ ⟨w.heap.size, 3, none⟩ _ (.inl rfl))).trans (St.setCell _ ⟨w.heap.size, 4, none⟩ _ (.inl rfl)))⟩
  rw [show tkT th s 4 m = ⟨numT th s 8, 0, false, []⟩ from rfl, HX.out]
  rfl
set_option maxRecDepth 100000 in
set_option maxHeartbeats 1000000 in
theorem grab5 (m : Int) (hm : m ≤ 9223372036854775807) (w : World) (v : Value) (th : Bool) (p : Nat) (D : Nat → Prop) (hD : In D w) (hp : p < w.heap.size) (s : RS) (hl : s.rest.length ≤ 140737488351232) (h : Rh w v th p D s) :
    Calls Try.prog 47 #[v, .int .i64 5, .int .i64 m] w (GrabPost w v th p D s 5 m) := by
  have HH := Lib.hid h
  have HD := Lib.hid hD
  have HS0 : Hid (∀ o1 o2, St No w No ((w.alloc o1).alloc o2)) := Lib.hid (fun o1 o2 => (St.alloc' No w _).trans (St.alloc' No _ _))
  have hu := Try.underlying51
  clear h hD
  go_enter Try.func47, Try.ntmps47
  go_wp2_with fail
  refine (rVarint_calls _ v th p D s (by omega) (HH.out.st (HS0.out _ _) (fun h => h) (Dj.no _))).mono ?_
  rintro e w1 ⟨hr1, hs1, rfl⟩
  have HR1 := Lib.hid hr1
  have HS1 := Lib.hid hs1
  have hT : Ob w1 (w.heap.size + 1) 51 #[.int .i64 5, .int .u64 0, .int .i64 0, .bool false, .slice none 0 0] := (hs1.block _ (by simp) (fun hf => by have : w.heap.size + 1 = p := hf; omega)).trans (new2 w _ _)
  have hR : Ob w1 w.heap.size 51 #[.int .i64 0, .int .u64 0, .int .i64 0, .bool false, .slice none 0 0] := (hs1.block _ (by simp; omega) (fun hf => by have : w.heap.size = p := hf; omega)).trans (mid2 w _ _)
  obtain ⟨c0, c1, c2, c3, c4, e0, e1, e2, e3, e4⟩ := hT.five
  obtain ⟨r0, r1, r2, r3, r4, s0, s1, s2, s3, s4⟩ := hR.five
  have HT := Lib.hid hT
  have HR := Lib.hid hR
  have HP := Lib.hid hp
  clear hr1 hs1 hT hR hp
  obtain ⟨x, hx⟩ : ∃ x, varT th s = x := ⟨_, rfl⟩
  have HX := Lib.hid hx
  rw [hx]
  clear hx
  go_wp2
  refine bodyPost_ret (results_cell_row rfl _ _ w.heap.size _ _ _ _ rfl (((((((HR.out.move (Below.heap_setCell w1 ⟨w.heap.size + 1, 1, none⟩ _ _ (by simp))).set 0 _).set 1 _).set 2 _).set 3 _).set 4 _)) hu rfl thInfo) rfl ?_
  refine ⟨.slice none 0 0, ?_, grab_post HP.out HD.out HR1.out (OwB.nil _) (HS1.out.drop (fun q hq => hq.elim .inl (fun h => absurd h (by simp [fpV, Value.ownBlock])))) (fun q hq => absurd hq (by simp [fpV, Value.ownBlock])) ((((((St.setCell (F := RT w) w1 ⟨w.heap.size + 1, 1, none⟩ _ (.inr rfl)).trans (St.setCell _ ⟨w.heap.size, 0, none⟩ _ (.inl rfl))).trans (St.setCell _ ⟨w.heap.size, 1, none⟩ _ (.inl rfl))).trans (St.setCell _ ⟨w.heap.size, 2, none⟩ _ (.inl rfl))).trans (St.setCell _ ⟨w.heap.size, 3, none⟩ _ (.inl rfl))).trans (St.setCell _ ⟨w.heap.size, 4, none⟩ _ (.inl rfl)))⟩
  rw [show tkT th s 5 m = ⟨varT th s, 0, false, []⟩ from rfl, HX.out]
  rfl
set_option maxRecDepth 100000 in
set_option maxHeartbeats 1000000 in
theorem grab6 (m : Int) (hm : m ≤ 9223372036854775807) (w : World) (v : Value) (th : Bool) (p : Nat) (D : Nat → Prop) (hD : In D w) (hp : p < w.heap.size) (s : RS) (hl : s.rest.length ≤ 140737488351232) (h : Rh w v th p D s) :
    Calls Try.prog 47 #[v, .int .i64 6, .int .i64 m] w (GrabPost w v th p D s 6 m) := by
  have HH := Lib.hid h
  have HD := Lib.hid hD
  have HS0 : Hid (∀ o1 o2, St No w No ((w.alloc o1).alloc o2)) := Lib.hid (fun o1 o2 => (St.alloc' No w _).trans (St.alloc' No _ _))
  have hu := Try.underlying51
  clear h hD
  go_enter Try.func47, Try.ntmps47
  go_wp2_with fail
  refine (rSigned_calls _ v th p D s (by omega) (HH.out.st (HS0.out _ _) (fun h => h) (Dj.no _))).mono ?_
  rintro e w1 ⟨hr1, hs1, rfl⟩
  have HR1 := Lib.hid hr1
  have HS1 := Lib.hid hs1
  have hT : Ob w1 (w.heap.size + 1) 51 #[.int .i64 6, .int .u64 0, .int .i64 0, .bool false, .slice none 0 0] := (hs1.block _ (by simp) (fun hf => by have : w.heap.size + 1 = p := hf; omega)).trans (new2 w _ _)
  have hR : Ob w1 w.heap.size 51 #[.int .i64 0, .int .u64 0, .int .i64 0, .bool false, .slice none 0 0] := (hs1.block _ (by simp; omega) (fun hf => by have : w.heap.size = p := hf; omega)).trans (mid2 w _ _)
  obtain ⟨c0, c1, c2, c3, c4, e0, e1, e2, e3, e4⟩ := hT.five
  obtain ⟨r0, r1, r2, r3, r4, s0, s1, s2, s3, s4⟩ := hR.five
  have HT := Lib.hid hT
  have HR := Lib.hid hR
  have HP := Lib.hid hp
  clear hr1 hs1 hT hR hp
  obtain ⟨x, hx⟩ : ∃ x, unzig (varT th s) = x := ⟨_, rfl⟩
  have HX := Lib.hid hx
  rw [hx]
  clear hx
  go_wp2
  refine bodyPost_ret (results_cell_row rfl _ _ w.heap.size _ _ _ _ rfl (((((((HR.out.move (Below.heap_setCell w1 ⟨w.heap.size + 1, 2, none⟩ _ _ (by simp))).set 0 _).set 1 _).set 2 _).set 3 _).set 4 _)) hu rfl thInfo) rfl ?_
  refine ⟨.slice none 0 0, ?_, grab_post HP.out HD.out HR1.out (OwB.nil _) (HS1.out.drop (fun q hq => hq.elim .inl (fun h => absurd h (by simp [fpV, Value.ownBlock])))) (fun q hq => absurd hq (by simp [fpV, Value.ownBlock])) ((((((St.setCell (F := RT w) w1 ⟨w.heap.size + 1, 2, none⟩ _ (.inr rfl)).trans (St.setCell _ ⟨w.heap.size, 0, none⟩ _ (.inl rfl))).trans (St.setCell _ ⟨w.heap.size, 1, none⟩ _ (.inl rfl))).trans (St.setCell _ ⟨w.heap.size, 2, none⟩ _ (.inl rfl))).trans (St.setCell _ ⟨w.heap.size, 3, none⟩ _ (.inl rfl))).trans (St.setCell _ ⟨w.heap.size, 4, none⟩ _ (.inl rfl)))⟩
  rw [show tkT th s 6 m = ⟨0, unzig (varT th s), false, []⟩ from rfl, HX.out]
  rfl
set_option maxRecDepth 100000 in
set_option maxHeartbeats 1000000 in
theorem grab7 (m : Int) (hm : m ≤ 9223372036854775807) (w : World) (v : Value) (th : Bool) (p : Nat) (D : Nat → Prop) (hD : In D w) (hp : p < w.heap.size) (s : RS) (hl : s.rest.length ≤ 140737488351232) (h : Rh w v th p D s) :
    Calls Try.prog 47 #[v, .int .i64 7, .int .i64 m] w (GrabPost w v th p D s 7 m) := by
  have HH := Lib.hid h
  have HD := Lib.hid hD
  have HS0 : Hid (∀ o1 o2, St No w No ((w.alloc o1).alloc o2)) := Lib.hid (fun o1 o2 => (St.alloc' No w _).trans (St.alloc' No _ _))
  have hu := Try.underlying51
  clear h hD
  go_enter Try.func47, Try.ntmps47
  go_wp2_with fail
  refine (rFlag_calls _ v th p D s (HH.out.st (HS0.out _ _) (fun h => h) (Dj.no _))).mono ?_
  rintro e w1 ⟨hr1, hs1, rfl⟩
  have HR1 := Lib.hid hr1
  have HS1 := Lib.hid hs1
  have hT : Ob w1 (w.heap.size + 1) 51 #[.int .i64 7, .int .u64 0, .int .i64 0, .bool false, .slice none 0 0] := (hs1.block _ (by simp) (fun hf => by have : w.heap.size + 1 = p := hf; omega)).trans (new2 w _ _)
  have hR : Ob w1 w.heap.size 51 #[.int .i64 0, .int .u64 0, .int .i64 0, .bool false, .slice none 0 0] := (hs1.block _ (by simp; omega) (fun hf => by have : w.heap.size = p := hf; omega)).trans (mid2 w _ _)
  obtain ⟨c0, c1, c2, c3, c4, e0, e1, e2, e3, e4⟩ := hT.five
  obtain ⟨r0, r1, r2, r3, r4, s0, s1, s2, s3, s4⟩ := hR.five
  have HT := Lib.hid hT
  have HR := Lib.hid hR
  have HP := Lib.hid hp
  clear hr1 hs1 hT hR hp
  obtain ⟨x, hx⟩ : ∃ x, flagT th s = x := ⟨_, rfl⟩
  have HX := Lib.hid hx
  rw [hx]
  clear hx
  go_wp2
  refine bodyPost_ret (results_cell_row rfl _ _ w.heap.size _ _ _ _ rfl (((((((HR.out.move (Below.heap_setCell w1 ⟨w.heap.size + 1, 3, none⟩ _ _ (by simp))).set 0 _).set 1 _).set 2 _).set 3 _).set 4 _)) hu rfl thInfo) rfl ?_
  refine ⟨.slice none 0 0, ?_, grab_post HP.out HD.out HR1.out (OwB.nil _) (HS1.out.drop (fun q hq => hq.elim .inl (fun h => absurd h (by simp [fpV, Value.ownBlock])))) (fun q hq => absurd hq (by simp [fpV, Value.ownBlock])) ((((((St.setCell (F := RT w) w1 ⟨w.heap.size + 1, 3, none⟩ _ (.inr rfl)).trans (St.setCell _ ⟨w.heap.size, 0, none⟩ _ (.inl rfl))).trans (St.setCell _ ⟨w.heap.size, 1, none⟩ _ (.inl rfl))).trans (St.setCell _ ⟨w.heap.size, 2, none⟩ _ (.inl rfl))).trans (St.setCell _ ⟨w.heap.size, 3, none⟩ _ (.inl rfl))).trans (St.setCell _ ⟨w.heap.size, 4, none⟩ _ (.inl rfl)))⟩
  rw [show tkT th s 7 m = ⟨0, 0, flagT th s, []⟩ from rfl, HX.out]
  rfl
set_option maxRecDepth 100000 in
set_option maxHeartbeats 1000000 in
theorem grab8 (m : Int) (hm : m ≤ 9223372036854775807) (w : World) (v : Value) (th : Bool) (p : Nat) (D : Nat → Prop) (hD : In D w) (hp : p < w.heap.size) (s : RS) (hl : s.rest.length ≤ 140737488351232) (h : Rh w v th p D s) :
    Calls Try.prog 47 #[v, .int .i64 8, .int .i64 m] w (GrabPost w v th p D s 8 m) := by
  have HH := Lib.hid h
  have HD := Lib.hid hD
  have HS0 : Hid (∀ o1 o2, St No w No ((w.alloc o1).alloc o2)) := Lib.hid (fun o1 o2 => (St.alloc' No w _).trans (St.alloc' No _ _))
  have hu := Try.underlying51
  clear h hD
  go_enter Try.func47, Try.ntmps47
  go_wp2_with fail
  refine (rRaw2_calls m (by omega) _ v th p D (HD.out.st (HS0.out _ _)) (fun _ => by simp; omega) s hl (HH.out.st (HS0.out _ _) (fun h => h) (Dj.no _))).mono ?_
  rintro e w1 ⟨V, rfl, ho1, hr1, hs1, hv1⟩
  obtain ⟨va, vc, rfl, hvc1, hvc2, hvfp, hvn⟩ := ho1.form
  have HV1 : Hid (∀ q, fpV (.slice va (rawB th s m).length vc) q → w.heap.size + 2 ≤ q) := Lib.hid (fun q hq => by have := hv1 q hq; simpa using this)
  have HO1 := Lib.hid ho1
  have HR1 := Lib.hid hr1
  have HS1 := Lib.hid hs1
  have hT : Ob w1 (w.heap.size + 1) 51 #[.int .i64 8, .int .u64 0, .int .i64 0, .bool false, .slice none 0 0] := (hs1.block _ (by simp) (fun hf => by have : w.heap.size + 1 = p := hf; omega)).trans (new2 w _ _)
  have hR : Ob w1 w.heap.size 51 #[.int .i64 0, .int .u64 0, .int .i64 0, .bool false, .slice none 0 0] := (hs1.block _ (by simp; omega) (fun hf => by have : w.heap.size = p := hf; omega)).trans (mid2 w _ _)
  obtain ⟨c0, c1, c2, c3, c4, e0, e1, e2, e3, e4⟩ := hT.five
  obtain ⟨r0, r1, r2, r3, r4, s0, s1, s2, s3, s4⟩ := hR.five
  have HT := Lib.hid hT
  have HR := Lib.hid hR
  have HP := Lib.hid hp
  clear hr1 hs1 hT hR hp ho1 hv1 hvfp hvn
  go_wp2
  refine bodyPost_ret (results_cell_row rfl _ _ w.heap.size _ _ _ _ rfl (((((((HR.out.move (Below.heap_setCell w1 ⟨w.heap.size + 1, 4, none⟩ _ _ (by simp))).set 0 _).set 1 _).set 2 _).set 3 _).set 4 _)) hu rfl thInfo) rfl ?_
  exact ⟨_, rfl, grab_post HP.out HD.out HR1.out HO1.out HS1.out HV1.out ((((((St.setCell (F := RT w) w1 ⟨w.heap.size + 1, 4, none⟩ _ (.inr rfl)).trans (St.setCell _ ⟨w.heap.size, 0, none⟩ _ (.inl rfl))).trans (St.setCell _ ⟨w.heap.size, 1, none⟩ _ (.inl rfl))).trans (St.setCell _ ⟨w.heap.size, 2, none⟩ _ (.inl rfl))).trans (St.setCell _ ⟨w.heap.size, 3, none⟩ _ (.inl rfl))).trans (St.setCell _ ⟨w.heap.size, 4, none⟩ _ (.inl rfl)))⟩
set_option maxRecDepth 100000 in
set_option maxHeartbeats 1000000 in
theorem grab9 (m : Int) (hm : m ≤ 9223372036854775807) (w : World) (v : Value) (th : Bool) (p : Nat) (D : Nat → Prop) (hD : In D w) (hp : p < w.heap.size) (s : RS) (hl : s.rest.length ≤ 140737488351232) (h : Rh w v th p D s) :
    Calls Try.prog 47 #[v, .int .i64 9, .int .i64 m] w (GrabPost w v th p D s 9 m) := by
  have HH := Lib.hid h
  have HD := Lib.hid hD
  have HS0 : Hid (∀ o1 o2, St No w No ((w.alloc o1).alloc o2)) := Lib.hid (fun o1 o2 => (St.alloc' No w _).trans (St.alloc' No _ _))
  have hu := Try.underlying51
  clear h hD
  go_enter Try.func47, Try.ntmps47
  go_wp2_with fail
  refine (rBlock_calls m (by omega) _ v th p D (HD.out.st (HS0.out _ _)) (fun _ => by simp; omega) s hl (HH.out.st (HS0.out _ _) (fun h => h) (Dj.no _))).mono ?_
  rintro e w1 ⟨V, rfl, ho1, hr1, hs1, hv1⟩
  obtain ⟨va, vc, rfl, hvc1, hvc2, hvfp, hvn⟩ := ho1.form
  have HV1 : Hid (∀ q, fpV (.slice va (blockB th s m).length vc) q → w.heap.size + 2 ≤ q) := Lib.hid (fun q hq => by have := hv1 q hq; simpa using this)
  have HO1 := Lib.hid ho1
  have HR1 := Lib.hid hr1
  have HS1 := Lib.hid hs1
  have hT : Ob w1 (w.heap.size + 1) 51 #[.int .i64 9, .int .u64 0, .int .i64 0, .bool false, .slice none 0 0] := (hs1.block _ (by simp) (fun hf => by have : w.heap.size + 1 = p := hf; omega)).trans (new2 w _ _)
  have hR : Ob w1 w.heap.size 51 #[.int .i64 0, .int .u64 0, .int .i64 0, .bool false, .slice none 0 0] := (hs1.block _ (by simp; omega) (fun hf => by have : w.heap.size = p := hf; omega)).trans (mid2 w _ _)
  obtain ⟨c0, c1, c2, c3, c4, e0, e1, e2, e3, e4⟩ := hT.five
  obtain ⟨r0, r1, r2, r3, r4, s0, s1, s2, s3, s4⟩ := hR.five
  have HT := Lib.hid hT
  have HR := Lib.hid hR
  have HP := Lib.hid hp
  clear hr1 hs1 hT hR hp ho1 hv1 hvfp hvn
  go_wp2
  refine bodyPost_ret (results_cell_row rfl _ _ w.heap.size _ _ _ _ rfl (((((((HR.out.move (Below.heap_setCell w1 ⟨w.heap.size + 1, 4, none⟩ _ _ (by simp))).set 0 _).set 1 _).set 2 _).set 3 _).set 4 _)) hu rfl thInfo) rfl ?_
  exact ⟨_, rfl, grab_post HP.out HD.out HR1.out HO1.out HS1.out HV1.out ((((((St.setCell (F := RT w) w1 ⟨w.heap.size + 1, 4, none⟩ _ (.inr rfl)).trans (St.setCell _ ⟨w.heap.size, 0, none⟩ _ (.inl rfl))).trans (St.setCell _ ⟨w.heap.size, 1, none⟩ _ (.inl rfl))).trans (St.setCell _ ⟨w.heap.size, 2, none⟩ _ (.inl rfl))).trans (St.setCell _ ⟨w.heap.size, 3, none⟩ _ (.inl rfl))).trans (St.setCell _ ⟨w.heap.size, 4, none⟩ _ (.inl rfl)))⟩
theorem grab_calls (k m : Int) (hk1 : 1 ≤ k) (hk9 : k ≤ 9) (hm : m ≤ 9223372036854775807) (w : World) (v : Value) (th : Bool) (p : Nat) (D : Nat → Prop) (hD : In D w) (hp : p < w.heap.size) (s : RS) (hl : s.rest.length ≤ 140737488351232) (h : Rh w v th p D s) :
    Calls Try.prog 47 #[v, .int .i64 k, .int .i64 m] w (GrabPost w v th p D s k m) := by
  rcases (by omega : k = 1 ∨ k = 2 ∨ k = 3 ∨ k = 4 ∨ k = 5 ∨ k = 6 ∨ k = 7 ∨ k = 8 ∨ k = 9) with rfl | rfl | rfl | rfl | rfl | rfl | rfl | rfl | rfl
  · exact grab1 m hm w v th p D hD hp s hl h
  · exact grab2 m hm w v th p D hD hp s hl h
  · exact grab3 m hm w v th p D hD hp s hl h
  · exact grab4 m hm w v th p D hD hp s hl h
  · exact grab5 m hm w v th p D hD hp s hl h
  · exact grab6 m hm w v th p D hD hp s hl h
  · exact grab7 m hm w v th p D hD hp s hl h
  · exact grab8 m hm w v th p D hD hp s hl h
  · exact grab9 m hm w v th p D hD hp s hl h
end Go.Proofs.Ytfhoekcmkbeabaa
