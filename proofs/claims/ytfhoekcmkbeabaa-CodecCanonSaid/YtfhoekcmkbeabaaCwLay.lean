
/-
  The walk over the statements' lay.
-/
import Derived.Test.YtfhoekcmkbeabaaCwSteps
namespace Go.Proofs.Ytfhoekcmkbeabaa
open Go.RowKit
set_option linter.unusedVariables false
set_option linter.unusedSimpArgs false

theorem cut_same (n : BitVec 64) (m t : Nat) (h : t + 8 ≤ m) (hm : m ≤ 64) : ((((n.setWidth m).setWidth 64) >>> t).setWidth 8 : BitVec 8) = (n >>> t).setWidth 8 := by
  ext i hi
  have h1 : t + i < 64 := by omega
  have h2 : t + i < m := by omega
  simp [hi, h1, h2]
theorem one_same (n : BitVec 64) : beTo ((n.setWidth 8).setWidth 64) 1 1 = beTo n 1 1 := by
  simp only [beTo]
  rw [cut_same n 8 _ (by omega) (by omega)]
theorem two_same (n : BitVec 64) : beTo ((n.setWidth 16).setWidth 64) 2 2 = beTo n 2 2 := by
  simp only [beTo]
  rw [cut_same n 16 _ (by omega) (by omega), cut_same n 16 _ (by omega) (by omega)]
theorem four_same (n : BitVec 64) : beTo ((n.setWidth 32).setWidth 64) 4 4 = beTo n 4 4 := by
  simp only [beTo]
  rw [cut_same n 32 _ (by omega) (by omega), cut_same n 32 _ (by omega) (by omega), cut_same n 32 _ (by omega) (by omega), cut_same n 32 _ (by omega) (by omega)]
theorem flag_same (f : Bool) : beTo ((flagB f).setWidth 64) 1 1 = [flagB f] := by cases f <;> rfl

/-- the law's laying: it is done, and what was handed in is as it was -/
def LawLay (w : World) (F : Nat → Prop) (v : Value) (th : Bool) (s : WS) (e : Ending) (w' : World) : Prop := e = .returned (.bool true) ∧ ∃ F', Wh w' F' v th s ∧ St F w F' w'
theorem cut8X (n : BitVec 64) (X : Int) (h : X = (n.toNat : Int) % 256 ∨ X = IntKind.u8.wrap (n.toNat : Int)) : X = ((n.setWidth 8).toNat : Int) := by
  rcases h with rfl | rfl
  · rw [BitVec.toNat_setWidth]; simp
  · rw [show IntKind.u8.wrap (n.toNat : Int) = (n.toNat : Int) % 256 by simp [IntKind.wrap, IntKind.bits, IntKind.signed], BitVec.toNat_setWidth]; simp
theorem wU8_x (x : BitVec 8) (X : Int) (hX : X = (x.toNat : Int)) (w : World) (F : Nat → Prop) (v : Value) (th : Bool) (s : WS) (h : Wh w F v th s) :
    Calls Try.prog 69 #[v, .int .u8 X] w (LayPost w F v th s (beTo (x.setWidth 64) 1 1)) := by
  subst hX
  exact wU8_calls x w F v th s h
theorem cut16X (n : BitVec 64) (X : Int) (h : X = (n.toNat : Int) % 65536 ∨ X = IntKind.u16.wrap (n.toNat : Int)) : X = ((n.setWidth 16).toNat : Int) := by
  rcases h with rfl | rfl
  · rw [BitVec.toNat_setWidth]; simp
  · rw [show IntKind.u16.wrap (n.toNat : Int) = (n.toNat : Int) % 65536 by simp [IntKind.wrap, IntKind.bits, IntKind.signed], BitVec.toNat_setWidth]; simp
theorem wU16_x (x : BitVec 16) (X : Int) (hX : X = (x.toNat : Int)) (w : World) (F : Nat → Prop) (v : Value) (th : Bool) (s : WS) (h : Wh w F v th s) :
    Calls Try.prog 70 #[v, .int .u16 X] w (LayPost w F v th s (beTo (x.setWidth 64) 2 2)) := by
  subst hX
  exact wU16_calls x w F v th s h
theorem cut32X (n : BitVec 64) (X : Int) (h : X = (n.toNat : Int) % 4294967296 ∨ X = IntKind.u32.wrap (n.toNat : Int)) : X = ((n.setWidth 32).toNat : Int) := by
  rcases h with rfl | rfl
  · rw [BitVec.toNat_setWidth]; simp
  · rw [show IntKind.u32.wrap (n.toNat : Int) = (n.toNat : Int) % 4294967296 by simp [IntKind.wrap, IntKind.bits, IntKind.signed], BitVec.toNat_setWidth]; simp
theorem wU32_x (x : BitVec 32) (X : Int) (hX : X = (x.toNat : Int)) (w : World) (F : Nat → Prop) (v : Value) (th : Bool) (s : WS) (h : Wh w F v th s) :
    Calls Try.prog 71 #[v, .int .u32 X] w (LayPost w F v th s (beTo (x.setWidth 64) 4 4)) := by
  subst hX
  exact wU32_calls x w F v th s h
set_option maxRecDepth 100000 in
set_option maxHeartbeats 1000000 in
theorem lay1 (n : BitVec 64) (i : Int) (hi0 : -9223372036854775808 ≤ i) (hi1 : i ≤ 9223372036854775807) (f : Bool) (a : Option Addr) (c : Nat) (bs : List B8) (hbl : bs.length ≤ 140737488351232) (w : World) (F : Nat → Prop) (v : Value) (th : Bool) (s : WS) (hw : Wh w F v th s) (hb : Bs w a bs) (hd : Apart F a bs) :
    Calls Try.prog 36 #[v, .agg #[.int .i64 1, .int .u64 (n.toNat : Int), .int .i64 i, .bool f, .slice a bs.length c]] w (LawLay w F v th (putT th s (beTo n 1 1))) := by
  have hxn := n.isLt
  have HW0 : Hid (Wh (w.alloc (.cells #[.int .i64 1, .int .u64 (n.toNat : Int), .int .i64 i, .bool f, .slice a bs.length c] 51)) F v th s) := Lib.hid (hw.st (St.alloc' No _ _) (Dj.no _))
  have HB0 : Hid (Bs (w.alloc (.cells #[.int .i64 1, .int .u64 (n.toNat : Int), .int .i64 i, .bool f, .slice a bs.length c] 51)) a bs) := Lib.hid (hb.st (St.alloc' No _ _) (Dj.no _))
  have HIN := Lib.hid hw.in
  have HD := Lib.hid hd
  clear hw hb hd
  go_enter Try.func36, Try.ntmps36
  go_wp2_with fail
  refine (handed_calls a c bs hbl _ HB0.out).mono ?_
  rintro e w1 ⟨v1, rfl, hh, hs⟩
  obtain ⟨b1, c1, rfl, hb1, hn1, hfp⟩ := hh.form
  have hk0 := World.cell?_of_block (a := ⟨w.heap.size, 0, none⟩) (hs.block w.heap.size (by simp) (fun h => h))
  have hk1 := World.cell?_of_block (a := ⟨w.heap.size, 1, none⟩) (hs.block w.heap.size (by simp) (fun h => h))
  have hk2 := World.cell?_of_block (a := ⟨w.heap.size, 2, none⟩) (hs.block w.heap.size (by simp) (fun h => h))
  have hk3 := World.cell?_of_block (a := ⟨w.heap.size, 3, none⟩) (hs.block w.heap.size (by simp) (fun h => h))
  have hk4 := World.cell?_of_block (a := ⟨w.heap.size, 4, none⟩) (hs.block w.heap.size (by simp) (fun h => h))
  simp [-World.size_alloc] at hk0 hk1 hk2 hk3 hk4
  have HW1 : Hid (Wh w1 F v th s) := Lib.hid (HW0.out.st hs (Dj.no _))
  have HB1 : Hid (Bs w1 a bs) := Lib.hid (HB0.out.st hs (Dj.no _))
  have HH1 := Lib.hid hh
  have HDH : Hid (Dj F (fpV (.slice b1 bs.length c1))) := Lib.hid (fun k hk h2 => (hs.new k h2).elim (fun h => h) (fun h => by have := HIN.out k hk; simp at h; omega))
  have HDB : Hid (Dj F (fpA b1)) := Lib.hid (fun k hk h2 => HDH.out k hk ((hfp k).1 h2))
  have HBB := Lib.hid hb1
  have HNB := Lib.hid hn1
  have HS1 : Hid (St F w F w1) := Lib.hid (((St.alloc' F w _).trans (hs.wide (fun _ h => h.elim) (fun k h => .inr h))).drop (fun k hk => .inl hk))
  have HSZ : Hid (w.heap.size < w1.heap.size) := Lib.hid (by have := hs.size; simp at this; omega)
  clear hs hh hfp hb1 hn1
  go_wp2_with (first
    | (go_at_call 69; refine (wU8_x (n.setWidth 8) _ (cut8X n _ (by first | exact .inl rfl | exact .inr rfl)) w1 F v th s HW1.out).mono ?_; rintro e w2 ⟨rfl, F2, hw2, st2⟩; rw [one_same] at hw2; have hk4' := (World.cell?_of_block (a := ⟨w.heap.size, 4, none⟩) (st2.block w.heap.size HSZ.out (fun hf => Nat.lt_irrefl _ (HIN.out _ hf)))).trans hk4; have HK2 : Hid (Hand w2 a bs (.slice b1 bs.length c1)) := Lib.hid (HH1.out.st st2 HDH.out); have HB2 : Hid (Bs w2 a bs) := Lib.hid (HB1.out.stA st2 HD.out); have HW2 := Lib.hid hw2; have HS2 := Lib.hid st2; clear hw2 st2)
    | (go_at_call 24; refine (kept_calls _ a c bs hbl w2 HK2.out HB2.out).mono ?_; rintro e w3 ⟨rfl, hd3⟩; have HD3 := Lib.hid hd3; clear hd3))
  go_ret
  exact ⟨rfl, F2, HW2.out.move (fun k _ => by rw [HD3.out.heap]), (HS1.out.trans HS2.out).trans (HD3.out.st _)⟩
set_option maxRecDepth 100000 in
set_option maxHeartbeats 1000000 in
theorem lay2 (n : BitVec 64) (i : Int) (hi0 : -9223372036854775808 ≤ i) (hi1 : i ≤ 9223372036854775807) (f : Bool) (a : Option Addr) (c : Nat) (bs : List B8) (hbl : bs.length ≤ 140737488351232) (w : World) (F : Nat → Prop) (v : Value) (th : Bool) (s : WS) (hw : Wh w F v th s) (hb : Bs w a bs) (hd : Apart F a bs) :
    Calls Try.prog 36 #[v, .agg #[.int .i64 2, .int .u64 (n.toNat : Int), .int .i64 i, .bool f, .slice a bs.length c]] w (LawLay w F v th (putT th s (beTo n 2 2))) := by
  have hxn := n.isLt
  have HW0 : Hid (Wh (w.alloc (.cells #[.int .i64 2, .int .u64 (n.toNat : Int), .int .i64 i, .bool f, .slice a bs.length c] 51)) F v th s) := Lib.hid (hw.st (St.alloc' No _ _) (Dj.no _))
  have HB0 : Hid (Bs (w.alloc (.cells #[.int .i64 2, .int .u64 (n.toNat : Int), .int .i64 i, .bool f, .slice a bs.length c] 51)) a bs) := Lib.hid (hb.st (St.alloc' No _ _) (Dj.no _))
  have HIN := Lib.hid hw.in
  have HD := Lib.hid hd
  clear hw hb hd
  go_enter Try.func36, Try.ntmps36
  go_wp2_with fail
  refine (handed_calls a c bs hbl _ HB0.out).mono ?_
  rintro e w1 ⟨v1, rfl, hh, hs⟩
  obtain ⟨b1, c1, rfl, hb1, hn1, hfp⟩ := hh.form
  have hk0 := World.cell?_of_block (a := ⟨w.heap.size, 0, none⟩) (hs.block w.heap.size (by simp) (fun h => h))
  have hk1 := World.cell?_of_block (a := ⟨w.heap.size, 1, none⟩) (hs.block w.heap.size (by simp) (fun h => h))
  have hk2 := World.cell?_of_block (a := ⟨w.heap.size, 2, none⟩) (hs.block w.heap.size (by simp) (fun h => h))
  have hk3 := World.cell?_of_block (a := ⟨w.heap.size, 3, none⟩) (hs.block w.heap.size (by simp) (fun h => h))
  have hk4 := World.cell?_of_block (a := ⟨w.heap.size, 4, none⟩) (hs.block w.heap.size (by simp) (fun h => h))
  simp [-World.size_alloc] at hk0 hk1 hk2 hk3 hk4
  have HW1 : Hid (Wh w1 F v th s) := Lib.hid (HW0.out.st hs (Dj.no _))
  have HB1 : Hid (Bs w1 a bs) := Lib.hid (HB0.out.st hs (Dj.no _))
  have HH1 := Lib.hid hh
  have HDH : Hid (Dj F (fpV (.slice b1 bs.length c1))) := Lib.hid (fun k hk h2 => (hs.new k h2).elim (fun h => h) (fun h => by have := HIN.out k hk; simp at h; omega))
  have HDB : Hid (Dj F (fpA b1)) := Lib.hid (fun k hk h2 => HDH.out k hk ((hfp k).1 h2))
  have HBB := Lib.hid hb1
  have HNB := Lib.hid hn1
  have HS1 : Hid (St F w F w1) := Lib.hid (((St.alloc' F w _).trans (hs.wide (fun _ h => h.elim) (fun k h => .inr h))).drop (fun k hk => .inl hk))
  have HSZ : Hid (w.heap.size < w1.heap.size) := Lib.hid (by have := hs.size; simp at this; omega)
  clear hs hh hfp hb1 hn1
  go_wp2_with (first
    | (go_at_call 70; refine (wU16_x (n.setWidth 16) _ (cut16X n _ (by first | exact .inl rfl | exact .inr rfl)) w1 F v th s HW1.out).mono ?_; rintro e w2 ⟨rfl, F2, hw2, st2⟩; rw [two_same] at hw2; have hk4' := (World.cell?_of_block (a := ⟨w.heap.size, 4, none⟩) (st2.block w.heap.size HSZ.out (fun hf => Nat.lt_irrefl _ (HIN.out _ hf)))).trans hk4; have HK2 : Hid (Hand w2 a bs (.slice b1 bs.length c1)) := Lib.hid (HH1.out.st st2 HDH.out); have HB2 : Hid (Bs w2 a bs) := Lib.hid (HB1.out.stA st2 HD.out); have HW2 := Lib.hid hw2; have HS2 := Lib.hid st2; clear hw2 st2)
    | (go_at_call 24; refine (kept_calls _ a c bs hbl w2 HK2.out HB2.out).mono ?_; rintro e w3 ⟨rfl, hd3⟩; have HD3 := Lib.hid hd3; clear hd3))
  go_ret
  exact ⟨rfl, F2, HW2.out.move (fun k _ => by rw [HD3.out.heap]), (HS1.out.trans HS2.out).trans (HD3.out.st _)⟩
set_option maxRecDepth 100000 in
set_option maxHeartbeats 1000000 in
theorem lay3 (n : BitVec 64) (i : Int) (hi0 : -9223372036854775808 ≤ i) (hi1 : i ≤ 9223372036854775807) (f : Bool) (a : Option Addr) (c : Nat) (bs : List B8) (hbl : bs.length ≤ 140737488351232) (w : World) (F : Nat → Prop) (v : Value) (th : Bool) (s : WS) (hw : Wh w F v th s) (hb : Bs w a bs) (hd : Apart F a bs) :
    Calls Try.prog 36 #[v, .agg #[.int .i64 3, .int .u64 (n.toNat : Int), .int .i64 i, .bool f, .slice a bs.length c]] w (LawLay w F v th (putT th s (beTo n 4 4))) := by
  have hxn := n.isLt
  have HW0 : Hid (Wh (w.alloc (.cells #[.int .i64 3, .int .u64 (n.toNat : Int), .int .i64 i, .bool f, .slice a bs.length c] 51)) F v th s) := Lib.hid (hw.st (St.alloc' No _ _) (Dj.no _))
  have HB0 : Hid (Bs (w.alloc (.cells #[.int .i64 3, .int .u64 (n.toNat : Int), .int .i64 i, .bool f, .slice a bs.length c] 51)) a bs) := Lib.hid (hb.st (St.alloc' No _ _) (Dj.no _))
  have HIN := Lib.hid hw.in
  have HD := Lib.hid hd
  clear hw hb hd
  go_enter Try.func36, Try.ntmps36
  go_wp2_with fail
  refine (handed_calls a c bs hbl _ HB0.out).mono ?_
  rintro e w1 ⟨v1, rfl, hh, hs⟩
  obtain ⟨b1, c1, rfl, hb1, hn1, hfp⟩ := hh.form
  have hk0 := World.cell?_of_block (a := ⟨w.heap.size, 0, none⟩) (hs.block w.heap.size (by simp) (fun h => h))
  have hk1 := World.cell?_of_block (a := ⟨w.heap.size, 1, none⟩) (hs.block w.heap.size (by simp) (fun h => h))
  have hk2 := World.cell?_of_block (a := ⟨w.heap.size, 2, none⟩) (hs.block w.heap.size (by simp) (fun h => h))
  have hk3 := World.cell?_of_block (a := ⟨w.heap.size, 3, none⟩) (hs.block w.heap.size (by simp) (fun h => h))
  have hk4 := World.cell?_of_block (a := ⟨w.heap.size, 4, none⟩) (hs.block w.heap.size (by simp) (fun h => h))
  simp [-World.size_alloc] at hk0 hk1 hk2 hk3 hk4
  have HW1 : Hid (Wh w1 F v th s) := Lib.hid (HW0.out.st hs (Dj.no _))
  have HB1 : Hid (Bs w1 a bs) := Lib.hid (HB0.out.st hs (Dj.no _))
  have HH1 := Lib.hid hh
  have HDH : Hid (Dj F (fpV (.slice b1 bs.length c1))) := Lib.hid (fun k hk h2 => (hs.new k h2).elim (fun h => h) (fun h => by have := HIN.out k hk; simp at h; omega))
  have HDB : Hid (Dj F (fpA b1)) := Lib.hid (fun k hk h2 => HDH.out k hk ((hfp k).1 h2))
  have HBB := Lib.hid hb1
  have HNB := Lib.hid hn1
  have HS1 : Hid (St F w F w1) := Lib.hid (((St.alloc' F w _).trans (hs.wide (fun _ h => h.elim) (fun k h => .inr h))).drop (fun k hk => .inl hk))
  have HSZ : Hid (w.heap.size < w1.heap.size) := Lib.hid (by have := hs.size; simp at this; omega)
  clear hs hh hfp hb1 hn1
  go_wp2_with (first
    | (go_at_call 71; refine (wU32_x (n.setWidth 32) _ (cut32X n _ (by first | exact .inl rfl | exact .inr rfl)) w1 F v th s HW1.out).mono ?_; rintro e w2 ⟨rfl, F2, hw2, st2⟩; rw [four_same] at hw2; have hk4' := (World.cell?_of_block (a := ⟨w.heap.size, 4, none⟩) (st2.block w.heap.size HSZ.out (fun hf => Nat.lt_irrefl _ (HIN.out _ hf)))).trans hk4; have HK2 : Hid (Hand w2 a bs (.slice b1 bs.length c1)) := Lib.hid (HH1.out.st st2 HDH.out); have HB2 : Hid (Bs w2 a bs) := Lib.hid (HB1.out.stA st2 HD.out); have HW2 := Lib.hid hw2; have HS2 := Lib.hid st2; clear hw2 st2)
    | (go_at_call 24; refine (kept_calls _ a c bs hbl w2 HK2.out HB2.out).mono ?_; rintro e w3 ⟨rfl, hd3⟩; have HD3 := Lib.hid hd3; clear hd3))
  go_ret
  exact ⟨rfl, F2, HW2.out.move (fun k _ => by rw [HD3.out.heap]), (HS1.out.trans HS2.out).trans (HD3.out.st _)⟩
set_option maxRecDepth 100000 in
set_option maxHeartbeats 1000000 in
theorem lay4 (n : BitVec 64) (i : Int) (hi0 : -9223372036854775808 ≤ i) (hi1 : i ≤ 9223372036854775807) (f : Bool) (a : Option Addr) (c : Nat) (bs : List B8) (hbl : bs.length ≤ 140737488351232) (w : World) (F : Nat → Prop) (v : Value) (th : Bool) (s : WS) (hw : Wh w F v th s) (hb : Bs w a bs) (hd : Apart F a bs) :
    Calls Try.prog 36 #[v, .agg #[.int .i64 4, .int .u64 (n.toNat : Int), .int .i64 i, .bool f, .slice a bs.length c]] w (LawLay w F v th (putT th s (beTo n 8 8))) := by
  have hxn := n.isLt
  have HW0 : Hid (Wh (w.alloc (.cells #[.int .i64 4, .int .u64 (n.toNat : Int), .int .i64 i, .bool f, .slice a bs.length c] 51)) F v th s) := Lib.hid (hw.st (St.alloc' No _ _) (Dj.no _))
  have HB0 : Hid (Bs (w.alloc (.cells #[.int .i64 4, .int .u64 (n.toNat : Int), .int .i64 i, .bool f, .slice a bs.length c] 51)) a bs) := Lib.hid (hb.st (St.alloc' No _ _) (Dj.no _))
  have HIN := Lib.hid hw.in
  have HD := Lib.hid hd
  clear hw hb hd
  go_enter Try.func36, Try.ntmps36
  go_wp2_with fail
  refine (handed_calls a c bs hbl _ HB0.out).mono ?_
  rintro e w1 ⟨v1, rfl, hh, hs⟩
  obtain ⟨b1, c1, rfl, hb1, hn1, hfp⟩ := hh.form
  have hk0 := World.cell?_of_block (a := ⟨w.heap.size, 0, none⟩) (hs.block w.heap.size (by simp) (fun h => h))
  have hk1 := World.cell?_of_block (a := ⟨w.heap.size, 1, none⟩) (hs.block w.heap.size (by simp) (fun h => h))
  have hk2 := World.cell?_of_block (a := ⟨w.heap.size, 2, none⟩) (hs.block w.heap.size (by simp) (fun h => h))
  have hk3 := World.cell?_of_block (a := ⟨w.heap.size, 3, none⟩) (hs.block w.heap.size (by simp) (fun h => h))
  have hk4 := World.cell?_of_block (a := ⟨w.heap.size, 4, none⟩) (hs.block w.heap.size (by simp) (fun h => h))
  simp [-World.size_alloc] at hk0 hk1 hk2 hk3 hk4
  have HW1 : Hid (Wh w1 F v th s) := Lib.hid (HW0.out.st hs (Dj.no _))
  have HB1 : Hid (Bs w1 a bs) := Lib.hid (HB0.out.st hs (Dj.no _))
  have HH1 := Lib.hid hh
  have HDH : Hid (Dj F (fpV (.slice b1 bs.length c1))) := Lib.hid (fun k hk h2 => (hs.new k h2).elim (fun h => h) (fun h => by have := HIN.out k hk; simp at h; omega))
  have HDB : Hid (Dj F (fpA b1)) := Lib.hid (fun k hk h2 => HDH.out k hk ((hfp k).1 h2))
  have HBB := Lib.hid hb1
  have HNB := Lib.hid hn1
  have HS1 : Hid (St F w F w1) := Lib.hid (((St.alloc' F w _).trans (hs.wide (fun _ h => h.elim) (fun k h => .inr h))).drop (fun k hk => .inl hk))
  have HSZ : Hid (w.heap.size < w1.heap.size) := Lib.hid (by have := hs.size; simp at this; omega)
  clear hs hh hfp hb1 hn1
  go_wp2_with (first
    | (go_at_call 72; refine (wU64_calls n w1 F v th s HW1.out).mono ?_; rintro e w2 ⟨rfl, F2, hw2, st2⟩; have hk4' := (World.cell?_of_block (a := ⟨w.heap.size, 4, none⟩) (st2.block w.heap.size HSZ.out (fun hf => Nat.lt_irrefl _ (HIN.out _ hf)))).trans hk4; have HK2 : Hid (Hand w2 a bs (.slice b1 bs.length c1)) := Lib.hid (HH1.out.st st2 HDH.out); have HB2 : Hid (Bs w2 a bs) := Lib.hid (HB1.out.stA st2 HD.out); have HW2 := Lib.hid hw2; have HS2 := Lib.hid st2; clear hw2 st2)
    | (go_at_call 24; refine (kept_calls _ a c bs hbl w2 HK2.out HB2.out).mono ?_; rintro e w3 ⟨rfl, hd3⟩; have HD3 := Lib.hid hd3; clear hd3))
  go_ret
  exact ⟨rfl, F2, HW2.out.move (fun k _ => by rw [HD3.out.heap]), (HS1.out.trans HS2.out).trans (HD3.out.st _)⟩
set_option maxRecDepth 100000 in
set_option maxHeartbeats 1000000 in
theorem lay5 (n : BitVec 64) (i : Int) (hi0 : -9223372036854775808 ≤ i) (hi1 : i ≤ 9223372036854775807) (f : Bool) (a : Option Addr) (c : Nat) (bs : List B8) (hbl : bs.length ≤ 140737488351232) (w : World) (F : Nat → Prop) (v : Value) (th : Bool) (s : WS) (hw : Wh w F v th s) (hb : Bs w a bs) (hd : Apart F a bs) :
    Calls Try.prog 36 #[v, .agg #[.int .i64 5, .int .u64 (n.toNat : Int), .int .i64 i, .bool f, .slice a bs.length c]] w (LawLay w F v th (putT th s (groupsB n.toNat))) := by
  have hxn := n.isLt
  have HW0 : Hid (Wh (w.alloc (.cells #[.int .i64 5, .int .u64 (n.toNat : Int), .int .i64 i, .bool f, .slice a bs.length c] 51)) F v th s) := Lib.hid (hw.st (St.alloc' No _ _) (Dj.no _))
  have HB0 : Hid (Bs (w.alloc (.cells #[.int .i64 5, .int .u64 (n.toNat : Int), .int .i64 i, .bool f, .slice a bs.length c] 51)) a bs) := Lib.hid (hb.st (St.alloc' No _ _) (Dj.no _))
  have HIN := Lib.hid hw.in
  have HD := Lib.hid hd
  clear hw hb hd
  go_enter Try.func36, Try.ntmps36
  go_wp2_with fail
  refine (handed_calls a c bs hbl _ HB0.out).mono ?_
  rintro e w1 ⟨v1, rfl, hh, hs⟩
  obtain ⟨b1, c1, rfl, hb1, hn1, hfp⟩ := hh.form
  have hk0 := World.cell?_of_block (a := ⟨w.heap.size, 0, none⟩) (hs.block w.heap.size (by simp) (fun h => h))
  have hk1 := World.cell?_of_block (a := ⟨w.heap.size, 1, none⟩) (hs.block w.heap.size (by simp) (fun h => h))
  have hk2 := World.cell?_of_block (a := ⟨w.heap.size, 2, none⟩) (hs.block w.heap.size (by simp) (fun h => h))
  have hk3 := World.cell?_of_block (a := ⟨w.heap.size, 3, none⟩) (hs.block w.heap.size (by simp) (fun h => h))
  have hk4 := World.cell?_of_block (a := ⟨w.heap.size, 4, none⟩) (hs.block w.heap.size (by simp) (fun h => h))
  simp [-World.size_alloc] at hk0 hk1 hk2 hk3 hk4
  have HW1 : Hid (Wh w1 F v th s) := Lib.hid (HW0.out.st hs (Dj.no _))
  have HB1 : Hid (Bs w1 a bs) := Lib.hid (HB0.out.st hs (Dj.no _))
  have HH1 := Lib.hid hh
  have HDH : Hid (Dj F (fpV (.slice b1 bs.length c1))) := Lib.hid (fun k hk h2 => (hs.new k h2).elim (fun h => h) (fun h => by have := HIN.out k hk; simp at h; omega))
  have HDB : Hid (Dj F (fpA b1)) := Lib.hid (fun k hk h2 => HDH.out k hk ((hfp k).1 h2))
  have HBB := Lib.hid hb1
  have HNB := Lib.hid hn1
  have HS1 : Hid (St F w F w1) := Lib.hid (((St.alloc' F w _).trans (hs.wide (fun _ h => h.elim) (fun k h => .inr h))).drop (fun k hk => .inl hk))
  have HSZ : Hid (w.heap.size < w1.heap.size) := Lib.hid (by have := hs.size; simp at this; omega)
  clear hs hh hfp hb1 hn1
  go_wp2_with (first
    | (go_at_call 73; refine (varint_calls n _ rfl w1 F v th s HW1.out).mono ?_; rintro e w2 ⟨rfl, F2, hw2, st2⟩; have hk4' := (World.cell?_of_block (a := ⟨w.heap.size, 4, none⟩) (st2.block w.heap.size HSZ.out (fun hf => Nat.lt_irrefl _ (HIN.out _ hf)))).trans hk4; have HK2 : Hid (Hand w2 a bs (.slice b1 bs.length c1)) := Lib.hid (HH1.out.st st2 HDH.out); have HB2 : Hid (Bs w2 a bs) := Lib.hid (HB1.out.stA st2 HD.out); have HW2 := Lib.hid hw2; have HS2 := Lib.hid st2; clear hw2 st2)
    | (go_at_call 24; refine (kept_calls _ a c bs hbl w2 HK2.out HB2.out).mono ?_; rintro e w3 ⟨rfl, hd3⟩; have HD3 := Lib.hid hd3; clear hd3))
  go_ret
  exact ⟨rfl, F2, HW2.out.move (fun k _ => by rw [HD3.out.heap]), (HS1.out.trans HS2.out).trans (HD3.out.st _)⟩
set_option maxRecDepth 100000 in
set_option maxHeartbeats 1000000 in
theorem lay6 (n : BitVec 64) (i : Int) (hi0 : -9223372036854775808 ≤ i) (hi1 : i ≤ 9223372036854775807) (f : Bool) (a : Option Addr) (c : Nat) (bs : List B8) (hbl : bs.length ≤ 140737488351232) (w : World) (F : Nat → Prop) (v : Value) (th : Bool) (s : WS) (hw : Wh w F v th s) (hb : Bs w a bs) (hd : Apart F a bs) :
    Calls Try.prog 36 #[v, .agg #[.int .i64 6, .int .u64 (n.toNat : Int), .int .i64 i, .bool f, .slice a bs.length c]] w (LawLay w F v th (putT th s (groupsB (zig i)))) := by
  have hxn := n.isLt
  have HW0 : Hid (Wh (w.alloc (.cells #[.int .i64 6, .int .u64 (n.toNat : Int), .int .i64 i, .bool f, .slice a bs.length c] 51)) F v th s) := Lib.hid (hw.st (St.alloc' No _ _) (Dj.no _))
  have HB0 : Hid (Bs (w.alloc (.cells #[.int .i64 6, .int .u64 (n.toNat : Int), .int .i64 i, .bool f, .slice a bs.length c] 51)) a bs) := Lib.hid (hb.st (St.alloc' No _ _) (Dj.no _))
  have HIN := Lib.hid hw.in
  have HD := Lib.hid hd
  clear hw hb hd
  go_enter Try.func36, Try.ntmps36
  go_wp2_with fail
  refine (handed_calls a c bs hbl _ HB0.out).mono ?_
  rintro e w1 ⟨v1, rfl, hh, hs⟩
  obtain ⟨b1, c1, rfl, hb1, hn1, hfp⟩ := hh.form
  have hk0 := World.cell?_of_block (a := ⟨w.heap.size, 0, none⟩) (hs.block w.heap.size (by simp) (fun h => h))
  have hk1 := World.cell?_of_block (a := ⟨w.heap.size, 1, none⟩) (hs.block w.heap.size (by simp) (fun h => h))
  have hk2 := World.cell?_of_block (a := ⟨w.heap.size, 2, none⟩) (hs.block w.heap.size (by simp) (fun h => h))
  have hk3 := World.cell?_of_block (a := ⟨w.heap.size, 3, none⟩) (hs.block w.heap.size (by simp) (fun h => h))
  have hk4 := World.cell?_of_block (a := ⟨w.heap.size, 4, none⟩) (hs.block w.heap.size (by simp) (fun h => h))
  simp [-World.size_alloc] at hk0 hk1 hk2 hk3 hk4
  have HW1 : Hid (Wh w1 F v th s) := Lib.hid (HW0.out.st hs (Dj.no _))
  have HB1 : Hid (Bs w1 a bs) := Lib.hid (HB0.out.st hs (Dj.no _))
  have HH1 := Lib.hid hh
  have HDH : Hid (Dj F (fpV (.slice b1 bs.length c1))) := Lib.hid (fun k hk h2 => (hs.new k h2).elim (fun h => h) (fun h => by have := HIN.out k hk; simp at h; omega))
  have HDB : Hid (Dj F (fpA b1)) := Lib.hid (fun k hk h2 => HDH.out k hk ((hfp k).1 h2))
  have HBB := Lib.hid hb1
  have HNB := Lib.hid hn1
  have HS1 : Hid (St F w F w1) := Lib.hid (((St.alloc' F w _).trans (hs.wide (fun _ h => h.elim) (fun k h => .inr h))).drop (fun k hk => .inl hk))
  have HSZ : Hid (w.heap.size < w1.heap.size) := Lib.hid (by have := hs.size; simp at this; omega)
  clear hs hh hfp hb1 hn1
  go_wp2_with (first
    | (go_at_call 74; refine (signed_calls i hi0 hi1 w1 F v th s HW1.out).mono ?_; rintro e w2 ⟨rfl, F2, hw2, st2⟩; have hk4' := (World.cell?_of_block (a := ⟨w.heap.size, 4, none⟩) (st2.block w.heap.size HSZ.out (fun hf => Nat.lt_irrefl _ (HIN.out _ hf)))).trans hk4; have HK2 : Hid (Hand w2 a bs (.slice b1 bs.length c1)) := Lib.hid (HH1.out.st st2 HDH.out); have HB2 : Hid (Bs w2 a bs) := Lib.hid (HB1.out.stA st2 HD.out); have HW2 := Lib.hid hw2; have HS2 := Lib.hid st2; clear hw2 st2)
    | (go_at_call 24; refine (kept_calls _ a c bs hbl w2 HK2.out HB2.out).mono ?_; rintro e w3 ⟨rfl, hd3⟩; have HD3 := Lib.hid hd3; clear hd3))
  go_ret
  exact ⟨rfl, F2, HW2.out.move (fun k _ => by rw [HD3.out.heap]), (HS1.out.trans HS2.out).trans (HD3.out.st _)⟩
set_option maxRecDepth 100000 in
set_option maxHeartbeats 1000000 in
theorem lay7 (n : BitVec 64) (i : Int) (hi0 : -9223372036854775808 ≤ i) (hi1 : i ≤ 9223372036854775807) (f : Bool) (a : Option Addr) (c : Nat) (bs : List B8) (hbl : bs.length ≤ 140737488351232) (w : World) (F : Nat → Prop) (v : Value) (th : Bool) (s : WS) (hw : Wh w F v th s) (hb : Bs w a bs) (hd : Apart F a bs) :
    Calls Try.prog 36 #[v, .agg #[.int .i64 7, .int .u64 (n.toNat : Int), .int .i64 i, .bool f, .slice a bs.length c]] w (LawLay w F v th (putT th s ([flagB f]))) := by
  have hxn := n.isLt
  have HW0 : Hid (Wh (w.alloc (.cells #[.int .i64 7, .int .u64 (n.toNat : Int), .int .i64 i, .bool f, .slice a bs.length c] 51)) F v th s) := Lib.hid (hw.st (St.alloc' No _ _) (Dj.no _))
  have HB0 : Hid (Bs (w.alloc (.cells #[.int .i64 7, .int .u64 (n.toNat : Int), .int .i64 i, .bool f, .slice a bs.length c] 51)) a bs) := Lib.hid (hb.st (St.alloc' No _ _) (Dj.no _))
  have HIN := Lib.hid hw.in
  have HD := Lib.hid hd
  clear hw hb hd
  go_enter Try.func36, Try.ntmps36
  go_wp2_with fail
  refine (handed_calls a c bs hbl _ HB0.out).mono ?_
  rintro e w1 ⟨v1, rfl, hh, hs⟩
  obtain ⟨b1, c1, rfl, hb1, hn1, hfp⟩ := hh.form
  have hk0 := World.cell?_of_block (a := ⟨w.heap.size, 0, none⟩) (hs.block w.heap.size (by simp) (fun h => h))
  have hk1 := World.cell?_of_block (a := ⟨w.heap.size, 1, none⟩) (hs.block w.heap.size (by simp) (fun h => h))
  have hk2 := World.cell?_of_block (a := ⟨w.heap.size, 2, none⟩) (hs.block w.heap.size (by simp) (fun h => h))
  have hk3 := World.cell?_of_block (a := ⟨w.heap.size, 3, none⟩) (hs.block w.heap.size (by simp) (fun h => h))
  have hk4 := World.cell?_of_block (a := ⟨w.heap.size, 4, none⟩) (hs.block w.heap.size (by simp) (fun h => h))
  simp [-World.size_alloc] at hk0 hk1 hk2 hk3 hk4
  have HW1 : Hid (Wh w1 F v th s) := Lib.hid (HW0.out.st hs (Dj.no _))
  have HB1 : Hid (Bs w1 a bs) := Lib.hid (HB0.out.st hs (Dj.no _))
  have HH1 := Lib.hid hh
  have HDH : Hid (Dj F (fpV (.slice b1 bs.length c1))) := Lib.hid (fun k hk h2 => (hs.new k h2).elim (fun h => h) (fun h => by have := HIN.out k hk; simp at h; omega))
  have HDB : Hid (Dj F (fpA b1)) := Lib.hid (fun k hk h2 => HDH.out k hk ((hfp k).1 h2))
  have HBB := Lib.hid hb1
  have HNB := Lib.hid hn1
  have HS1 : Hid (St F w F w1) := Lib.hid (((St.alloc' F w _).trans (hs.wide (fun _ h => h.elim) (fun k h => .inr h))).drop (fun k hk => .inl hk))
  have HSZ : Hid (w.heap.size < w1.heap.size) := Lib.hid (by have := hs.size; simp at this; omega)
  clear hs hh hfp hb1 hn1
  go_wp2_with (first
    | (go_at_call 75; refine (flag_calls f w1 F v th s HW1.out).mono ?_; rintro e w2 ⟨rfl, F2, hw2, st2⟩; rw [flag_same] at hw2; have hk4' := (World.cell?_of_block (a := ⟨w.heap.size, 4, none⟩) (st2.block w.heap.size HSZ.out (fun hf => Nat.lt_irrefl _ (HIN.out _ hf)))).trans hk4; have HK2 : Hid (Hand w2 a bs (.slice b1 bs.length c1)) := Lib.hid (HH1.out.st st2 HDH.out); have HB2 : Hid (Bs w2 a bs) := Lib.hid (HB1.out.stA st2 HD.out); have HW2 := Lib.hid hw2; have HS2 := Lib.hid st2; clear hw2 st2)
    | (go_at_call 24; refine (kept_calls _ a c bs hbl w2 HK2.out HB2.out).mono ?_; rintro e w3 ⟨rfl, hd3⟩; have HD3 := Lib.hid hd3; clear hd3))
  go_ret
  exact ⟨rfl, F2, HW2.out.move (fun k _ => by rw [HD3.out.heap]), (HS1.out.trans HS2.out).trans (HD3.out.st _)⟩
set_option maxRecDepth 100000 in
set_option maxHeartbeats 1000000 in
theorem lay8 (n : BitVec 64) (i : Int) (hi0 : -9223372036854775808 ≤ i) (hi1 : i ≤ 9223372036854775807) (f : Bool) (a : Option Addr) (c : Nat) (bs : List B8) (hbl : bs.length ≤ 140737488351232) (w : World) (F : Nat → Prop) (v : Value) (th : Bool) (s : WS) (hw : Wh w F v th s) (hb : Bs w a bs) (hd : Apart F a bs) :
    Calls Try.prog 36 #[v, .agg #[.int .i64 8, .int .u64 (n.toNat : Int), .int .i64 i, .bool f, .slice a bs.length c]] w (LawLay w F v th (putT th s (bs))) := by
  have hxn := n.isLt
  have HW0 : Hid (Wh (w.alloc (.cells #[.int .i64 8, .int .u64 (n.toNat : Int), .int .i64 i, .bool f, .slice a bs.length c] 51)) F v th s) := Lib.hid (hw.st (St.alloc' No _ _) (Dj.no _))
  have HB0 : Hid (Bs (w.alloc (.cells #[.int .i64 8, .int .u64 (n.toNat : Int), .int .i64 i, .bool f, .slice a bs.length c] 51)) a bs) := Lib.hid (hb.st (St.alloc' No _ _) (Dj.no _))
  have HIN := Lib.hid hw.in
  have HD := Lib.hid hd
  clear hw hb hd
  go_enter Try.func36, Try.ntmps36
  go_wp2_with fail
  refine (handed_calls a c bs hbl _ HB0.out).mono ?_
  rintro e w1 ⟨v1, rfl, hh, hs⟩
  obtain ⟨b1, c1, rfl, hb1, hn1, hfp⟩ := hh.form
  have hk0 := World.cell?_of_block (a := ⟨w.heap.size, 0, none⟩) (hs.block w.heap.size (by simp) (fun h => h))
  have hk1 := World.cell?_of_block (a := ⟨w.heap.size, 1, none⟩) (hs.block w.heap.size (by simp) (fun h => h))
  have hk2 := World.cell?_of_block (a := ⟨w.heap.size, 2, none⟩) (hs.block w.heap.size (by simp) (fun h => h))
  have hk3 := World.cell?_of_block (a := ⟨w.heap.size, 3, none⟩) (hs.block w.heap.size (by simp) (fun h => h))
  have hk4 := World.cell?_of_block (a := ⟨w.heap.size, 4, none⟩) (hs.block w.heap.size (by simp) (fun h => h))
  simp [-World.size_alloc] at hk0 hk1 hk2 hk3 hk4
  have HW1 : Hid (Wh w1 F v th s) := Lib.hid (HW0.out.st hs (Dj.no _))
  have HB1 : Hid (Bs w1 a bs) := Lib.hid (HB0.out.st hs (Dj.no _))
  have HH1 := Lib.hid hh
  have HDH : Hid (Dj F (fpV (.slice b1 bs.length c1))) := Lib.hid (fun k hk h2 => (hs.new k h2).elim (fun h => h) (fun h => by have := HIN.out k hk; simp at h; omega))
  have HDB : Hid (Dj F (fpA b1)) := Lib.hid (fun k hk h2 => HDH.out k hk ((hfp k).1 h2))
  have HBB := Lib.hid hb1
  have HNB := Lib.hid hn1
  have HS1 : Hid (St F w F w1) := Lib.hid (((St.alloc' F w _).trans (hs.wide (fun _ h => h.elim) (fun k h => .inr h))).drop (fun k hk => .inl hk))
  have HSZ : Hid (w.heap.size < w1.heap.size) := Lib.hid (by have := hs.size; simp at this; omega)
  clear hs hh hfp hb1 hn1
  go_wp2_with (first
    | (go_at_call 76; refine (raw_h b1 c1 bs HNB.out w1 F v th s HW1.out HBB.out (.inr HDB.out)).mono ?_; rintro e w2 ⟨rfl, F2, hw2, st2⟩; have hk4' := (World.cell?_of_block (a := ⟨w.heap.size, 4, none⟩) (st2.block w.heap.size HSZ.out (fun hf => Nat.lt_irrefl _ (HIN.out _ hf)))).trans hk4; have HK2 : Hid (Hand w2 a bs (.slice b1 bs.length c1)) := Lib.hid (HH1.out.st st2 HDH.out); have HB2 : Hid (Bs w2 a bs) := Lib.hid (HB1.out.stA st2 HD.out); have HW2 := Lib.hid hw2; have HS2 := Lib.hid st2; clear hw2 st2)
    | (go_at_call 24; refine (kept_calls _ a c bs hbl w2 HK2.out HB2.out).mono ?_; rintro e w3 ⟨rfl, hd3⟩; have HD3 := Lib.hid hd3; clear hd3))
  go_ret
  exact ⟨rfl, F2, HW2.out.move (fun k _ => by rw [HD3.out.heap]), (HS1.out.trans HS2.out).trans (HD3.out.st _)⟩
set_option maxRecDepth 100000 in
set_option maxHeartbeats 1000000 in
theorem lay9 (n : BitVec 64) (i : Int) (hi0 : -9223372036854775808 ≤ i) (hi1 : i ≤ 9223372036854775807) (f : Bool) (a : Option Addr) (c : Nat) (bs : List B8) (hbl : bs.length ≤ 140737488351232) (w : World) (F : Nat → Prop) (v : Value) (th : Bool) (s : WS) (hw : Wh w F v th s) (hb : Bs w a bs) (hd : Apart F a bs) :
    Calls Try.prog 36 #[v, .agg #[.int .i64 9, .int .u64 (n.toNat : Int), .int .i64 i, .bool f, .slice a bs.length c]] w (LawLay w F v th (putT th s (groupsB bs.length ++ bs))) := by
  have hxn := n.isLt
  have HW0 : Hid (Wh (w.alloc (.cells #[.int .i64 9, .int .u64 (n.toNat : Int), .int .i64 i, .bool f, .slice a bs.length c] 51)) F v th s) := Lib.hid (hw.st (St.alloc' No _ _) (Dj.no _))
  have HB0 : Hid (Bs (w.alloc (.cells #[.int .i64 9, .int .u64 (n.toNat : Int), .int .i64 i, .bool f, .slice a bs.length c] 51)) a bs) := Lib.hid (hb.st (St.alloc' No _ _) (Dj.no _))
  have HIN := Lib.hid hw.in
  have HD := Lib.hid hd
  clear hw hb hd
  go_enter Try.func36, Try.ntmps36
  go_wp2_with fail
  refine (handed_calls a c bs hbl _ HB0.out).mono ?_
  rintro e w1 ⟨v1, rfl, hh, hs⟩
  obtain ⟨b1, c1, rfl, hb1, hn1, hfp⟩ := hh.form
  have hk0 := World.cell?_of_block (a := ⟨w.heap.size, 0, none⟩) (hs.block w.heap.size (by simp) (fun h => h))
  have hk1 := World.cell?_of_block (a := ⟨w.heap.size, 1, none⟩) (hs.block w.heap.size (by simp) (fun h => h))
  have hk2 := World.cell?_of_block (a := ⟨w.heap.size, 2, none⟩) (hs.block w.heap.size (by simp) (fun h => h))
  have hk3 := World.cell?_of_block (a := ⟨w.heap.size, 3, none⟩) (hs.block w.heap.size (by simp) (fun h => h))
  have hk4 := World.cell?_of_block (a := ⟨w.heap.size, 4, none⟩) (hs.block w.heap.size (by simp) (fun h => h))
  simp [-World.size_alloc] at hk0 hk1 hk2 hk3 hk4
  have HW1 : Hid (Wh w1 F v th s) := Lib.hid (HW0.out.st hs (Dj.no _))
  have HB1 : Hid (Bs w1 a bs) := Lib.hid (HB0.out.st hs (Dj.no _))
  have HH1 := Lib.hid hh
  have HDH : Hid (Dj F (fpV (.slice b1 bs.length c1))) := Lib.hid (fun k hk h2 => (hs.new k h2).elim (fun h => h) (fun h => by have := HIN.out k hk; simp at h; omega))
  have HDB : Hid (Dj F (fpA b1)) := Lib.hid (fun k hk h2 => HDH.out k hk ((hfp k).1 h2))
  have HBB := Lib.hid hb1
  have HNB := Lib.hid hn1
  have HS1 : Hid (St F w F w1) := Lib.hid (((St.alloc' F w _).trans (hs.wide (fun _ h => h.elim) (fun k h => .inr h))).drop (fun k hk => .inl hk))
  have HSZ : Hid (w.heap.size < w1.heap.size) := Lib.hid (by have := hs.size; simp at this; omega)
  clear hs hh hfp hb1 hn1
  go_wp2_with (first
    | (go_at_call 77; refine (block_h b1 c1 bs HNB.out hbl w1 F v th s HW1.out HBB.out (.inr HDB.out)).mono ?_; rintro e w2 ⟨rfl, F2, hw2, st2⟩; have hk4' := (World.cell?_of_block (a := ⟨w.heap.size, 4, none⟩) (st2.block w.heap.size HSZ.out (fun hf => Nat.lt_irrefl _ (HIN.out _ hf)))).trans hk4; have HK2 : Hid (Hand w2 a bs (.slice b1 bs.length c1)) := Lib.hid (HH1.out.st st2 HDH.out); have HB2 : Hid (Bs w2 a bs) := Lib.hid (HB1.out.stA st2 HD.out); have HW2 := Lib.hid hw2; have HS2 := Lib.hid st2; clear hw2 st2)
    | (go_at_call 24; refine (kept_calls _ a c bs hbl w2 HK2.out HB2.out).mono ?_; rintro e w3 ⟨rfl, hd3⟩; have HD3 := Lib.hid hd3; clear hd3))
  go_ret
  exact ⟨rfl, F2, HW2.out.move (fun k _ => by rw [HD3.out.heap]), (HS1.out.trans HS2.out).trans (HD3.out.st _)⟩
theorem lawLay_calls (t : Th) (h1 : 1 ≤ t.kind) (h9 : t.kind ≤ 9) (w : World) (F : Nat → Prop) (v : Value) (th : Bool) (s : WS) (hw : Wh w F v th s) (ht : t.ok w) (hd : Apart F t.a t.bs) :
    Calls Try.prog 36 #[v, .agg t.cells] w (LawLay w F v th (putT th s t.bytes)) := by
  obtain ⟨k, n, i, f, a, c, bs⟩ := t
  have a1 := ht.ilo
  have a2 := ht.ihi
  have a3 := ht.len
  have a4 := ht.rd
  simp only at h1 h9 a1 a2 a3 a4 hd
  rcases (by omega : k = 1 ∨ k = 2 ∨ k = 3 ∨ k = 4 ∨ k = 5 ∨ k = 6 ∨ k = 7 ∨ k = 8 ∨ k = 9) with rfl | rfl | rfl | rfl | rfl | rfl | rfl | rfl | rfl
  · exact lay1 n i a1 a2 f a c bs a3 w F v th s hw a4 hd
  · exact lay2 n i a1 a2 f a c bs a3 w F v th s hw a4 hd
  · exact lay3 n i a1 a2 f a c bs a3 w F v th s hw a4 hd
  · exact lay4 n i a1 a2 f a c bs a3 w F v th s hw a4 hd
  · exact lay5 n i a1 a2 f a c bs a3 w F v th s hw a4 hd
  · exact lay6 n i a1 a2 f a c bs a3 w F v th s hw a4 hd
  · exact lay7 n i a1 a2 f a c bs a3 w F v th s hw a4 hd
  · exact lay8 n i a1 a2 f a c bs a3 w F v th s hw a4 hd
  · exact lay9 n i a1 a2 f a c bs a3 w F v th s hw a4 hd
end Go.Proofs.Ytfhoekcmkbeabaa
