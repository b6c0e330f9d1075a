
/-
  The walks over the program's shaped and Look.
  The walk over the program's Look, behind its first test.
  The walk over the program's Look.
-/
import Derived.Test.YtoeafacamapofaaFgLookR
import Derived.Test.YtoeafacamapofaaFgProg2
import Derived.Test.YtoeafacamapofaaCwReader4
import Derived.Test.YtoeafacamapofaaCwBase
namespace Go.Proofs.Ytoeafacamapofaa
open Go.RowKit
set_option linter.unusedVariables false
set_option linter.unusedSimpArgs false

def BoolOut (w : World) (b : Bool) (e : Ending) (w' : World) : Prop := e = .returned (.bool b) ∧ St No w No w'
set_option maxRecDepth 100000 in
set_option maxHeartbeats 2000000 in
theorem shaped_calls (f : Fg) (a : Option Addr) (c : Nat) (hi : f.index ≤ 255) (hc : f.count ≤ 255) (ht : f.total ≤ 65535) (hp : f.part.length ≤ 1024) (w : World) :
    Calls Try.prog 87 #[.agg (f.cells a c)] w (BoolOut w (decide (shapedN f.total f.count f.index f.part.length))) := by
  obtain ⟨id, I, C, T, part⟩ := f
  simp only at hi hc ht hp
  unfold Fg.cells
  simp only
  generalize part.length = L at *
  have HS : Hid (shapedN T C I L ↔ 1 ≤ T ∧ T ≤ 4096 ∧ 1 ≤ C ∧ C ≤ 128 ∧ I < C ∧ (C - 1) * sizeN T C < T ∧ L = if I < C - 1 then sizeN T C else T - (C - 1) * sizeN T C) := Lib.hid Iff.rfl
  have HST := Lib.hid (St.alloc' No w (.cells #[.int .u64 (id.toNat : Int), .int .i64 (I : Int), .int .i64 (C : Int), .int .i64 (T : Int), .slice a L c] 70))
  by_cases s1 : T < 1
  · have t1 : decide ((T : Int) < 1) = true := decide_eq_true (by omega)
    have t1' : decide (T < 1) = true := decide_eq_true (by omega)
    have HN : Hid (decide (shapedN T C I L) = false) := Lib.hid (decide_eq_false (fun h => by have := HS.out.1 h; omega))
    clear s1
    go_enter Try.func87, Try.ntmps87
    go_wp2
    go_ret
    exact ⟨by rw [HN.out]; rfl, HST.out⟩
  have t1 : decide ((T : Int) < 1) = false := decide_eq_false (by omega)
  have t1' : decide (T < 1) = false := decide_eq_false (by omega)
  by_cases s2 : 4096 < T
  · have t2 : decide (4096 < (T : Int)) = true := decide_eq_true (by omega)
    have HN : Hid (decide (shapedN T C I L) = false) := Lib.hid (decide_eq_false (fun h => by have := HS.out.1 h; omega))
    clear s1 s2
    go_enter Try.func87, Try.ntmps87
    go_wp2
    go_ret
    exact ⟨by rw [HN.out]; rfl, HST.out⟩
  have t2 : decide (4096 < (T : Int)) = false := decide_eq_false (by omega)
  by_cases s3 : C < 1
  · have t3 : decide ((C : Int) < 1) = true := decide_eq_true (by omega)
    have t3' : decide (C < 1) = true := decide_eq_true (by omega)
    have HN : Hid (decide (shapedN T C I L) = false) := Lib.hid (decide_eq_false (fun h => by have := HS.out.1 h; omega))
    clear s1 s2 s3
    go_enter Try.func87, Try.ntmps87
    go_wp2
    go_ret
    exact ⟨by rw [HN.out]; rfl, HST.out⟩
  have t3 : decide ((C : Int) < 1) = false := decide_eq_false (by omega)
  have t3' : decide (C < 1) = false := decide_eq_false (by omega)
  by_cases s4 : 128 < C
  · have t4 : decide (128 < (C : Int)) = true := decide_eq_true (by omega)
    have HN : Hid (decide (shapedN T C I L) = false) := Lib.hid (decide_eq_false (fun h => by have := HS.out.1 h; omega))
    clear s1 s2 s3 s4
    go_enter Try.func87, Try.ntmps87
    go_wp2
    go_ret
    exact ⟨by rw [HN.out]; rfl, HST.out⟩
  have t4 : decide (128 < (C : Int)) = false := decide_eq_false (by omega)
  by_cases s5 : C ≤ I
  · have t5 : decide ((C : Int) ≤ (I : Int)) = true := decide_eq_true (by omega)
    have t5' : decide (C ≤ I) = true := decide_eq_true (by omega)
    have HN : Hid (decide (shapedN T C I L) = false) := Lib.hid (decide_eq_false (fun h => by have := HS.out.1 h; omega))
    clear s1 s2 s3 s4 s5
    go_enter Try.func87, Try.ntmps87
    go_wp2
    go_ret
    exact ⟨by rw [HN.out]; rfl, HST.out⟩
  have t5 : decide ((C : Int) ≤ (I : Int)) = false := decide_eq_false (by omega)
  have t5' : decide (C ≤ I) = false := decide_eq_false (by omega)
  have hS : sizeN T C ≤ 4096 := (ceil_le (by omega)).2 (by have := Nat.mul_le_mul_left 4096 (show 1 ≤ C by omega); omega)
  have HSZ := Lib.hid (fun w => sizeOf_calls T C (by omega) (by omega) (by omega) w)
  generalize sizeN T C = S at *
  have hm : (C - 1) * S ≤ 128 * 4096 := Nat.mul_le_mul (by omega) hS
  have hw1 : IntKind.i64.wrap (((C : Int) - 1) * (S : Int)) = (((C - 1) * S : Nat) : Int) := by
    have e : (((C - 1) * S : Nat) : Int) = ((C : Int) - 1) * (S : Int) := by rw [Int.natCast_mul, Int.natCast_sub (by omega)]; rfl
    rw [IntKind.wrap_i64, ← e]; omega
  generalize (C - 1) * S = M at *
  by_cases s6 : M < T
  · by_cases s7 : I < C - 1
    · have HN : Hid (shapedN T C I L ↔ L = S) := Lib.hid (by rw [HS.out, if_pos s7]; omega)
      by_cases s8 : L = S
      · have HN2 : Hid (decide (shapedN T C I L) = true) := Lib.hid (decide_eq_true (HN.out.2 s8))
        have hb : ((L : Int) == (S : Int)) = true := by rw [s8]; simp
        have hb2 : (L == S) = true := by rw [s8]; simp
        clear s8
        go_enter Try.func87, Try.ntmps87
        go_wp2_with (go_at_call 70; refine (HSZ.out _).mono ?_; rintro e w1 ⟨rfl, rfl⟩)
        go_ret
        exact ⟨by rw [HN2.out]; rfl, HST.out⟩
      · have HN2 : Hid (decide (shapedN T C I L) = false) := Lib.hid (decide_eq_false (fun h => s8 (HN.out.1 h)))
        have hb : ((L : Int) == (S : Int)) = false := beq_eq_false_iff_ne.2 (by omega)
        have hb2 : (L == S) = false := beq_eq_false_iff_ne.2 s8
        clear s8
        go_enter Try.func87, Try.ntmps87
        go_wp2_with (go_at_call 70; refine (HSZ.out _).mono ?_; rintro e w1 ⟨rfl, rfl⟩)
        go_ret
        exact ⟨by rw [HN2.out]; rfl, HST.out⟩
    · have HN : Hid (shapedN T C I L ↔ L = T - M) := Lib.hid (by rw [HS.out, if_neg s7]; omega)
      by_cases s8 : L = T - M
      · have HN2 : Hid (decide (shapedN T C I L) = true) := Lib.hid (decide_eq_true (HN.out.2 s8))
        have hb : ((L : Int) == (T : Int) - (M : Int)) = true := by rw [beq_iff_eq]; omega
        clear s8
        go_enter Try.func87, Try.ntmps87
        go_wp2_with (go_at_call 70; refine (HSZ.out _).mono ?_; rintro e w1 ⟨rfl, rfl⟩)
        go_ret
        exact ⟨by rw [HN2.out]; rfl, HST.out⟩
      · have HN2 : Hid (decide (shapedN T C I L) = false) := Lib.hid (decide_eq_false (fun h => s8 (HN.out.1 h)))
        have hb : ((L : Int) == (T : Int) - (M : Int)) = false := beq_eq_false_iff_ne.2 (by omega)
        clear s8
        go_enter Try.func87, Try.ntmps87
        go_wp2_with (go_at_call 70; refine (HSZ.out _).mono ?_; rintro e w1 ⟨rfl, rfl⟩)
        go_ret
        exact ⟨by rw [HN2.out]; rfl, HST.out⟩
  · have HN : Hid (decide (shapedN T C I L) = false) := Lib.hid (decide_eq_false (fun h => by have := HS.out.1 h; omega))
    go_enter Try.func87, Try.ntmps87
    go_wp2_with (go_at_call 70; refine (HSZ.out _).mono ?_; rintro e w1 ⟨rfl, rfl⟩)
    go_ret
    exact ⟨by rw [HN.out]; rfl, HST.out⟩
end Go.Proofs.Ytoeafacamapofaa
namespace Go.Proofs.Ytoeafacamapofaa
open Go.RowKit
set_option linter.unusedVariables false
set_option linter.unusedSimpArgs false

theorem fainfo : (Try.prog.info? 70).map (·.size) = some 5 := by kernel_rfl
theorem sum32 {cr : BitVec 32} {xs : List B8} (hl : xs.length ≤ 4) : cr.setWidth 64 = numB xs ↔ cr = (numB xs).setWidth 32 := by
  have h := numB_lt xs 4 hl (by omega)
  constructor
  · intro e
    apply BitVec.eq_of_toNat_eq
    rw [BitVec.toNat_setWidth, ← e, BitVec.toNat_setWidth]
    have := cr.isLt
    omega
  · intro e
    apply BitVec.eq_of_toNat_eq
    rw [BitVec.toNat_setWidth, e, BitVec.toNat_setWidth]
    omega
theorem took_fit {bs : List B8} {n : Nat} (h : n ≤ bs.length) : RS.took ⟨bs, 0⟩ n = ⟨bs.drop n, 0⟩ := by unfold RS.took; rw [if_pos rfl, if_pos h]
theorem numT_fit {bs : List B8} {n : Nat} (h : n ≤ bs.length) : numT true ⟨bs, 0⟩ n = numB (bs.take n) := by unfold numT; rw [if_pos (by simp [takes, opens]; exact h)]
theorem raw_fit {bs : List B8} {n : Nat} (h : n ≤ bs.length) : RS.raw ⟨bs, 0⟩ (n : Int) = ⟨bs.drop n, 0⟩ ∧ rawB true ⟨bs, 0⟩ (n : Int) = bs.take n := by
  unfold RS.raw rawB
  rw [if_neg (by omega), if_neg (by omega), Int.toNat_natCast, took_fit h, if_pos (by simp [takes, opens]; exact h)]
  exact ⟨rfl, rfl⟩
theorem cut8_eq {xs : List B8} (h : xs.length ≤ 1) : (((numB xs).setWidth 8).toNat : Int) = ((numB xs).toNat : Int) := by
  have := numB_lt xs 1 h (by omega)
  rw [BitVec.toNat_setWidth, Nat.mod_eq_of_lt this]
theorem cut16_eq {xs : List B8} (h : xs.length ≤ 2) : (((numB xs).setWidth 16).toNat : Int) = ((numB xs).toNat : Int) := by
  have := numB_lt xs 2 h (by omega)
  rw [BitVec.toNat_setWidth, Nat.mod_eq_of_lt this]

theorem Rh.set {w : World} {v : Value} {th : Bool} {p : Nat} {D : Nat → Prop} {s : RS} (h : Rh w v th p D s) {p7 : Nat} (h1 : p7 ≠ p) (h2 : ¬ D p7) (i : Nat) (x : Value) : Rh (w.setCell ⟨p7, i, none⟩ x) v th p D s :=
  h.st (St.setCell (F := fpR p7) w ⟨p7, i, none⟩ x rfl) (fun e => h1 (by have e2 : p = p7 := e; exact e2.symm)) (fun k hk hd => h2 (by have e2 : k = p7 := hk; rw [← e2]; exact hd))
theorem St.newB {w x x' : World} {F F' : Nat → Prop} (h : St No w No x) (s : St F x F' x') (hF : ∀ k, F k → w.heap.size ≤ k) : St No w No x' :=
  (h.toNew.trans (s.wide (F' := Nw w) hF (fun k hk => .inr hk))).drop (fun _ h => h.elim)
set_option maxRecDepth 100000 in
set_option maxHeartbeats 2000000 in
theorem look_deep (y : Addr) (c : Nat) (d : List B8) (h1 : ¬ d.length < 19) (h2 : ¬ 1024 < d.length) (hlc : d.length ≤ c) (hcm : c ≤ 9223372036854775807) (w : World) (ha : Bs w (some y) d) (h3 : d[0]? = some 214#8) (h4 : d[1]? = some 1#8) :
    Calls Try.prog 46 #[.slice (some y) d.length c] w (FOut w (lookF d) (lookE d)) := by
  have hu := Try.underlying70
  have g1 : decide ((d.length : Int) < 19) = false := decide_eq_false (by omega)
  have g2 : decide (d.length < 19) = false := decide_eq_false (by omega)
  have g3 : decide (1024 < (d.length : Int)) = false := decide_eq_false (by omega)
  have g4 : decide (1024 < d.length) = false := decide_eq_false (by omega)
  have HA1 := Lib.hid (ha.st (St.alloc' No w (.cells #[.int .u64 0, .int .i64 0, .int .i64 0, .int .i64 0, .slice none 0 0] 70)) (Dj.no _))
  have e0 : d[0]'(by omega) = 214#8 := by rw [List.getElem?_eq_getElem (by omega)] at h3; exact Option.some.inj h3
  have e1 : d[1]'(by omega) = 1#8 := by rw [List.getElem?_eq_getElem (by omega)] at h4; exact Option.some.inj h4
  have hc1 := HA1.out.lit 0 (by omega)
  have hc0 := HA1.out.lit0 (by omega)
  simp only [Nat.zero_add] at hc1
  rw [e0] at hc0
  rw [e1] at hc1
  replace hc0 : (w.alloc (.cells #[.int .u64 0, .int .i64 0, .int .i64 0, .int .i64 0, .slice none 0 0] 70)).cell? y = some (.int .u8 214) := hc0
  replace hc1 : (w.alloc (.cells #[.int .u64 0, .int .i64 0, .int .i64 0, .int .i64 0, .slice none 0 0] 70)).cell? ⟨y.block, y.off + 1, none⟩ = some (.int .u8 1) := hc1
  have HE : Hid (lookE d = if ¬ crcB (d.take (d.length - 4)) = (numB ((d.drop (d.length - 4)).take 4)).setWidth 32 then 43
    else if shapedN (readF d).total (readF d).count (readF d).index (d.length - 18) then 0 else 42) := Lib.hid (by
    have hs := sum32 (cr := crcB (d.take (d.length - 4))) (xs := (d.drop (d.length - 4)).take 4) (by rw [List.length_take]; omega)
    unfold lookE
    rw [h3, h4, if_neg (by simp; omega)]
    by_cases hq : (crcB (d.take (d.length - 4))).setWidth 64 = numB ((d.drop (d.length - 4)).take 4)
    · rw [if_neg (fun h => h hq)]
      exact (if_neg (fun h => h (hs.1 hq))).symm
    · rw [if_pos hq]
      exact (if_pos (fun e => hq (hs.2 e))).symm)
  have HF : Hid (lookF d = if lookE d = 0 then readF d else noF) := Lib.hid rfl
  have HRF : Hid (readF d = ⟨numB ((d.drop 2).take 8), (numB ((d.drop 12).take 1)).toNat, (numB ((d.drop 13).take 1)).toNat, (numB ((d.drop 10).take 2)).toNat, (d.drop 14).take (d.length - 18)⟩) := Lib.hid rfl
  have HAW := Lib.hid ha
  clear e0 e1 ha h3 h4
  go_enter Try.func46, Try.ntmps46
  go_wp2_with fail
  have HO0 : Hid (Ob (w.alloc (.cells #[.int .u64 0, .int .i64 0, .int .i64 0, .int .i64 0, .slice none 0 0] 70)) w.heap.size 70 #[.int .u64 0, .int .i64 0, .int .i64 0, .int .i64 0, .slice none 0 0]) := Lib.hid (Ob.alloc w _ _)
  have HS0 : Hid (St No w No (w.alloc (.cells #[.int .u64 0, .int .i64 0, .int .i64 0, .int .i64 0, .slice none 0 0] 70))) := Lib.hid (St.alloc' No w _)
  generalize (w.alloc (.cells #[.int .u64 0, .int .i64 0, .int .i64 0, .int .i64 0, .slice none 0 0] 70)) = w0 at *
  have HR0 : Hid (Nw w w.heap.size) := Lib.hid (Nat.le_refl _)
  generalize w.heap.size = r0 at *
  clear hc0 hc1
  refine (newReader_calls (some y) c d w0 HA1.out).mono ?_
  rintro e w1 ⟨v, p, D, rfl, hr1, hlo, hin1, hp1, hs1⟩
  have hle : d.length ≤ 16777216 := by omega
  rw [decide_eq_true hle] at hr1
  rw [if_pos hle]
  rcases hr1 with ⟨h, _⟩ | ⟨_, rfl, hrr, hdp⟩
  · cases h
  have HR1 : Hid (Rh w1 (.pointer (some ⟨p, 0, none⟩)) true p D ⟨d, 0⟩) := Lib.hid (.inr ⟨rfl, rfl, hrr, hdp⟩)
  have HP1 : Hid (p < w1.heap.size) := Lib.hid (by obtain ⟨_, _, ho, _⟩ := hrr; exact ho.lt)
  have HIN1 := Lib.hid hin1
  have HLO := Lib.hid hlo
  have HP0 := Lib.hid hp1
  have HS1 := Lib.hid hs1
  have HO1 : Hid (Ob w1 r0 70 #[.int .u64 0, .int .i64 0, .int .i64 0, .int .i64 0, .slice none 0 0]) := Lib.hid (HO0.out.move (hs1.block _ HO0.out.lt (fun h => h)))
  have HRP : Hid (r0 ≠ p) := Lib.hid (by have := HO0.out.lt; omega)
  clear hle hrr hdp hin1 hlo hp1 hs1
  go_wp2_with fail
  refine (rRaw2_calls 2 (by omega) w1 _ true p D HIN1.out (fun _ => HP1.out) ⟨d, 0⟩ (by show d.length ≤ _; omega) HR1.out).mono ?_
  rintro e w2 ⟨V2, rfl, _, hr2, hs2, _⟩
  have e2 := (raw_fit (bs := d) (n := 2) (by omega)).1
  rw [show ((2 : Nat) : Int) = 2 by rfl] at e2
  rw [e2] at hr2
  have HR2 := Lib.hid hr2
  have HS2 : Hid (St (fpP p) w1 (Nw w1) w2) := Lib.hid hs2.toNew
  clear hr2 hs2 e2
  go_wp2_with fail
  refine (rU64_calls w2 _ true p D _ HR2.out).mono ?_
  rintro e w3 ⟨hr3, hs3, rfl⟩
  rw [took_fit (by simp; omega), List.drop_drop] at hr3
  rw [numT_fit (by simp; omega)]
  have HR3 := Lib.hid hr3
  have HS3 := Lib.hid hs3
  clear hr3 hs3
  have HPN : Hid (∀ k, fpP p k → w.heap.size ≤ k) := Lib.hid (fun k hk => by have e : k = p := hk; rw [e]; exact Nat.le_trans HS0.out.size HP0.out)
  have HW3 : Hid (St No w No w3) := Lib.hid (((HS0.out.trans HS1.out).newB HS2.out HPN.out).newB HS3.out HPN.out)
  have HO3 : Hid (Ob w3 r0 70 #[.int .u64 0, .int .i64 0, .int .i64 0, .int .i64 0, .slice none 0 0]) := Lib.hid ((HO1.out.move (HS2.out.block _ HO1.out.lt (fun h => HRP.out h))).move (HS3.out.block _ (Nat.lt_of_lt_of_le HO1.out.lt HS2.out.size) (fun h => HRP.out h)))
  have HSZ : Hid (w1.heap.size ≤ w3.heap.size) := Lib.hid (Nat.le_trans HS2.out.size HS3.out.size)
  generalize hid : numB ((d.drop 2).take 8) = id at *
  go_wp2_with fail
  have HO7a : Hid (Ob (w3.alloc (.cells #[.int .u64 (id.toNat : Int), .int .i64 0, .int .i64 0, .int .i64 0, .slice none 0 0] 70)) w3.heap.size 70 #[.int .u64 (id.toNat : Int), .int .i64 0, .int .i64 0, .int .i64 0, .slice none 0 0]) := Lib.hid (Ob.alloc w3 _ _)
  have HR3a : Hid (Rh (w3.alloc (.cells #[.int .u64 (id.toNat : Int), .int .i64 0, .int .i64 0, .int .i64 0, .slice none 0 0] 70)) (.pointer (some ⟨p, 0, none⟩)) true p D ⟨d.drop (2 + 8), 0⟩) := Lib.hid (HR3.out.st (St.alloc' No w3 _) (fun h => h) (Dj.no _))
  have HW3a : Hid (St No w No (w3.alloc (.cells #[.int .u64 (id.toNat : Int), .int .i64 0, .int .i64 0, .int .i64 0, .slice none 0 0] 70))) := Lib.hid (HW3.out.trans (St.alloc' No w3 _))
  have HO3a : Hid (Ob (w3.alloc (.cells #[.int .u64 (id.toNat : Int), .int .i64 0, .int .i64 0, .int .i64 0, .slice none 0 0] 70)) r0 70 #[.int .u64 0, .int .i64 0, .int .i64 0, .int .i64 0, .slice none 0 0]) := Lib.hid (HO3.out.move (Below.heap_alloc _ _ _ HO3.out.lt))
  have H7R : Hid (w3.heap.size ≠ r0) := Lib.hid (by have := HO3.out.lt; omega)
  have H7P : Hid (w3.heap.size ≠ p) := Lib.hid (by have := HP1.out; have := HSZ.out; omega)
  have H7D : Hid (¬ D w3.heap.size) := Lib.hid (fun h => by have := HIN1.out _ h; have := HSZ.out; omega)
  have H7N : Hid (Nw w w3.heap.size) := Lib.hid HW3.out.size
  have HSZ7 : Hid (w3.heap.size ≤ w3.heap.size) := Lib.hid (Nat.le_refl _)
  generalize (w3.alloc (.cells #[.int .u64 (id.toNat : Int), .int .i64 0, .int .i64 0, .int .i64 0, .slice none 0 0] 70)) = x3 at *
  generalize w3.heap.size = p7 at *
  refine (rU16_calls x3 _ true p D _ HR3a.out).mono ?_
  rintro e w4 ⟨hr4, hs4, rfl⟩
  rw [took_fit (by simp; omega), List.drop_drop] at hr4
  rw [numT_fit (by simp; omega), cut16_eq (by rw [List.length_take]; omega)]
  have HR4 := Lib.hid hr4
  have HO74 := Lib.hid (HO7a.out.move (hs4.block _ HO7a.out.lt (fun h => H7P.out h)))
  have HO4 := Lib.hid (HO3a.out.move (hs4.block _ HO3a.out.lt (fun h => HRP.out h)))
  have HW4 := Lib.hid (HW3a.out.newB hs4 HPN.out)
  have k43 : w4.cell? ⟨p7, 3, none⟩ = some (.int .i64 0) := by rw [HO74.out.cell 3]; rfl
  have f43 := HO74.out.free 3
  have hTl : (numB ((d.drop 10).take 2)).toNat ≤ 65535 := by have := numB_lt ((d.drop 10).take 2) 2 (by rw [List.length_take]; omega) (by omega); omega
  generalize hT : (numB ((d.drop 10).take 2)).toNat = T at *
  clear hT hid
  clear hr4 hs4
  go_wp2_with fail
  have HR4a := Lib.hid (HR4.out.set H7P.out H7D.out 3 (.int .i64 (T : Int)))
  have HO74a := Lib.hid (HO74.out.set 3 (.int .i64 (T : Int)))
  have HO4a := Lib.hid (HO4.out.move (Below.heap_setCell w4 ⟨p7, 3, none⟩ (.int .i64 (T : Int)) r0 (fun e => H7R.out e.symm)))
  have HW4a := Lib.hid (HW4.out.newB (St.setCell (F := fpR p7) w4 ⟨p7, 3, none⟩ (.int .i64 (T : Int)) rfl) (fun k hk => by have e : k = p7 := hk; rw [e]; exact H7N.out))
  generalize w4.setCell ⟨p7, 3, none⟩ (.int .i64 (T : Int)) = x4 at *
  clear k43 f43
  refine (rU8_calls x4 _ true p D _ HR4a.out).mono ?_
  rintro e w5 ⟨hr5, hs5, rfl⟩
  rw [took_fit (by simp; omega), List.drop_drop] at hr5
  rw [numT_fit (by simp; omega), cut8_eq (by rw [List.length_take]; omega)]
  have HR5 := Lib.hid hr5
  have HO75 := Lib.hid (HO74a.out.move (hs5.block _ HO74a.out.lt (fun h => H7P.out h)))
  have HO5 := Lib.hid (HO4a.out.move (hs5.block _ HO4a.out.lt (fun h => HRP.out h)))
  have HW5 := Lib.hid (HW4a.out.newB hs5 HPN.out)
  have k5 : w5.cell? ⟨p7, 1, none⟩ = some (.int .i64 0) := by rw [HO75.out.cell 1]; rfl
  have f5 := HO75.out.free 1
  have hIl : (numB ((d.drop 12).take 1)).toNat ≤ 255 := by have := numB_lt ((d.drop 12).take 1) 1 (by rw [List.length_take]; omega) (by omega); omega
  generalize hI : (numB ((d.drop 12).take 1)).toNat = I at *
  clear hr5 hs5 hI
  go_wp2_with fail
  have HR5a := Lib.hid (HR5.out.set H7P.out H7D.out 1 (.int .i64 (I : Int)))
  have HO75a := Lib.hid (HO75.out.set 1 (.int .i64 (I : Int)))
  have HO5a := Lib.hid (HO5.out.move (Below.heap_setCell w5 ⟨p7, 1, none⟩ (.int .i64 (I : Int)) r0 (fun e => H7R.out e.symm)))
  have HW5a := Lib.hid (HW5.out.newB (St.setCell (F := fpR p7) w5 ⟨p7, 1, none⟩ (.int .i64 (I : Int)) rfl) (fun k hk => by have e : k = p7 := hk; rw [e]; exact H7N.out))
  generalize w5.setCell ⟨p7, 1, none⟩ (.int .i64 (I : Int)) = x5 at *
  clear k5 f5
  refine (rU8_calls x5 _ true p D _ HR5a.out).mono ?_
  rintro e w6 ⟨hr6, hs6, rfl⟩
  rw [took_fit (by simp; omega), List.drop_drop] at hr6
  rw [numT_fit (by simp; omega), cut8_eq (by rw [List.length_take]; omega)]
  have HR6 := Lib.hid hr6
  have HO76 := Lib.hid (HO75a.out.move (hs6.block _ HO75a.out.lt (fun h => H7P.out h)))
  have HO6 := Lib.hid (HO5a.out.move (hs6.block _ HO5a.out.lt (fun h => HRP.out h)))
  have HW6 := Lib.hid (HW5a.out.newB hs6 HPN.out)
  have k6 : w6.cell? ⟨p7, 2, none⟩ = some (.int .i64 0) := by rw [HO76.out.cell 2]; rfl
  have f6 := HO76.out.free 2
  have hCl : (numB ((d.drop 13).take 1)).toNat ≤ 255 := by have := numB_lt ((d.drop 13).take 1) 1 (by rw [List.length_take]; omega) (by omega); omega
  generalize hC : (numB ((d.drop 13).take 1)).toNat = C at *
  clear hr6 hs6 hC
  go_wp2_with fail
  have HR6a := Lib.hid (HR6.out.set H7P.out H7D.out 2 (.int .i64 (C : Int)))
  have HO76a := Lib.hid (HO76.out.set 2 (.int .i64 (C : Int)))
  have HO6a := Lib.hid (HO6.out.move (Below.heap_setCell w6 ⟨p7, 2, none⟩ (.int .i64 (C : Int)) r0 (fun e => H7R.out e.symm)))
  have HW6a := Lib.hid (HW6.out.newB (St.setCell (F := fpR p7) w6 ⟨p7, 2, none⟩ (.int .i64 (C : Int)) rfl) (fun k hk => by have e : k = p7 := hk; rw [e]; exact H7N.out))
  generalize w6.setCell ⟨p7, 2, none⟩ (.int .i64 (C : Int)) = x6 at *
  clear k6 f6
  have HPX : Hid (p < x6.heap.size) := Lib.hid (by
    rcases HR6a.out with ⟨h, _⟩ | ⟨_, _, ⟨_, _, ho, _⟩, _⟩
    · cases h
    · exact ho.lt)
  have HINX : Hid (In D x6) := Lib.hid (fun k hk => Nat.lt_of_lt_of_le (HIN1.out k hk) (Nat.le_trans HSZ.out (Nat.le_of_lt (Nat.lt_of_le_of_lt HSZ7.out HO76a.out.lt))))
  refine (rRaw2_calls ((d.length : Int) - 14 - 4) (by omega) x6 _ true p D HINX.out (fun _ => HPX.out) _ (by show (d.drop _).length ≤ _; rw [List.length_drop]; omega) HR6a.out).mono ?_
  rintro e w7 ⟨V, rfl, ho7, hr7, hs7, hn7⟩
  rw [show (d.length : Int) - 14 - 4 = ((d.length - 18 : Nat) : Int) by omega] at ho7 hr7
  rw [(raw_fit (by rw [List.length_drop]; omega)).2] at ho7
  rw [(raw_fit (by rw [List.length_drop]; omega)).1, List.drop_drop] at hr7
  simp only [Nat.reduceAdd] at ho7 hr7
  rw [show 14 + (d.length - 18) = d.length - 4 by omega] at hr7
  have hVx : ∀ k, fpV V k → x6.heap.size ≤ k := hn7
  obtain ⟨aV, cV, eV, _⟩ := ho7.form
  generalize hL : ((d.drop 14).take (d.length - 18)).length = L at *
  have hL2 : L = d.length - 18 := by rw [← hL, List.length_take, List.length_drop]; omega
  have HL := Lib.hid hL2
  have HL3 := Lib.hid hL
  subst eV
  have HR7 := Lib.hid hr7
  have HO77 := Lib.hid (HO76a.out.move (hs7.block _ HO76a.out.lt (fun h => H7P.out h)))
  have HO7 := Lib.hid (HO6a.out.move (hs7.block _ HO6a.out.lt (fun h => HRP.out h)))
  have HW7 := Lib.hid (HW6a.out.newB hs7 HPN.out)
  have HV7 := Lib.hid ho7
  have HVN : Hid (∀ k, fpV (.slice aV L cV) k → w.heap.size ≤ k) := Lib.hid (fun k hk => Nat.le_trans HW6a.out.size (hVx k hk))
  have HV7P : Hid (¬ fpV (.slice aV L cV) p7) := Lib.hid (fun h => by have := hVx _ h; have := HO76a.out.lt; omega)
  have HVR : Hid (¬ fpV (.slice aV L cV) r0) := Lib.hid (fun h => by have := hVx _ h; have := HO6a.out.lt; omega)
  have HVP : Hid (¬ fpV (.slice aV L cV) p) := Lib.hid (fun h => by have := hVx _ h; have := HPX.out; omega)
  have k74 : w7.cell? ⟨p7, 4, none⟩ = some (.slice none 0 0) := by rw [HO77.out.cell 4]; rfl
  have f74 := HO77.out.free 4
  clear ho7 hr7 hs7 hn7 hVx hL2 hL
  go_wp2_with fail
  have HR7a := Lib.hid (HR7.out.set H7P.out H7D.out 4 (.slice aV L cV))
  have HO77a := Lib.hid (HO77.out.set 4 (.slice aV L cV))
  have HO7a := Lib.hid (HO7.out.move (Below.heap_setCell w7 ⟨p7, 4, none⟩ (.slice aV L cV) r0 (fun e => H7R.out e.symm)))
  have HV7a := Lib.hid (HV7.out.st (St.setCell (F := fpR p7) w7 ⟨p7, 4, none⟩ (.slice aV L cV) rfl) (fun k hk h => HV7P.out (by have e : k = p7 := hk; rw [← e]; exact h)))
  have HW7a := Lib.hid (HW7.out.newB (St.setCell (F := fpR p7) w7 ⟨p7, 4, none⟩ (.slice aV L cV) rfl) (fun k hk => by have e : k = p7 := hk; rw [e]; exact H7N.out))
  generalize w7.setCell ⟨p7, 4, none⟩ (.slice aV L cV) = x7 at *
  clear k74 f74
  have HCR : Hid (Calls Try.prog 85 #[.slice (some y) (d.length - 4) c] x7 fun e w' => e = .returned (.int .u32 ((crcB (d.take (d.length - 4))).toNat : Int)) ∧ x7 = w') := Lib.hid (by
    have e := crc_calls (some y) c (d.take (d.length - 4)) (by rw [List.length_take]; unfold maxLen; omega) x7 ((HAW.out.st HW7a.out (Dj.no _)).take _)
    rw [List.length_take, Nat.min_eq_left (by omega)] at e
    exact e)
  refine HCR.out.mono ?_
  rintro e x8 ⟨rfl, rfl⟩
  go_wp2_with fail
  refine (rU32_calls x7 _ true p D _ HR7a.out).mono ?_
  rintro e w8 ⟨_, hs8, rfl⟩
  rw [numT_fit (by simp; omega)]
  have HO78 := Lib.hid (HO77a.out.move (hs8.block _ HO77a.out.lt (fun h => H7P.out h)))
  have HO8 := Lib.hid (HO7a.out.move (hs8.block _ HO7a.out.lt (fun h => HRP.out h)))
  have HW8 := Lib.hid (HW7a.out.newB hs8 HPN.out)
  have HV8 := Lib.hid (HV7a.out.st hs8 (fun k hk h => HVP.out (by have e : k = p := hk; rw [← e]; exact h)))
  clear hs8
  generalize (numB ((d.drop (d.length - 4)).take 4)).setWidth 32 = nb at *
  generalize crcB (d.take (d.length - 4)) = cr at *
  have hcn := int_eq_bv cr nb
  have q0 : w8.cell? ⟨r0, 0, none⟩ = some (.int .u64 0) := by rw [HO8.out.cell 0]; rfl
  have p0 := HO8.out.free 0
  have q1 : w8.cell? ⟨r0, 1, none⟩ = some (.int .i64 0) := by rw [HO8.out.cell 1]; rfl
  have p1 := HO8.out.free 1
  have q2 : w8.cell? ⟨r0, 2, none⟩ = some (.int .i64 0) := by rw [HO8.out.cell 2]; rfl
  have p2 := HO8.out.free 2
  have q3 : w8.cell? ⟨r0, 3, none⟩ = some (.int .i64 0) := by rw [HO8.out.cell 3]; rfl
  have p3 := HO8.out.free 3
  have q4 : w8.cell? ⟨r0, 4, none⟩ = some (.slice none 0 0) := by rw [HO8.out.cell 4]; rfl
  have p4 := HO8.out.free 4
  by_cases hq : cr = nb
  · rw [if_neg (by simp [hq])] at HE
    have hcne : (((cr.toNat : Nat) : Int) != ((nb.toNat : Nat) : Int)) = false := by unfold bne; rw [hcn, decide_eq_true hq]; rfl
    rw [HRF.out] at HE HF
    simp only at HE
    rw [← HL.out] at HE
    have HSH : Hid (∀ w, Calls Try.prog 87 #[.agg #[.int .u64 (id.toNat : Int), .int .i64 (I : Int), .int .i64 (C : Int), .int .i64 (T : Int), .slice aV L cV]] w (BoolOut w (decide (shapedN T C I L)))) := Lib.hid (fun w => by
      have e := shaped_calls ⟨id, I, C, T, (d.drop 14).take (d.length - 18)⟩ aV cV hIl hCl hTl (by show ((d.drop 14).take (d.length - 18)).length ≤ 1024; rw [HL3.out]; have := HL.out; omega) w
      unfold Fg.cells at e
      simp only [HL3.out] at e
      exact e)
    clear hcn hq
    have k0 : w8.cell? ⟨p7, 0, none⟩ = some (.int .u64 (id.toNat : Int)) := by rw [HO78.out.cell 0]; rfl
    have k1 : w8.cell? ⟨p7, 1, none⟩ = some (.int .i64 (I : Int)) := by rw [HO78.out.cell 1]; rfl
    have k2 : w8.cell? ⟨p7, 2, none⟩ = some (.int .i64 (C : Int)) := by rw [HO78.out.cell 2]; rfl
    have k3 : w8.cell? ⟨p7, 3, none⟩ = some (.int .i64 (T : Int)) := by rw [HO78.out.cell 3]; rfl
    have k4 : w8.cell? ⟨p7, 4, none⟩ = some (.slice aV L cV) := by rw [HO78.out.cell 4]; rfl
    go_wp2_with fail
    refine (HSH.out w8).mono ?_
    rintro e w9 ⟨rfl, hs9⟩
    have HO79 := Lib.hid (HO78.out.move (hs9.block _ HO78.out.lt (fun h => h)))
    have HO9 := Lib.hid (HO8.out.move (hs9.block _ HO8.out.lt (fun h => h)))
    have HW9 := Lib.hid (HW8.out.trans hs9)
    have HV9 := Lib.hid (HV8.out.st hs9 (Dj.no _))
    clear hs9 q0 q1 q2 q3 q4 p0 p1 p2 p3 p4 k0 k1 k2 k3 k4
    have q0 : w9.cell? ⟨r0, 0, none⟩ = some (.int .u64 0) := by rw [HO9.out.cell 0]; rfl
    have p0 := HO9.out.free 0
    have q1 : w9.cell? ⟨r0, 1, none⟩ = some (.int .i64 0) := by rw [HO9.out.cell 1]; rfl
    have p1 := HO9.out.free 1
    have q2 : w9.cell? ⟨r0, 2, none⟩ = some (.int .i64 0) := by rw [HO9.out.cell 2]; rfl
    have p2 := HO9.out.free 2
    have q3 : w9.cell? ⟨r0, 3, none⟩ = some (.int .i64 0) := by rw [HO9.out.cell 3]; rfl
    have p3 := HO9.out.free 3
    have q4 : w9.cell? ⟨r0, 4, none⟩ = some (.slice none 0 0) := by rw [HO9.out.cell 4]; rfl
    have p4 := HO9.out.free 4
    have k0 : w9.cell? ⟨p7, 0, none⟩ = some (.int .u64 (id.toNat : Int)) := by rw [HO79.out.cell 0]; rfl
    have k1 : w9.cell? ⟨p7, 1, none⟩ = some (.int .i64 (I : Int)) := by rw [HO79.out.cell 1]; rfl
    have k2 : w9.cell? ⟨p7, 2, none⟩ = some (.int .i64 (C : Int)) := by rw [HO79.out.cell 2]; rfl
    have k3 : w9.cell? ⟨p7, 3, none⟩ = some (.int .i64 (T : Int)) := by rw [HO79.out.cell 3]; rfl
    have k4 : w9.cell? ⟨p7, 4, none⟩ = some (.slice aV L cV) := by rw [HO79.out.cell 4]; rfl
    by_cases hsh : shapedN T C I L
    · rw [if_pos hsh] at HE
      rw [HE.out, if_pos rfl] at HF
      rw [decide_eq_true hsh]
      have HOZ := Lib.hid (((((HO9.out.set 0 (.int .u64 (id.toNat : Int))).set 1 (.int .i64 (I : Int))).set 2 (.int .i64 (C : Int))).set 3 (.int .i64 (T : Int))).set 4 (.slice aV L cV))
      have HSE := Lib.hid (HW9.out.newB (st5 w9 (F := fpR r0) rfl (.int .u64 (id.toNat : Int)) (.int .i64 (I : Int)) (.int .i64 (C : Int)) (.int .i64 (T : Int)) (.slice aV L cV)) (fun k hk => by have e : k = r0 := hk; rw [e]; exact HR0.out))
      have HSF := Lib.hid (HSE.out.toNew.drop (G' := fpV (.slice aV L cV)) (fun k hk => .inr (HVN.out k hk)))
      have HVF := Lib.hid (HV9.out.st (st5 w9 (F := fpR r0) rfl (.int .u64 (id.toNat : Int)) (.int .i64 (I : Int)) (.int .i64 (C : Int)) (.int .i64 (T : Int)) (.slice aV L cV)) (fun k hk h => HVR.out (by have e : k = r0 := hk; rw [← e]; exact h)))
      clear hsh
      go_wp2
      refine bodyPost_ret (results_cell_row_tmp rfl _ _ r0 _ _ _ _ rfl HOZ.out hu rfl fainfo) rfl ?_
      rw [HF.out, HE.out]
      exact ⟨_, rfl, HVF.out, HSF.out⟩
    · rw [if_neg hsh] at HE
      rw [decide_eq_false hsh]
      clear hsh
      have HOZ := Lib.hid (((((HO9.out.set 0 (.int .u64 0)).set 1 (.int .i64 0)).set 2 (.int .i64 0)).set 3 (.int .i64 0)).set 4 (.slice none 0 0))
      have HSE := Lib.hid (HW9.out.newB (st5 w9 (F := fpR r0) rfl (.int .u64 0) (.int .i64 0) (.int .i64 0) (.int .i64 0) (.slice none 0 0)) (fun k hk => by have e : k = r0 := hk; rw [e]; exact HR0.out))
      go_wp2
      refine bodyPost_ret (results_cell_row_tmp rfl _ _ r0 _ _ _ _ rfl HOZ.out hu rfl fainfo) rfl ?_
      exact FOut.bad HE.out (by decide) HSE.out
  · rw [if_pos hq] at HE
    have hcne : (((cr.toNat : Nat) : Int) != ((nb.toNat : Nat) : Int)) = true := by unfold bne; rw [hcn, decide_eq_false hq]; rfl
    clear hcn hq
    have HOZ := Lib.hid (((((HO8.out.set 0 (.int .u64 0)).set 1 (.int .i64 0)).set 2 (.int .i64 0)).set 3 (.int .i64 0)).set 4 (.slice none 0 0))
    have HSE := Lib.hid (HW8.out.newB (st5 w8 (F := fpR r0) rfl (.int .u64 0) (.int .i64 0) (.int .i64 0) (.int .i64 0) (.slice none 0 0)) (fun k hk => by have e : k = r0 := hk; rw [e]; exact HR0.out))
    go_wp2
    refine bodyPost_ret (results_cell_row_tmp rfl _ _ r0 _ _ _ _ rfl HOZ.out hu rfl fainfo) rfl ?_
    exact FOut.bad HE.out (by decide) HSE.out
end Go.Proofs.Ytoeafacamapofaa
namespace Go.Proofs.Ytoeafacamapofaa
open Go.RowKit
set_option linter.unusedVariables false
set_option linter.unusedSimpArgs false

set_option maxRecDepth 100000 in
set_option maxHeartbeats 2000000 in
theorem look_calls (a : Option Addr) (c : Nat) (d : List B8) (hl : d.length ≤ 140737488351300) (hlc : d.length ≤ c) (hcm : c ≤ maxLen) (w : World) (ha : Bs w a d) :
    Calls Try.prog 46 #[.slice a d.length c] w (FOut w (lookF d) (lookE d)) := by
  have hu := Try.underlying70
  have HE : Hid (lookE d = if d.length < 19 ∨ 1024 < d.length ∨ d[0]? ≠ some 214#8 ∨ d[1]? ≠ some 1#8 then 42
    else if (crcB (d.take (d.length - 4))).setWidth 64 ≠ numB ((d.drop (d.length - 4)).take 4) then 43
    else if shapedN (readF d).total (readF d).count (readF d).index (d.length - 18) then 0 else 42) := Lib.hid rfl
  unfold maxLen at hcm
  by_cases h1 : d.length < 19
  · rw [if_pos (.inl h1)] at HE
    have g1 : decide ((d.length : Int) < 19) = true := decide_eq_true (by omega)
    have g2 : decide (d.length < 19) = true := decide_eq_true (by omega)
    clear ha
    go_enter Try.func46, Try.ntmps46
    go_wp2
    exact bodyPost_ret (v := .tuple #[.agg #[.int .u64 0, .int .i64 0, .int .i64 0, .int .i64 0, .slice none 0 0], .int .i64 42]) (by simp [results, Try.results46, go_sem]) rfl (FOut.bad HE.out (by decide) (St.alloc' No w _))
  have g1 : decide ((d.length : Int) < 19) = false := decide_eq_false (by omega)
  have g2 : decide (d.length < 19) = false := decide_eq_false (by omega)
  by_cases h2 : 1024 < d.length
  · rw [if_pos (.inr (.inl h2))] at HE
    have g3 : decide (1024 < (d.length : Int)) = true := decide_eq_true (by omega)
    have g4 : decide (1024 < d.length) = true := decide_eq_true (by omega)
    clear ha
    go_enter Try.func46, Try.ntmps46
    go_wp2
    exact bodyPost_ret (v := .tuple #[.agg #[.int .u64 0, .int .i64 0, .int .i64 0, .int .i64 0, .slice none 0 0], .int .i64 42]) (by simp [results, Try.results46, go_sem]) rfl (FOut.bad HE.out (by decide) (St.alloc' No w _))
  have g3 : decide (1024 < (d.length : Int)) = false := decide_eq_false (by omega)
  have g4 : decide (1024 < d.length) = false := decide_eq_false (by omega)
  have HA1 := Lib.hid (ha.st (St.alloc' No w (.cells #[.int .u64 0, .int .i64 0, .int .i64 0, .int .i64 0, .slice none 0 0] 70)) (Dj.no _))
  obtain ⟨y, rfl, hz⟩ := HA1.out.at 0 (by omega)
  clear hz
  by_cases h3 : d[0]? = some 214#8
  · by_cases h4 : d[1]? = some 1#8
    · clear g1 g2 g3 g4 HE
      exact look_deep y c d h1 h2 hlc (by omega) w ha h3 h4
    · rw [if_pos (.inr (.inr (.inr h4)))] at HE
      have e0 : d[0]'(by omega) = 214#8 := by rw [List.getElem?_eq_getElem (by omega)] at h3; exact Option.some.inj h3
      have hc1 := HA1.out.lit 0 (by omega)
      have hc0 := HA1.out.lit0 (by omega)
      simp only [Nat.zero_add] at hc1
      rw [e0] at hc0
      replace hc0 : (w.alloc (.cells #[.int .u64 0, .int .i64 0, .int .i64 0, .int .i64 0, .slice none 0 0] 70)).cell? y = some (.int .u8 214) := hc0
      rw [List.getElem?_eq_getElem (by omega)] at h4
      have n1 : (((d[1].toNat : Nat) : Int) != 1) = _ := b8_ne_lit d[1] 1 (by omega)
      rw [decide_eq_false (fun e => h4 (congrArg some e)), Bool.not_false] at n1
      generalize d[1]'(by omega) = b1 at *
      clear h3 h4 e0 ha
      go_enter Try.func46, Try.ntmps46
      go_wp2
      exact bodyPost_ret (v := .tuple #[.agg #[.int .u64 0, .int .i64 0, .int .i64 0, .int .i64 0, .slice none 0 0], .int .i64 42]) (by simp [results, Try.results46, go_sem]) rfl (FOut.bad HE.out (by decide) (St.alloc' No w _))
  · rw [if_pos (.inr (.inr (.inl h3)))] at HE
    have hc1 := HA1.out.lit 0 (by omega)
    have hc0 := HA1.out.lit0 (by omega)
    simp only [Nat.zero_add] at hc1
    rw [List.getElem?_eq_getElem (by omega)] at h3
    have n0 : (((d[0].toNat : Nat) : Int) != 214) = _ := b8_ne_lit d[0] 214 (by omega)
    rw [decide_eq_false (fun e => h3 (congrArg some e)), Bool.not_false] at n0
    generalize d[0]'(by omega) = b0 at *
    clear h3 ha
    go_enter Try.func46, Try.ntmps46
    go_wp2
    exact bodyPost_ret (v := .tuple #[.agg #[.int .u64 0, .int .i64 0, .int .i64 0, .int .i64 0, .slice none 0 0], .int .i64 42]) (by simp [results, Try.results46, go_sem]) rfl (FOut.bad HE.out (by decide) (St.alloc' No w _))
end Go.Proofs.Ytoeafacamapofaa
