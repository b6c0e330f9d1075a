
/-
  The walks over the reference of layer 4: Crc, sum, Sealed, Marked, number.
  The walks over the reference of layer 4: Marked, number, Cut, Datagram.
-/
import Derived.Test.YtoeafacamapofaaFgBase
import Derived.Test.YtoeafacamapofaaFgMath
import Derived.Test.YtoeafacamapofaaCrcMath
import Derived.Test.YtoeafacamapofaaCwFrom
namespace Go.Proofs.Ytoeafacamapofaa
open Go.RowKit
set_option linter.unusedVariables false
set_option linter.unusedSimpArgs false

/-- one bit of a byte into the sum -/
def bitStep (r : BitVec 32) (y : B8) (k : Nat) : BitVec 32 := crcStep (r ^^^ bitW (y.getLsbD k))
theorem shr32_u8 (y : B8) (k : Nat) : (((y.setWidth 32 >>> k).toNat : Nat) : Int) = (y.toNat : Int) / 2 ^ k := by
  have := y.isLt
  rw [BitVec.toNat_ushiftRight, BitVec.toNat_setWidth, Nat.shiftRight_eq_div_pow, Nat.mod_eq_of_lt (by omega)]
  simp
theorem and1_u32 (x : BitVec 32) : bits .and .u32 (x.toNat : Int) 1 = ((x.getLsbD 0).toNat : Int) := by
  have e := bits_and_u32 x 1#32
  have h1 : ((1#32).toNat : Int) = 1 := by decide
  rw [h1] at e
  rw [e]
  by_cases h : x.getLsbD 0 = true
  · have h2 : x &&& 1#32 = 1#32 := by
      apply BitVec.eq_of_getLsbD_eq
      intro i hi
      rw [BitVec.getLsbD_and, BitVec.getLsbD_one]
      by_cases h0 : i = 0
      · subst h0; simp [h]
      · simp [h0]
    rw [h2, h]; rfl
  · have h' : x.getLsbD 0 = false := by simpa using h
    have h2 : x &&& 1#32 = 0#32 := by
      apply BitVec.eq_of_getLsbD_eq
      intro i hi
      rw [BitVec.getLsbD_and, BitVec.getLsbD_one]
      by_cases h0 : i = 0
      · subst h0
        rw [h', Bool.false_and, BitVec.getLsbD_zero]
      · simp [h0]
    rw [h2, h']; rfl
theorem bit_xor (r : BitVec 32) (y : B8) (k : Nat) : bits .and .u32 (bits .xor .u32 (r.toNat : Int) ((y.toNat : Int) / 2 ^ k)) 1 = (((r.getLsbD 0) ^^ (y.getLsbD k)).toNat : Int) := by
  have e : ((y.setWidth 32) >>> k).getLsbD 0 = y.getLsbD k := by
    rw [BitVec.getLsbD_ushiftRight, BitVec.getLsbD_setWidth]
    by_cases h : k < 32
    · simp [h]
    · have : y.getLsbD k = false := BitVec.getLsbD_of_ge y k (by omega)
      simp [this]
  rw [← shr32_u8, bits_xor_u32, and1_u32, BitVec.getLsbD_xor, e]
theorem xor_bitW_shr (r : BitVec 32) (b : Bool) : (r ^^^ bitW b) >>> 1 = r >>> 1 := by
  apply BitVec.eq_of_getLsbD_eq
  intro i hi
  rw [BitVec.getLsbD_ushiftRight, BitVec.getLsbD_ushiftRight, BitVec.getLsbD_xor]
  have : (bitW b).getLsbD (1 + i) = false := by
    unfold bitW
    split
    · rw [BitVec.getLsbD_one]; simp
    · simp
  rw [this, Bool.xor_false]
theorem bitStep_eq (r : BitVec 32) (y : B8) (k : Nat) : bitStep r y k = if (r.getLsbD 0 ^^ y.getLsbD k) = true then (r >>> 1) ^^^ 2197175160#32 else r >>> 1 := by
  unfold bitStep crcStep
  have : (r ^^^ bitW (y.getLsbD k)).getLsbD 0 = (r.getLsbD 0 ^^ y.getLsbD k) := by
    rw [BitVec.getLsbD_xor]
    congr 1
    unfold bitW
    cases y.getLsbD k <;> simp
  rw [this, xor_bitW_shr]
theorem shr1_u32 (r : BitVec 32) : (r.toNat : Int) / 2 = ((r >>> 1).toNat : Int) := by
  rw [BitVec.toNat_ushiftRight, Nat.shiftRight_eq_div_pow]; simp
theorem bits8 (r : BitVec 32) (y : B8) : ∀ n, n ≤ 8 → bitRun r ((byteBits y).take n) = (List.range n).foldl (fun r k => bitStep r y k) r := by
  intro n
  induction n with
  | zero => intro _; rfl
  | succ n ih =>
    intro h
    rw [List.range_succ, List.foldl_append, ← ih (by omega)]
    have hl : n < (byteBits y).length := by rw [byteBits_len]; omega
    rw [List.take_succ_eq_append_getElem hl, bitRun_app]
    simp [byteBits, bitRun, bitStep]
/-- the register behind n bits of a byte -/
def bitsTo (r : BitVec 32) (y : B8) (n : Nat) : BitVec 32 := (List.range n).foldl (fun r k => bitStep r y k) r
theorem bitsTo_succ (r : BitVec 32) (y : B8) (n : Nat) : bitsTo r y (n + 1) = bitStep (bitsTo r y n) y n := by
  unfold bitsTo
  rw [List.range_succ, List.foldl_append]; rfl
theorem bitsTo_8 (r : BitVec 32) (y : B8) : bitsTo r y 8 = crcByte r y := by
  rw [crcByte_bits]
  unfold bitsTo
  rw [← bits8 r y 8 (Nat.le_refl _), List.take_of_length_le (by rw [byteBits_len]; omega)]

set_option maxRecDepth 100000 in
set_option maxHeartbeats 1000000 in
theorem crc4_calls (a : Option Addr) (c : Nat) (xs : List B8) (hl : xs.length ≤ 140737488355328) (w : World) (hb : Bs w a xs) :
    Calls Try.prog 88 #[.slice a xs.length c] w fun e w' => e = .returned (.int .u32 ((crcB xs).toNat : Int)) ∧ w = w' := by
  have HB := Lib.hid hb
  have HR : Hid (∀ r : BitVec 32, bits .xor .u32 (r.toNat : Int) 4294967295 = ((~~~ r).toNat : Int)) := Lib.hid (fun r => by
    have h : (4294967295 : Int) = ((BitVec.allOnes 32).toNat : Int) := by decide
    rw [h, bits_xor_u32, BitVec.xor_allOnes])
  clear hb
  go_enter Try.func88, Try.ntmps88
  go_wp2
  go_loopw [3, 4, 5, 6] (fun x i _ _ wr => ∃ k : Nat, k ≤ xs.length ∧ i = .int .i64 k ∧ x = .int .u32 (((xs.take k).foldl crcByte 4294967295#32).toNat : Int) ∧ wr = w) (fun _ i _ _ _ => xs.length - (intOf i).toNat)
  case atStart => exact ⟨0, by omega, rfl, rfl, rfl⟩
  case round =>
    obtain ⟨k, hk, rfl, rfl, rfl⟩ := hrel
    by_cases hlt : k < xs.length
    · obtain ⟨y, rfl, hc⟩ := HB.out.at k hlt
      have hfs := foldl_take_succ crcByte (4294967295#32) xs k hlt
      generalize xs[k] = b at *
      generalize (xs.take k).foldl crcByte 4294967295#32 = r at *
      have HFS := Lib.hid hfs
      clear hfs
      go_wp2
      go_loopw [3, 5, 6] (fun x j _ wr2 => ∃ n : Nat, n ≤ 8 ∧ j = .int .i64 n ∧ x = .int .u32 ((bitsTo r b n).toNat : Int) ∧ wr2 = wr) (fun _ j _ _ => 8 - (intOf j).toNat)
      case atStart => exact ⟨0, by omega, rfl, rfl, rfl⟩
      case round =>
        obtain ⟨n, hn, rfl, rfl, rfl⟩ := hrel
        by_cases hlt2 : n < 8
        · have hbs := bitsTo_succ r b n
          generalize bitsTo r b n = q at *
          rw [bitStep_eq] at hbs
          have hbx := bit_xor q b n
          have hs1 := shr1_u32 q
          have hx1 := bits_xor_u32 (q >>> 1) 2197175160#32
          rw [← hs1, show ((2197175160#32).toNat : Int) = 2197175160 by decide] at hx1
          have HBS := Lib.hid hbs
          have HX1 := Lib.hid hx1
          have HS1 := Lib.hid hs1
          clear hbs hx1 hs1
          have hb256 := b.isLt
          cases hbit : (q.getLsbD 0 ^^ b.getLsbD n) with
          | true =>
            rw [hbit] at hbx HBS
            simp only [Bool.toNat_true, if_true] at hbx HBS
            have hbb : (bits .and .u32 (bits .xor .u32 (q.toNat : Int) ((b.toNat : Int) / 2 ^ n)) 1 == 1) = true := by rw [hbx]; rfl
            clear hbit hbx
            go_wp2
            exact ⟨⟨n + 1, by omega, by go_num, by rw [HBS.out, ← HX1.out]; rfl, trivial⟩, by simp [intOf]; omega⟩
          | false =>
            rw [hbit] at hbx HBS
            simp only [Bool.toNat_false, Bool.false_eq_true, if_false] at hbx HBS
            have hbb : (bits .and .u32 (bits .xor .u32 (q.toNat : Int) ((b.toNat : Int) / 2 ^ n)) 1 == 1) = false := by rw [hbx]; rfl
            clear hbit hbx
            go_wp2
            exact ⟨⟨n + 1, by omega, by go_num, by rw [HBS.out, ← HS1.out]; rfl, trivial⟩, by simp [intOf]; omega⟩
        · obtain rfl : n = 8 := by omega
          rw [bitsTo_8, ← HFS.out]
          go_wp2
          exact ⟨⟨k + 1, by omega, by go_num, rfl, trivial⟩, by simp [intOf]; omega⟩
    · obtain rfl : k = xs.length := by omega
      rw [List.take_length]
      generalize hx : xs.foldl crcByte 4294967295#32 = r at *
      have HX : Hid (~~~ r = crcB xs) := Lib.hid (by rw [← hx]; rfl)
      have hr := HR.out r
      clear hx
      generalize ~~~ r = q at hr HX
      go_wp2
      go_ret
      exact ⟨ret_int (by rw [HX.out]), rfl⟩

theorem OwB.any {w : World} {v : Value} {xs : List B8} (h : OwB w v xs) : ∃ a c, v = .slice a xs.length c ∧ Bs w a xs ∧ (a = none → c = 0) := by
  obtain ⟨a, c, rfl, _, _, _, hn⟩ := h.form
  exact ⟨a, c, rfl, h.bs, fun h => (hn h).2⟩
theorem byte_of32 (x : BitVec 32) (t : Nat) : ((x.toNat : Int) / 2 ^ t) % 256 = ((((x.setWidth 64) >>> t).setWidth 8).toNat : Int) := by
  have e : x.toNat % 2 ^ 64 = x.toNat := Nat.mod_eq_of_lt (by have := x.isLt; omega)
  rw [BitVec.toNat_setWidth, BitVec.toNat_ushiftRight, BitVec.toNat_setWidth, Nat.shiftRight_eq_div_pow, e]
  simp
theorem beTo_4 (x : BitVec 64) : beTo x 4 4 = [(x >>> 24).setWidth 8, (x >>> 16).setWidth 8, (x >>> 8).setWidth 8, (x >>> 0).setWidth 8] := rfl
set_option maxRecDepth 100000 in
set_option maxHeartbeats 1000000 in
theorem sum4_calls (v : Value) (xs : List B8) (hl : xs.length ≤ 140737488351300) (w : World) (ho : OwB w v xs) :
    Calls Try.prog 67 #[v] w fun e w' => ∃ v', e = .returned v' ∧ OwB w' v' (sealB xs) ∧ St (fpV v) w (fpV v') w' := by
  obtain ⟨a, c, rfl, hb, hn⟩ := ho.any
  have HO := Lib.hid ho
  have HB := Lib.hid hb
  have HCR := Lib.hid (crc4_calls a c xs (by omega) w hb)
  have HSE : Hid (sealB xs = xs ++ beTo ((crcB xs).setWidth 64) 4 4) := Lib.hid rfl
  generalize crcB xs = cr at *
  have h1 : ((cr.toNat : Int) / 16777216) % 256 = _ := byte_of32 cr 24
  have h2 : ((cr.toNat : Int) / 65536) % 256 = _ := byte_of32 cr 16
  have h3 : ((cr.toNat : Int) / 256) % 256 = _ := byte_of32 cr 8
  have h4 := byte_of32 cr 0
  rw [Int.pow_zero, Int.ediv_one] at h4
  rw [beTo_4] at HSE
  have hcr := cr.isLt
  have H1 := Lib.hid h1
  have H2 := Lib.hid h2
  have H3 := Lib.hid h3
  have H4 := Lib.hid h4
  generalize (((cr.setWidth 64) >>> 24).setWidth 8 : B8) = b1 at *
  generalize (((cr.setWidth 64) >>> 16).setWidth 8 : B8) = b2 at *
  generalize (((cr.setWidth 64) >>> 8).setWidth 8 : B8) = b3 at *
  generalize (((cr.setWidth 64) >>> 0).setWidth 8 : B8) = b4 at *
  clear ho hb hn h1 h2 h3 h4
  go_enter Try.func67, Try.ntmps67
  go_wp2_with (first
    | (go_at_call 88; refine HCR.out.mono ?_; rintro e w1 ⟨rfl, rfl⟩)
    | (at_builtin; refine wpList_appB rfl (.tmp 6) (.tmp 10) rfl _ xs rfl (HO.out.newB _) (some ⟨w.heap.size, 0, none⟩) 1 1 [b1] rfl rfl (bs_oneB (by have hz := H1.out; first | exact hz | (rw [← hz, IntKind.wrap_u8]) | omega)) (fun h => by cases h) (by simp; omega) ?_; intro v1 w1 ho1 hs1 _; have HO1 := Lib.hid ho1; have HS1 := Lib.hid hs1.oneB; clear ho1 hs1)
    | (at_builtin; refine wpList_appB rfl (.tmp 12) (.tmp 16) rfl _ (xs ++ [b1]) rfl (HO1.out.newB _) (some ⟨w1.heap.size, 0, none⟩) 1 1 [b2] rfl rfl (bs_oneB (by have hz := H2.out; first | exact hz | (rw [← hz, IntKind.wrap_u8]) | omega)) (fun h => by cases h) (by simp; omega) ?_; intro v2 w2 ho2 hs2 _; have HO2 := Lib.hid ho2; have HS2 := Lib.hid hs2.oneB; clear ho2 hs2)
    | (at_builtin; refine wpList_appB rfl (.tmp 18) (.tmp 22) rfl _ (xs ++ [b1] ++ [b2]) rfl (HO2.out.newB _) (some ⟨w2.heap.size, 0, none⟩) 1 1 [b3] rfl rfl (bs_oneB (by have hz := H3.out; first | exact hz | (rw [← hz, IntKind.wrap_u8]) | omega)) (fun h => by cases h) (by simp; omega) ?_; intro v3 w3 ho3 hs3 _; have HO3 := Lib.hid ho3; have HS3 := Lib.hid hs3.oneB; clear ho3 hs3)
    | (at_builtin; refine wpList_appB rfl (.tmp 24) (.tmp 27) rfl _ (xs ++ [b1] ++ [b2] ++ [b3]) rfl (HO3.out.newB _) (some ⟨w3.heap.size, 0, none⟩) 1 1 [b4] rfl rfl (bs_oneB (by have hz := H4.out; first | exact hz | (rw [← hz, IntKind.wrap_u8]) | omega)) (fun h => by cases h) (by simp; omega) ?_; intro v4 w4 ho4 hs4 _; have HO4 := Lib.hid ho4; have HS4 := Lib.hid hs4.oneB; clear ho4 hs4))
  go_ret
  refine ⟨_, rfl, ?_, ((HS1.out.trans HS2.out).trans HS3.out).trans HS4.out⟩
  rw [HSE.out]
  have := HO4.out
  simp only [List.append_assoc, List.cons_append, List.nil_append] at this
  exact this

def SealOut (w : World) (bs : List B8) (e : Ending) (w' : World) : Prop := BOut w (sealB bs) e w'
set_option maxRecDepth 100000 in
theorem sealed_calls (v : Value) (xs : List B8) (hl : xs.length ≤ 140737488351300) (w : World) (ho : OwB w v xs) :
    Calls Try.prog 27 #[v] w fun e w' => ∃ v', e = .returned v' ∧ OwB w' v' (sealB xs) ∧ St (fpV v) w (fpV v') w' := by
  have HC := Lib.hid (sum4_calls v xs hl w ho)
  clear ho
  go_enter Try.func27, Try.ntmps27
  go_wp2_with fail
  refine HC.out.mono ?_
  rintro e w1 ⟨v1, rfl, ho1, hs1⟩
  have HO1 := Lib.hid ho1
  have HS1 := Lib.hid hs1
  clear ho1 hs1
  go_wp2
  go_ret
  exact ⟨_, rfl, HO1.out, HS1.out⟩
end Go.Proofs.Ytoeafacamapofaa
namespace Go.Proofs.Ytoeafacamapofaa
open Go.RowKit
set_option linter.unusedVariables false
set_option linter.unusedSimpArgs false

theorem step_add4 (x : BitVec 64) (c : B8) (X : Int) (h : X = IntKind.u64.wrap (IntKind.u64.wrap (256 * (x.toNat : Int)) + (c.toNat : Int)) ∨ X = IntKind.u64.wrap (256 * (x.toNat : Int) + (c.toNat : Int))) : X = ((numStep x c).toNat : Int) :=
  step_add x c X (by rw [Int.mul_comm] at h; exact h)

set_option maxRecDepth 100000 in
set_option maxHeartbeats 1000000 in
theorem number4_calls (a : Option Addr) (c : Nat) (bs : List B8) (hn : bs.length ≤ 140737488355328) (k n : Nat) (hk : k + n ≤ bs.length) (w : World) (hb : Bs w a bs) :
    Calls Try.prog 89 #[.slice a bs.length c, .int .i64 k, .int .i64 n] w fun e w' => e = .returned (.int .u64 ((numB ((bs.drop k).take n)).toNat : Int)) ∧ w = w' := by
  have HB := Lib.hid hb
  clear hb
  go_enter Try.func89, Try.ntmps89
  go_wp2
  go_loopw [7, 8] (fun x i wr => ∃ j : Nat, j ≤ n ∧ i = .int .i64 ((k + j : Nat) : Int) ∧ x = .int .u64 ((numB ((bs.drop k).take j)).toNat : Int) ∧ wr = w) (fun _ i _ => k + n - (intOf i).toNat)
  case atStart => exact ⟨0, by omega, rfl, rfl, rfl⟩
  case round =>
    obtain ⟨j, hj, rfl, rfl, rfl⟩ := hrel
    by_cases hlt : j < n
    · obtain ⟨y, rfl, hc⟩ := HB.out.at (k + j) (by omega)
      obtain ⟨bt, hbt⟩ : ∃ bt, bs[k + j]'(by omega) = bt := ⟨_, rfl⟩
      rw [hbt] at hc
      have HNX : Hid (numB ((bs.drop k).take (j + 1)) = numStep (numB ((bs.drop k).take j)) bt) := Lib.hid (by rw [numB_succ _ _ (by simp; omega)]; congr 1; rw [List.getElem_drop]; exact hbt)
      generalize numB ((bs.drop k).take j) = x at *
      clear hbt
      have HSA := Lib.hid (step_add4 x bt)
      go_wp2
      refine ⟨⟨j + 1, by omega, by go_num, ?_, trivial⟩, by simp [intOf]; omega⟩
      rw [HNX.out, HSA.out _ (.inl rfl)]
    · obtain rfl : j = n := by omega
      go_wp2
      go_ret
      exact ⟨rfl, rfl⟩

/-- bytes behind the mark and the version, with the sum -/
def markedB (bs : List B8) : List B8 := sealB (214#8 :: 1#8 :: bs)
theorem bs_two {w : World} {b1 b2 : B8} {v1 v2 : Int} (h1 : v1 = (b1.toNat : Int)) (h2 : v2 = (b2.toNat : Int)) : OwB (w.alloc (.cells #[.int .u8 v1, .int .u8 v2] 5)) (.slice (some ⟨w.heap.size, 0, none⟩) 2 2) [b1, b2] := by
  subst h1; subst h2
  exact ⟨rfl, .inr ⟨w.heap.size, 2, _, rfl, Nat.zero_le _, heap_alloc_new w _, Nat.le_refl _, by unfold maxLen; omega, rfl, rfl⟩⟩
set_option maxRecDepth 100000 in
set_option maxHeartbeats 1000000 in
theorem marked4_calls (a : Option Addr) (c : Nat) (xs : List B8) (hl : xs.length ≤ 140737488351232) (hac : a = none → c = 0) (w : World) (ha : Bs w a xs) :
    Calls Try.prog 29 #[.slice a xs.length c] w (BOut w (markedB xs)) := by
  have HA := Lib.hid ha
  have HAC := Lib.hid hac
  have HO0 : Hid (OwB (w.alloc (.cells #[.int .u8 214, .int .u8 1] 5)) (.slice (some ⟨w.heap.size, 0, none⟩) 2 2) [214#8, 1#8]) := Lib.hid (bs_two rfl rfl)
  have HS0 : Hid (St No w (fpV (.slice (some ⟨w.heap.size, 0, none⟩) 2 2)) (w.alloc (.cells #[.int .u8 214, .int .u8 1] 5))) := Lib.hid ((St.alloc No w _).drop (fun k hk => .inr (.inr (by simpa [fpV, Value.ownBlock] using hk.symm))))
  clear ha hac
  go_enter Try.func29, Try.ntmps29
  go_wp2_with (first
    | (at_builtin; refine wpList_appB rfl (.tmp 5) (.tmp 6) rfl _ [214#8, 1#8] rfl HO0.out a xs.length c xs rfl rfl (HA.out.st (St.alloc' No w _) (Dj.no _)) HAC.out (by simp; omega) ?_; intro v1 w1 ho1 hs1 _; have HO1 := Lib.hid ho1; have HS1 := Lib.hid hs1; clear ho1 hs1)
    | (go_at_call 67; refine (sum4_calls _ _ (by simp; omega) _ HO1.out).mono ?_; rintro e w2 ⟨v2, rfl, ho2, hs2⟩; have HO2 := Lib.hid ho2; have HS2 := Lib.hid hs2; clear ho2 hs2))
  go_ret
  exact ⟨_, rfl, HO2.out, (HS0.out.trans HS1.out).trans HS2.out⟩

set_option maxRecDepth 100000 in
set_option maxHeartbeats 1000000 in
theorem cut_calls (a : Option Addr) (c : Nat) (xs : List B8) (hl : xs.length ≤ 4096) (count i : Nat) (hc : 1 ≤ count) (hc2 : count ≤ 4096) (hi : i ≤ 4096) (w : World) (ha : Bs w a xs) :
    Calls Try.prog 68 #[.slice a xs.length c, .int .i64 count, .int .i64 i] w (BOut w (partB xs count i)) := by
  have HA := Lib.hid ha
  have HCL : Hid (∀ j, j < sizeN xs.length count ↔ j * count < xs.length) := Lib.hid (fun j => ceil_lt (by omega))
  have hsz : sizeN xs.length count ≤ 4096 := (ceil_le (by omega)).2 (by have := Nat.mul_le_mul_left 4096 hc; omega)
  have HPB : Hid (partB xs count i = (xs.drop (i * sizeN xs.length count)).take (sizeN xs.length count)) := Lib.hid rfl
  clear ha
  generalize sizeN xs.length count = size at *
  go_enter Try.func68, Try.ntmps68
  go_wp2
  go_loopw [7] (fun s wr => ∃ j : Nat, j ≤ size ∧ s = .int .i64 j ∧ wr = w) (fun s _ => size - (intOf s).toNat)
  case atStart => exact ⟨0, by omega, rfl, rfl⟩
  case round =>
    obtain ⟨j, hj, rfl, rfl⟩ := hrel
    have hm : j * count ≤ 4096 * 4096 := Nat.mul_le_mul (by omega) hc2
    have hw : IntKind.i64.wrap ((j : Int) * (count : Int)) = ((j * count : Nat) : Int) := by rw [IntKind.wrap_i64]; have : ((j * count : Nat) : Int) = (j : Int) * (count : Int) := by simp
                                                                                             omega
    by_cases hlt : j < size
    · have h1 := (HCL.out j).1 hlt
      have h2 : (((j * count : Nat) : Int)) < (xs.length : Int) := by omega
      generalize j * count = jc at *
      go_wp2
      exact ⟨⟨j + 1, by omega, by go_num, trivial⟩, by simp [intOf]; omega⟩
    · obtain rfl : j = size := by omega
      have h1 : ¬ j * count < xs.length := fun h => hlt ((HCL.out j).2 h)
      have h2 : (xs.length : Int) ≤ (((j * count : Nat) : Int)) := by omega
      have hm2 : i * j ≤ 4096 * 4096 := Nat.mul_le_mul (by omega) (by omega)
      have hm3 : (i + 1) * j = i * j + j := Nat.succ_mul i j
      have hw2 : IntKind.i64.wrap ((i : Int) * (j : Int)) = ((i * j : Nat) : Int) := by rw [IntKind.wrap_i64]; have : ((i * j : Nat) : Int) = (i : Int) * (j : Int) := by simp
                                                                                        omega
      have hw3 : IntKind.i64.wrap (((i : Int) + 1) * (j : Int)) = ((i * j + j : Nat) : Int) := by rw [← hm3, IntKind.wrap_i64]; have : (((i + 1) * j : Nat) : Int) = ((i : Int) + 1) * (j : Int) := by simp
                                                                                                  omega
      have h1d : decide (j * count < xs.length) = false := decide_eq_false h1
      clear hm3 h1
      generalize j * count = jc at *
      generalize hst : i * j = st at *
      have HST := Lib.hid hst
      clear hst
      go_wp2
      go_loopw [8, 9] (fun v k wr2 => ∃ m : Nat, m ≤ j ∧ k = .int .i64 ((st + m : Nat) : Int) ∧ Hid (m = 0 ∨ st + m ≤ xs.length) ∧ Hid (OwB wr2 v ((xs.drop st).take m)) ∧ Hid (St No wr (fpV v) wr2)) (fun _ k _ => st + j - (intOf k).toNat)
      case atStart => exact ⟨0, by omega, by go_num, Lib.hid (.inl rfl), Lib.hid (by rw [List.take_zero]; exact OwB.nil _), Lib.hid ((St.refl No _).drop (fun k hk => by simp [fpV, Value.ownBlock] at hk))⟩
      case round =>
        obtain ⟨m, hm, rfl, HM, HO, HS⟩ := hrel
        by_cases hlt2 : m < j
        · by_cases hlt3 : st + m < xs.length
          · obtain ⟨y, hy, hcl⟩ := (HA.out.st HS.out (Dj.no _)).at (st + m) hlt3
            have hml : m < (xs.drop st).length := by simp; omega
            have hts : (xs.drop st).take (m + 1) = (xs.drop st).take m ++ [xs[st + m]] := by rw [List.take_succ_eq_append_getElem hml, List.getElem_drop]
            have htl : ((xs.drop st).take m).length = m := by simp; omega
            generalize xs[st + m] = b0 at *
            generalize (xs.drop st).take m = pre at *
            have HTS := Lib.hid hts
            have HTL := Lib.hid htl
            have g1 : decide (((st + m : Nat) : Int) < ((st + j : Nat) : Int)) = true := decide_eq_true (by omega)
            have g2 : decide (((st + m : Nat) : Int) < (xs.length : Int)) = true := decide_eq_true (by omega)
            have g3 : decide (st + m < st + j) = true := decide_eq_true (by omega)
            have g4 : decide (st + m < xs.length) = true := decide_eq_true (by omega)
            subst hy
            clear hts htl hml
            go_wp2_with (at_builtin; refine wpList_appB rfl (.tmp 35) (.tmp 40) rfl _ pre rfl (HO.out.newB _) (some ⟨_, 0, none⟩) 1 1 [b0] rfl rfl (bs_oneB rfl) (fun h => by cases h) (by have := HTL.out; simp; omega) ?_; intro v2 w2 ho2 hs2 hn2; have HO2 := Lib.hid ho2; have HS2 := Lib.hid (hs2.oneB); clear ho2 hs2 hn2)
            go_roundw
            case rel => exact ⟨m + 1, by omega, by go_num, Lib.hid (.inr (by omega)), Lib.hid (by rw [HTS.out]; exact HO2.out), Lib.hid (HS.out.trans HS2.out)⟩
            case measure => simp [intOf]; omega
          · have g1 : decide (((st + m : Nat) : Int) < ((st + j : Nat) : Int)) = true := decide_eq_true (by omega)
            have g2 : decide (((st + m : Nat) : Int) < (xs.length : Int)) = false := decide_eq_false (by omega)
            have g3 : decide (st + m < st + j) = true := decide_eq_true (by omega)
            have g4 : decide (st + m < xs.length) = false := decide_eq_false (by omega)
            have g5 : decide ((st : Int) + (m : Int) < (xs.length : Int)) = false := decide_eq_false (by omega)
            have HE : Hid (partB xs count i = (xs.drop st).take m) := Lib.hid (by rw [HPB.out, List.take_of_length_le (by simp; omega), List.take_of_length_le (by simp; omega)])
            clear hlt3
            go_wp2
            go_ret
            exact ⟨_, rfl, by rw [HE.out]; exact HO.out, HS.out⟩
        · obtain rfl : m = j := by omega
          have g1 : decide (((st + m : Nat) : Int) < ((st + m : Nat) : Int)) = false := decide_eq_false (by omega)
          have g3 : decide (st + m < st + m) = false := decide_eq_false (by omega)
          go_wp2
          go_ret
          exact ⟨_, rfl, by rw [HPB.out]; exact HO.out, HS.out⟩

/-- a fragment's value -/
def Fg.cells (f : Fg) (a : Option Addr) (c : Nat) : Array Value := #[.int .u64 (f.id.toNat : Int), .int .i64 (f.index : Int), .int .i64 (f.count : Int), .int .i64 (f.total : Int), .slice a f.part.length c]
theorem beTo_snoc (x : BitVec 64) (j : Nat) (h : j ≤ 7) : beTo x 8 (j + 1) = beTo x 8 j ++ [(x >>> (8 * (7 - j))).setWidth 8] := rfl
set_option maxRecDepth 100000 in
set_option maxHeartbeats 2000000 in
theorem datagram_calls (f : Fg) (a : Option Addr) (c : Nat) (hac : a = none → c = 0) (hp : f.part.length ≤ 140737488351232) (hi : f.index ≤ 255) (hc : f.count ≤ 255) (ht : f.total ≤ 65535) (w : World) (ha : Bs w a f.part) :
    Calls Try.prog 69 #[.agg (f.cells a c)] w (BOut w (dgram f)) := by
  obtain ⟨id, index, count, total, part⟩ := f
  simp only at hp hi hc ht ha
  unfold Fg.cells
  simp only
  have HDG : Hid (dgram ⟨id, index, count, total, part⟩ = sealB ([214#8, 1#8] ++ beTo id 8 8 ++ [BitVec.ofNat 8 (total / 256), BitVec.ofNat 8 (total % 256), BitVec.ofNat 8 index, BitVec.ofNat 8 count] ++ part)) := Lib.hid rfl
  have HA := Lib.hid ha
  have HAC := Lib.hid hac
  have q1 : (((BitVec.ofNat 8 (total / 256)).toNat : Nat) : Int) = (total : Int) / 256 := by rw [BitVec.toNat_ofNat, Nat.mod_eq_of_lt (by omega)]; simp
  have q2 : (((BitVec.ofNat 8 (total % 256)).toNat : Nat) : Int) = (total : Int) % 256 := by rw [BitVec.toNat_ofNat, Nat.mod_eq_of_lt (by omega)]; simp
  have q3 : (((BitVec.ofNat 8 index).toNat : Nat) : Int) = (index : Int) := by rw [BitVec.toNat_ofNat, Nat.mod_eq_of_lt (by omega)]
  have q4 : (((BitVec.ofNat 8 count).toNat : Nat) : Int) = (count : Int) := by rw [BitVec.toNat_ofNat, Nat.mod_eq_of_lt (by omega)]
  have Q1 := Lib.hid q1
  have Q2 := Lib.hid q2
  have Q3 := Lib.hid q3
  have Q4 := Lib.hid q4
  generalize (BitVec.ofNat 8 (total / 256)) = b1 at *
  generalize (BitVec.ofNat 8 (total % 256)) = b2 at *
  generalize (BitVec.ofNat 8 index) = b3 at *
  generalize (BitVec.ofNat 8 count) = b4 at *
  have HBT : Hid (∀ j, j ≤ 7 → beTo id 8 (j + 1) = beTo id 8 j ++ [(id >>> (8 * (7 - j))).setWidth 8]) := Lib.hid (fun j h => beTo_snoc id j h)
  have hid := id.isLt
  clear ha hac q1 q2 q3 q4
  go_enter Try.func69, Try.ntmps69
  go_wp2
  have HO0 : Hid (OwB (((w.alloc (.cells #[.int .u64 (id.toNat : Int), .int .i64 (index : Int), .int .i64 (count : Int), .int .i64 (total : Int), .slice a part.length c] 73))).alloc (.cells #[.int .u8 214, .int .u8 1] 5)) (.slice (some ⟨w.heap.size + 1, 0, none⟩) 2 2) ([214#8, 1#8] ++ beTo id 8 0)) := Lib.hid (by have := bs_two (w := w.alloc (.cells #[.int .u64 (id.toNat : Int), .int .i64 (index : Int), .int .i64 (count : Int), .int .i64 (total : Int), .slice a part.length c] 73)) (b1 := 214#8) (b2 := 1#8) (v1 := 214) (v2 := 1) rfl rfl; simpa [beTo] using this)
  go_loopw [3, 4] (fun v i wr => ∃ (k : Nat) (q : Int), k ≤ 8 ∧ i = .int .i64 q ∧ Hid (q = 56 - 8 * (k : Int)) ∧ Hid (OwB wr v ([214#8, 1#8] ++ beTo id 8 k)) ∧ Hid (St No w (fpV v) wr) ∧ Hid (Ob wr w.heap.size 73 #[.int .u64 (id.toNat : Int), .int .i64 (index : Int), .int .i64 (count : Int), .int .i64 (total : Int), .slice a part.length c]) ∧ Hid (¬ fpV v w.heap.size)) (fun _ i _ => (intOf i + 8).toNat)
  case atStart =>
    refine ⟨0, 56, by omega, rfl, Lib.hid (by omega), HO0, Lib.hid ?_, Lib.hid ?_, Lib.hid (by simp [fpV, Value.ownBlock])⟩
    · exact ((St.alloc' No w _).trans (St.alloc' No _ _)).drop (fun k hk => .inl hk) |>.toNew.drop (fun k hk => .inr (by simp [fpV, Value.ownBlock] at hk; show w.heap.size ≤ k; omega))
    · exact (Ob.alloc w _ _).move (Below.heap_alloc _ _ _ (by simp))
  case round =>
    clear HO0
    obtain ⟨k, q, hk, rfl, HQ, HO, HS, HOB, HNF⟩ := hrel
    have k0 : wr.cell? ⟨w.heap.size, 0, none⟩ = some (.int .u64 (id.toNat : Int)) := by rw [HOB.out.cell 0]; rfl
    have k1 : wr.cell? ⟨w.heap.size, 1, none⟩ = some (.int .i64 (index : Int)) := by rw [HOB.out.cell 1]; rfl
    have k2 : wr.cell? ⟨w.heap.size, 2, none⟩ = some (.int .i64 (count : Int)) := by rw [HOB.out.cell 2]; rfl
    have k3 : wr.cell? ⟨w.heap.size, 3, none⟩ = some (.int .i64 (total : Int)) := by rw [HOB.out.cell 3]; rfl
    have k4 : wr.cell? ⟨w.heap.size, 4, none⟩ = some (.slice a part.length c) := by rw [HOB.out.cell 4]; rfl
    by_cases hlt : k < 8
    · have hq := HQ.out
      obtain ⟨t, ht⟩ : ∃ t : Nat, 8 * (7 - k) = t := ⟨_, rfl⟩
      obtain rfl : q = (t : Int) := by omega
      have ht2 : t ≤ 56 := by omega
      have hbt := HBT.out k (by omega)
      rw [ht] at hbt
      have hbl : ([214#8, 1#8] ++ beTo id 8 k).length = k + 2 := by simp [beTo_len]
      have hts : [214#8, 1#8] ++ beTo id 8 (k + 1) = ([214#8, 1#8] ++ beTo id 8 k) ++ [(id >>> t).setWidth 8] := by rw [hbt, List.append_assoc]
      generalize [214#8, 1#8] ++ beTo id 8 k = pre at *
      have HTS := Lib.hid hts
      have HTL := Lib.hid hbl
      have HT := Lib.hid ht
      have HBY := Lib.hid (byte_of id t)
      clear hq ht hbt hbl hts
      go_wp2_with (at_builtin; refine wpList_appB rfl (.tmp 10) (.tmp 16) rfl _ pre rfl (HO.out.newB _) (some ⟨_, 0, none⟩) 1 1 [(id >>> t).setWidth 8] rfl rfl (bs_oneB (by have hz := HBY.out; first | exact hz | (rw [← hz, IntKind.wrap_u8]) | omega)) (fun h => by cases h) (by have := HTL.out; simp; omega) ?_; intro v2 w2 ho2 hs2 hn2; have HO2 := Lib.hid ho2; have HS2 := Lib.hid (hs2.oneB); clear ho2 hs2 hn2)
      go_roundw
      case rel => exact ⟨k + 1, (t : Int) - 8, by omega, by go_num, Lib.hid (by have := HT.out; omega), Lib.hid (by rw [HTS.out]; exact HO2.out), Lib.hid (HS.out.trans HS2.out), Lib.hid (HOB.out.move (HS2.out.block _ HOB.out.lt HNF.out)), Lib.hid (fun h => (HS2.out.new _ h).elim HNF.out (fun h => by have := HOB.out.lt; omega))⟩
      case measure => simp [intOf]; omega
    · obtain rfl : k = 8 := by omega
      obtain rfl : q = -8 := by have := HQ.out; omega
      have hbl : ([214#8, 1#8] ++ beTo id 8 8).length = 10 := by simp [beTo_len]
      generalize [214#8, 1#8] ++ beTo id 8 8 = pre at *
      have HTL := Lib.hid hbl
      clear hbl
      have HBR := Lib.hid (HA.out.st HS.out (Dj.no _))
      obtain ⟨wo, hwo⟩ : ∃ wo : World, wo = wr := ⟨_, rfl⟩
      have KF : Hid (∀ w' F', St (fpV u3) wr F' w' → w'.cell? ⟨w.heap.size, 1, none⟩ = some (.int .i64 (index : Int)) ∧ w'.cell? ⟨w.heap.size, 2, none⟩ = some (.int .i64 (count : Int)) ∧ w'.cell? ⟨w.heap.size, 3, none⟩ = some (.int .i64 (total : Int)) ∧ w'.cell? ⟨w.heap.size, 4, none⟩ = some (.slice a part.length c)) := Lib.hid (fun w' F' s => by
        have hob := HOB.out.move (s.block _ HOB.out.lt HNF.out)
        exact ⟨by rw [hob.cell 1]; rfl, by rw [hob.cell 2]; rfl, by rw [hob.cell 3]; rfl, by rw [hob.cell 4]; rfl⟩)
      clear hwo
      go_wp2_with (first
        | (at_builtin; refine wpList_appB rfl (.tmp 18) (.tmp 23) rfl _ pre rfl (HO.out.newB _) (some ⟨_, 0, none⟩) 1 1 [b1] rfl rfl (bs_oneB (by have hz := Q1.out; first | exact hz.symm | (rw [hz, IntKind.wrap_u8]; omega) | omega)) (fun h => by cases h) (by have := HTL.out; simp; omega) ?_; intro v1 w1 ho1 hs1 _; have HO1 := Lib.hid ho1; have HS1 := Lib.hid hs1.oneB; obtain ⟨g1, g2, g3, g4⟩ := KF.out w1 _ HS1.out; clear ho1 hs1)
        | (at_builtin; refine wpList_appB rfl (.tmp 25) (.tmp 30) rfl _ (pre ++ [b1]) rfl (HO1.out.newB _) (some ⟨_, 0, none⟩) 1 1 [b2] rfl rfl (bs_oneB (by have hz := Q2.out; first | exact hz.symm | (rw [hz, IntKind.wrap_u8]; omega) | omega)) (fun h => by cases h) (by have := HTL.out; simp; omega) ?_; intro v2 w2 ho2 hs2 _; have HO2 := Lib.hid ho2; have HS2 := Lib.hid (HS1.out.trans hs2.oneB); obtain ⟨h1, h2, h3, h4⟩ := KF.out w2 _ HS2.out; clear ho2 hs2)
        | (at_builtin; refine wpList_appB rfl (.tmp 32) (.tmp 36) rfl _ (pre ++ [b1] ++ [b2]) rfl (HO2.out.newB _) (some ⟨_, 0, none⟩) 1 1 [b3] rfl rfl (bs_oneB (by have hz := Q3.out; first | exact hz.symm | (rw [hz, IntKind.wrap_u8]; omega) | omega)) (fun h => by cases h) (by have := HTL.out; simp; omega) ?_; intro v3 w3 ho3 hs3 _; have HO3 := Lib.hid ho3; have HS3 := Lib.hid (HS2.out.trans hs3.oneB); obtain ⟨i1, i2, i3, i4⟩ := KF.out w3 _ HS3.out; clear ho3 hs3)
        | (at_builtin; refine wpList_appB rfl (.tmp 38) (.tmp 42) rfl _ (pre ++ [b1] ++ [b2] ++ [b3]) rfl (HO3.out.newB _) (some ⟨_, 0, none⟩) 1 1 [b4] rfl rfl (bs_oneB (by have hz := Q4.out; first | exact hz.symm | (rw [hz, IntKind.wrap_u8]; omega) | omega)) (fun h => by cases h) (by have := HTL.out; simp; omega) ?_; intro v4 w4 ho4 hs4 _; have HO4 := Lib.hid ho4; have HS4 := Lib.hid (HS3.out.trans hs4.oneB); obtain ⟨j1, j2, j3, j4⟩ := KF.out w4 _ HS4.out; clear ho4 hs4)
        | (at_builtin; refine wpList_appB rfl (.tmp 44) (.tmp 46) rfl _ (pre ++ [b1] ++ [b2] ++ [b3] ++ [b4]) rfl HO4.out a part.length c part rfl rfl (HA.out.st (HS.out.trans HS4.out) (Dj.no _)) HAC.out (by have := HTL.out; simp; omega) ?_; intro v5 w5 ho5 hs5 _; have HO5 := Lib.hid ho5; have HS5 := Lib.hid (HS4.out.trans hs5); clear ho5 hs5)
        | (go_at_call 67; refine (sum4_calls _ _ (by have := HTL.out; simp; omega) _ HO5.out).mono ?_; rintro e w6 ⟨v6, rfl, ho6, hs6⟩; have HO6 := Lib.hid ho6; have HS6 := Lib.hid (HS5.out.trans hs6); clear ho6 hs6))
      go_ret
      refine ⟨_, rfl, ?_, HS.out.trans HS6.out⟩
      rw [HDG.out]
      have := HO6.out
      simp only [List.append_assoc, List.cons_append, List.nil_append] at this ⊢
      exact this
end Go.Proofs.Ytoeafacamapofaa
