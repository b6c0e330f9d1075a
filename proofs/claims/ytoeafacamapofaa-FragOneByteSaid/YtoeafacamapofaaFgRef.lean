
/-
  The walks over the reference of layer 4: Crc, sum, Sealed, Marked, number.
-/
import Derived.Test.YtoeafacamapofaaFgBase
import Derived.Test.YtoeafacamapofaaFgMath
import Derived.Test.YtoeafacamapofaaCrcMath
namespace Go.Proofs.Ytoeafacamapofaa
open Go.RowKit
set_option linter.unusedVariables false
set_option linter.unusedSimpArgs false

/-- one bit of a byte into the sum -/
def bitStep (r : BitVec 32) (y : B8) (k : Nat) : BitVec 32 := crcStep (r ^^^ bitW (y.getLsbD k))
theorem shr32_u8 (y : B8) (k : Nat) : (((y.setWidth 32 >>> k).toNat : Nat) : Int) = (y.toNat : Int) / 2 ^ k := by
  have := y.isLt
  rw [BitVec.toNat_ushiftRight, BitVec.toNat_setWidth, Nat.shiftRight_eq_div_pow, Nat.mod_eq_of_lt (by omega)]
  simp
theorem and1_u32 (x : BitVec 32) : bits .and .u32 (x.toNat : Int) 1 = ((x.getLsbD 0).toNat : Int) := by
  have e := bits_and_u32 x 1#32
  have h1 : ((1#32).toNat : Int) = 1 := by decide
  rw [h1] at e
  rw [e]
  by_cases h : x.getLsbD 0 = true
  · have h2 : x &&& 1#32 = 1#32 := by
      apply BitVec.eq_of_getLsbD_eq
      intro i hi
      rw [BitVec.getLsbD_and, BitVec.getLsbD_one]
      by_cases h0 : i = 0
      · subst h0; simp [h]
      · simp [h0]
    rw [h2, h]; rfl
  · have h' : x.getLsbD 0 = false := by simpa using h
    have h2 : x &&& 1#32 = 0#32 := by
      apply BitVec.eq_of_getLsbD_eq
      intro i hi
      rw [BitVec.getLsbD_and, BitVec.getLsbD_one]
      by_cases h0 : i = 0
      · subst h0
        rw [h', Bool.false_and, BitVec.getLsbD_zero]
      · simp [h0]
    rw [h2, h']; rfl
theorem bit_xor (r : BitVec 32) (y : B8) (k : Nat) : bits .and .u32 (bits .xor .u32 (r.toNat : Int) ((y.toNat : Int) / 2 ^ k)) 1 = (((r.getLsbD 0) ^^ (y.getLsbD k)).toNat : Int) := by
  have e : ((y.setWidth 32) >>> k).getLsbD 0 = y.getLsbD k := by
    rw [BitVec.getLsbD_ushiftRight, BitVec.getLsbD_setWidth]
    by_cases h : k < 32
    · simp [h]
    · have : y.getLsbD k = false := BitVec.getLsbD_of_ge y k (by omega)
      simp [this]
  rw [← shr32_u8, bits_xor_u32, and1_u32, BitVec.getLsbD_xor, e]
theorem xor_bitW_shr (r : BitVec 32) (b : Bool) : (r ^^^ bitW b) >>> 1 = r >>> 1 := by
  apply BitVec.eq_of_getLsbD_eq
  intro i hi
  rw [BitVec.getLsbD_ushiftRight, BitVec.getLsbD_ushiftRight, BitVec.getLsbD_xor]
  have : (bitW b).getLsbD (1 + i) = false := by
    unfold bitW
    split
    · rw [BitVec.getLsbD_one]; simp
    · simp
  rw [this, Bool.xor_false]
theorem bitStep_eq (r : BitVec 32) (y : B8) (k : Nat) : bitStep r y k = if (r.getLsbD 0 ^^ y.getLsbD k) = true then (r >>> 1) ^^^ 2197175160#32 else r >>> 1 := by
  unfold bitStep crcStep
  have : (r ^^^ bitW (y.getLsbD k)).getLsbD 0 = (r.getLsbD 0 ^^ y.getLsbD k) := by
    rw [BitVec.getLsbD_xor]
    congr 1
    unfold bitW
    cases y.getLsbD k <;> simp
  rw [this, xor_bitW_shr]
theorem shr1_u32 (r : BitVec 32) : (r.toNat : Int) / 2 = ((r >>> 1).toNat : Int) := by
  rw [BitVec.toNat_ushiftRight, Nat.shiftRight_eq_div_pow]; simp
theorem bits8 (r : BitVec 32) (y : B8) : ∀ n, n ≤ 8 → bitRun r ((byteBits y).take n) = (List.range n).foldl (fun r k => bitStep r y k) r := by
  intro n
  induction n with
  | zero => intro _; rfl
  | succ n ih =>
    intro h
    rw [List.range_succ, List.foldl_append, ← ih (by omega)]
    have hl : n < (byteBits y).length := by rw [byteBits_len]; omega
    rw [List.take_succ_eq_append_getElem hl, bitRun_app]
    simp [byteBits, bitRun, bitStep]
/-- the register behind n bits of a byte -/
def bitsTo (r : BitVec 32) (y : B8) (n : Nat) : BitVec 32 := (List.range n).foldl (fun r k => bitStep r y k) r
theorem bitsTo_succ (r : BitVec 32) (y : B8) (n : Nat) : bitsTo r y (n + 1) = bitStep (bitsTo r y n) y n := by
  unfold bitsTo
  rw [List.range_succ, List.foldl_append]; rfl
theorem bitsTo_8 (r : BitVec 32) (y : B8) : bitsTo r y 8 = crcByte r y := by
  rw [crcByte_bits]
  unfold bitsTo
  rw [← bits8 r y 8 (Nat.le_refl _), List.take_of_length_le (by rw [byteBits_len]; omega)]

set_option maxRecDepth 100000 in
set_option maxHeartbeats 1000000 in
theorem crc4_calls (a : Option Addr) (c : Nat) (xs : List B8) (hl : xs.length ≤ 140737488355328) (w : World) (hb : Bs w a xs) :
    Calls Try.prog 88 #[.slice a xs.length c] w fun e w' => e = .returned (.int .u32 ((crcB xs).toNat : Int)) ∧ w = w' := by
  have HB := Lib.hid hb
  have HR : Hid (∀ r : BitVec 32, bits .xor .u32 (r.toNat : Int) 4294967295 = ((~~~ r).toNat : Int)) := Lib.hid (fun r => by
    have h : (4294967295 : Int) = ((BitVec.allOnes 32).toNat : Int) := by decide
    rw [h, bits_xor_u32, BitVec.xor_allOnes])
  clear hb
  go_enter Try.func88, Try.ntmps88
  go_wp2
  go_loopw [3, 4, 5, 6] (fun x i _ _ wr => ∃ k : Nat, k ≤ xs.length ∧ i = .int .i64 k ∧ x = .int .u32 (((xs.take k).foldl crcByte 4294967295#32).toNat : Int) ∧ wr = w) (fun _ i _ _ _ => xs.length - (intOf i).toNat)
  case atStart => exact ⟨0, by omega, rfl, rfl, rfl⟩
  case round =>
    obtain ⟨k, hk, rfl, rfl, rfl⟩ := hrel
    by_cases hlt : k < xs.length
    · obtain ⟨y, rfl, hc⟩ := HB.out.at k hlt
      have hfs := foldl_take_succ crcByte (4294967295#32) xs k hlt
      generalize xs[k] = b at *
      generalize (xs.take k).foldl crcByte 4294967295#32 = r at *
      have HFS := Lib.hid hfs
      clear hfs
      go_wp2
      go_loopw [3, 5, 6] (fun x j _ wr2 => ∃ n : Nat, n ≤ 8 ∧ j = .int .i64 n ∧ x = .int .u32 ((bitsTo r b n).toNat : Int) ∧ wr2 = wr) (fun _ j _ _ => 8 - (intOf j).toNat)
      case atStart => exact ⟨0, by omega, rfl, rfl, rfl⟩
      case round =>
        obtain ⟨n, hn, rfl, rfl, rfl⟩ := hrel
        by_cases hlt2 : n < 8
        · have hbs := bitsTo_succ r b n
          generalize bitsTo r b n = q at *
          rw [bitStep_eq] at hbs
          have hbx := bit_xor q b n
          have hs1 := shr1_u32 q
          have hx1 := bits_xor_u32 (q >>> 1) 2197175160#32
          rw [← hs1, show ((2197175160#32).toNat : Int) = 2197175160 by decide] at hx1
          have HBS := Lib.hid hbs
          have HX1 := Lib.hid hx1
          have HS1 := Lib.hid hs1
          clear hbs hx1 hs1
          have hb256 := b.isLt
          cases hbit : (q.getLsbD 0 ^^ b.getLsbD n) with
          | true =>
            rw [hbit] at hbx HBS
            simp only [Bool.toNat_true, if_true] at hbx HBS
            have hbb : (bits .and .u32 (bits .xor .u32 (q.toNat : Int) ((b.toNat : Int) / 2 ^ n)) 1 == 1) = true := by rw [hbx]; rfl
            clear hbit hbx
            go_wp2
            exact ⟨⟨n + 1, by omega, by go_num, by rw [HBS.out, ← HX1.out]; rfl, trivial⟩, by simp [intOf]; omega⟩
          | false =>
            rw [hbit] at hbx HBS
            simp only [Bool.toNat_false, Bool.false_eq_true, if_false] at hbx HBS
            have hbb : (bits .and .u32 (bits .xor .u32 (q.toNat : Int) ((b.toNat : Int) / 2 ^ n)) 1 == 1) = false := by rw [hbx]; rfl
            clear hbit hbx
            go_wp2
            exact ⟨⟨n + 1, by omega, by go_num, by rw [HBS.out, ← HS1.out]; rfl, trivial⟩, by simp [intOf]; omega⟩
        · obtain rfl : n = 8 := by omega
          rw [bitsTo_8, ← HFS.out]
          go_wp2
          exact ⟨⟨k + 1, by omega, by go_num, rfl, trivial⟩, by simp [intOf]; omega⟩
    · obtain rfl : k = xs.length := by omega
      rw [List.take_length]
      generalize hx : xs.foldl crcByte 4294967295#32 = r at *
      have HX : Hid (~~~ r = crcB xs) := Lib.hid (by rw [← hx]; rfl)
      have hr := HR.out r
      clear hx
      generalize ~~~ r = q at hr HX
      go_wp2
      go_ret
      exact ⟨ret_int (by rw [HX.out]), rfl⟩

theorem OwB.any {w : World} {v : Value} {xs : List B8} (h : OwB w v xs) : ∃ a c, v = .slice a xs.length c ∧ Bs w a xs ∧ (a = none → c = 0) := by
  obtain ⟨a, c, rfl, _, _, _, hn⟩ := h.form
  exact ⟨a, c, rfl, h.bs, fun h => (hn h).2⟩
theorem byte_of32 (x : BitVec 32) (t : Nat) : ((x.toNat : Int) / 2 ^ t) % 256 = ((((x.setWidth 64) >>> t).setWidth 8).toNat : Int) := by
  have e : x.toNat % 2 ^ 64 = x.toNat := Nat.mod_eq_of_lt (by have := x.isLt; omega)
  rw [BitVec.toNat_setWidth, BitVec.toNat_ushiftRight, BitVec.toNat_setWidth, Nat.shiftRight_eq_div_pow, e]
  simp
theorem beTo_4 (x : BitVec 64) : beTo x 4 4 = [(x >>> 24).setWidth 8, (x >>> 16).setWidth 8, (x >>> 8).setWidth 8, (x >>> 0).setWidth 8] := rfl
set_option maxRecDepth 100000 in
set_option maxHeartbeats 1000000 in
theorem sum4_calls (v : Value) (xs : List B8) (hl : xs.length ≤ 140737488351300) (w : World) (ho : OwB w v xs) :
    Calls Try.prog 67 #[v] w fun e w' => ∃ v', e = .returned v' ∧ OwB w' v' (sealB xs) ∧ St (fpV v) w (fpV v') w' := by
  obtain ⟨a, c, rfl, hb, hn⟩ := ho.any
  have HO := Lib.hid ho
  have HB := Lib.hid hb
  have HCR := Lib.hid (crc4_calls a c xs (by omega) w hb)
  have HSE : Hid (sealB xs = xs ++ beTo ((crcB xs).setWidth 64) 4 4) := Lib.hid rfl
  generalize crcB xs = cr at *
  have h1 : ((cr.toNat : Int) / 16777216) % 256 = _ := byte_of32 cr 24
  have h2 : ((cr.toNat : Int) / 65536) % 256 = _ := byte_of32 cr 16
  have h3 : ((cr.toNat : Int) / 256) % 256 = _ := byte_of32 cr 8
  have h4 := byte_of32 cr 0
  rw [Int.pow_zero, Int.ediv_one] at h4
  rw [beTo_4] at HSE
  have hcr := cr.isLt
  have H1 := Lib.hid h1
  have H2 := Lib.hid h2
  have H3 := Lib.hid h3
  have H4 := Lib.hid h4
  generalize (((cr.setWidth 64) >>> 24).setWidth 8 : B8) = b1 at *
  generalize (((cr.setWidth 64) >>> 16).setWidth 8 : B8) = b2 at *
  generalize (((cr.setWidth 64) >>> 8).setWidth 8 : B8) = b3 at *
  generalize (((cr.setWidth 64) >>> 0).setWidth 8 : B8) = b4 at *
  clear ho hb hn h1 h2 h3 h4
  go_enter Try.func67, Try.ntmps67
  go_wp2_with (first
    | (go_at_call 88; refine HCR.out.mono ?_; rintro e w1 ⟨rfl, rfl⟩)
    | (at_builtin; refine wpList_appB rfl (.tmp 6) (.tmp 10) rfl _ xs rfl (HO.out.newB _) (some ⟨w.heap.size, 0, none⟩) 1 1 [b1] rfl rfl (bs_oneB (by have hz := H1.out; first | exact hz | (rw [← hz, IntKind.wrap_u8]) | omega)) (fun h => by cases h) (by simp; omega) ?_; intro v1 w1 ho1 hs1 _; have HO1 := Lib.hid ho1; have HS1 := Lib.hid hs1.oneB; clear ho1 hs1)
    | (at_builtin; refine wpList_appB rfl (.tmp 12) (.tmp 16) rfl _ (xs ++ [b1]) rfl (HO1.out.newB _) (some ⟨w1.heap.size, 0, none⟩) 1 1 [b2] rfl rfl (bs_oneB (by have hz := H2.out; first | exact hz | (rw [← hz, IntKind.wrap_u8]) | omega)) (fun h => by cases h) (by simp; omega) ?_; intro v2 w2 ho2 hs2 _; have HO2 := Lib.hid ho2; have HS2 := Lib.hid hs2.oneB; clear ho2 hs2)
    | (at_builtin; refine wpList_appB rfl (.tmp 18) (.tmp 22) rfl _ (xs ++ [b1] ++ [b2]) rfl (HO2.out.newB _) (some ⟨w2.heap.size, 0, none⟩) 1 1 [b3] rfl rfl (bs_oneB (by have hz := H3.out; first | exact hz | (rw [← hz, IntKind.wrap_u8]) | omega)) (fun h => by cases h) (by simp; omega) ?_; intro v3 w3 ho3 hs3 _; have HO3 := Lib.hid ho3; have HS3 := Lib.hid hs3.oneB; clear ho3 hs3)
    | (at_builtin; refine wpList_appB rfl (.tmp 24) (.tmp 27) rfl _ (xs ++ [b1] ++ [b2] ++ [b3]) rfl (HO3.out.newB _) (some ⟨w3.heap.size, 0, none⟩) 1 1 [b4] rfl rfl (bs_oneB (by have hz := H4.out; first | exact hz | (rw [← hz, IntKind.wrap_u8]) | omega)) (fun h => by cases h) (by simp; omega) ?_; intro v4 w4 ho4 hs4 _; have HO4 := Lib.hid ho4; have HS4 := Lib.hid hs4.oneB; clear ho4 hs4))
  go_ret
  refine ⟨_, rfl, ?_, ((HS1.out.trans HS2.out).trans HS3.out).trans HS4.out⟩
  rw [HSE.out]
  have := HO4.out
  simp only [List.append_assoc, List.cons_append, List.nil_append] at this
  exact this

def SealOut (w : World) (bs : List B8) (e : Ending) (w' : World) : Prop := BOut w (sealB bs) e w'
set_option maxRecDepth 100000 in
theorem sealed_calls (v : Value) (xs : List B8) (hl : xs.length ≤ 140737488351300) (w : World) (ho : OwB w v xs) :
    Calls Try.prog 27 #[v] w fun e w' => ∃ v', e = .returned v' ∧ OwB w' v' (sealB xs) ∧ St (fpV v) w (fpV v') w' := by
  have HC := Lib.hid (sum4_calls v xs hl w ho)
  clear ho
  go_enter Try.func27, Try.ntmps27
  go_wp2_with fail
  refine HC.out.mono ?_
  rintro e w1 ⟨v1, rfl, ho1, hs1⟩
  have HO1 := Lib.hid ho1
  have HS1 := Lib.hid hs1
  clear ho1 hs1
  go_wp2
  go_ret
  exact ⟨_, rfl, HO1.out, HS1.out⟩
end Go.Proofs.Ytoeafacamapofaa
