
/-
  The statements' comparison of states.
-/
import Derived.Test.YtjepmckofocdnaaXoSame2
namespace Go.Proofs.Ytjepmckofocdnaa
open Go.RowKit
set_option linter.unusedVariables false
set_option linter.unusedSimpArgs false

set_option maxRecDepth 100000 in
set_option maxHeartbeats 2000000 in
theorem states8_calls (a : Option Addr) (c : Nat) (S : List SP) (b : Option Addr) (d : Nat) (T : List SP) (hSl : S.length ≤ 4294967296) (w : World) (ha : StR w a S) (hb : StR w b T) :
    Calls Try.prog 19 #[.agg #[.slice a S.length c], .agg #[.slice b T.length d]] w fun e w' => e = .returned (.bool (decide (S.map SP.pl = T.map SP.pl))) ∧ St No w No w' := by
  have HA := Lib.hid ha
  have HB := Lib.hid hb
  clear ha hb
  have HS0 : Hid (St No w No ((w.alloc (.cells #[.slice a S.length c] 24)).alloc (.cells #[.slice b T.length d] 24))) := Lib.hid ((St.alloc' No w _).trans (St.alloc' No _ _))
  have HB1 : Hid (Ob ((w.alloc (.cells #[.slice a S.length c] 24)).alloc (.cells #[.slice b T.length d] 24)) w.heap.size 24 #[.slice a S.length c]) := Lib.hid ((Ob.alloc w _ _).move ((St.alloc' No _ _).block _ (Ob.alloc w #[.slice a S.length c] 24).lt (fun e => e)))
  have HB2 : Hid (Ob ((w.alloc (.cells #[.slice a S.length c] 24)).alloc (.cells #[.slice b T.length d] 24)) (w.heap.size + 1) 24 #[.slice b T.length d]) := Lib.hid (by
    have h := Ob.alloc (w.alloc (.cells #[.slice a S.length c] 24)) #[.slice b T.length d] 24
    rw [World.size_alloc] at h
    exact h)
  have b1 : ((w.alloc (.cells #[.slice a S.length c] 24)).alloc (.cells #[.slice b T.length d] 24)).cell? ⟨w.heap.size, 0, none⟩ = some (.slice a S.length c) := by rw [HB1.out.cell 0]; rfl
  have b2 : ((w.alloc (.cells #[.slice a S.length c] 24)).alloc (.cells #[.slice b T.length d] 24)).cell? ⟨w.heap.size + 1, 0, none⟩ = some (.slice b T.length d) := by rw [HB2.out.cell 0]; rfl
  by_cases hl : S.length = T.length
  case neg =>
    have hl1 : ((S.length : Int) != (T.length : Int)) = true := by rw [bne_iff_ne]; omega
    have HN : Hid (decide (S.map SP.pl = T.map SP.pl) = false) := Lib.hid (decide_eq_false (fun e => hl (by have := congrArg List.length e; rw [List.length_map, List.length_map] at this; exact this)))
    clear hl
    go_enter Try.func19, Try.ntmps19
    go_wp2
    go_ret
    exact ⟨by rw [HN.out]; rfl, HS0.out⟩
  have hl1 : ((S.length : Int) != (T.length : Int)) = false := by rw [bne_eq_false_iff_eq]; omega
  have HL := Lib.hid hl
  clear hl
  go_enter Try.func19, Try.ntmps19
  go_wp2
  generalize (w.alloc (.cells #[.slice a S.length c] 24)).alloc (.cells #[.slice b T.length d] 24) = wA at *
  clear hl1 b1 b2
  go_loopw [5] (fun i wr => ∃ k : Nat, k ≤ S.length ∧ i = .int .i64 k ∧ Hid ((S.map SP.pl).take k = (T.map SP.pl).take k) ∧ Hid (St No wA No wr)) (fun i _ => S.length - (intOf i).toNat)
  case atStart => exact ⟨0, Nat.zero_le _, rfl, Lib.hid (by simp), Lib.hid (St.refl _ _)⟩
  case round =>
    obtain ⟨k, hk, rfl, ht, HD⟩ := hrel
    have b1 : wr.cell? ⟨w.heap.size, 0, none⟩ = some (.slice a S.length c) := by rw [(HB1.out.move (HD.out.block _ HB1.out.lt (fun e => e))).cell 0]; rfl
    have b2 : wr.cell? ⟨w.heap.size + 1, 0, none⟩ = some (.slice b T.length d) := by rw [(HB2.out.move (HD.out.block _ HB2.out.lt (fun e => e))).cell 0]; rfl
    by_cases hlt : k < S.length
    · have hlt2 : k < T.length := by have := HL.out; omega
      obtain ⟨s, hs⟩ : ∃ s, S[k]? = some s := ⟨_, List.getElem?_eq_getElem hlt⟩
      obtain ⟨t, ht2⟩ : ∃ t, T[k]? = some t := ⟨_, List.getElem?_eq_getElem hlt2⟩
      obtain ⟨hr1, x, rfl, hw1⟩ := (HA.out.st (HS0.out.trans HD.out)) k s hs
      obtain ⟨hr2, y, rfl, hw2⟩ := (HB.out.st (HS0.out.trans HD.out)) k t ht2
      have HR1 := Lib.hid hr1
      have HR2 := Lib.hid hr2
      have HW1 := Lib.hid hw1
      have HW2 := Lib.hid hw2
      obtain ⟨r0, r1, r2, r3, r4, r5⟩ := hw1
      obtain ⟨q0, q1, q2, q3, q4, q5⟩ := hw2
      have k1 : k < (S.map SP.pl).length := by rw [List.length_map]; exact hlt
      have k2 : k < (T.map SP.pl).length := by rw [List.length_map]; exact hlt2
      have e1 : (S.map SP.pl)[k] = s.pl := by
        have h := List.getElem?_eq_getElem k1
        rw [List.getElem?_map, hs] at h
        exact (Option.some.inj h).symm
      have e2 : (T.map SP.pl)[k] = t.pl := by
        have h := List.getElem?_eq_getElem k2
        rw [List.getElem?_map, ht2] at h
        exact (Option.some.inj h).symm
      have HT1 : Hid (s.pl = t.pl → (S.map SP.pl).take (k + 1) = (T.map SP.pl).take (k + 1)) := Lib.hid (fun e => takeG_succ k1 k2 ht.out (by rw [e1, e2, e]))
      have HT2 : Hid (¬ s.pl = t.pl → ¬ S.map SP.pl = T.map SP.pl) := Lib.hid (fun e => takeG_ne k1 k2 (by rw [e1, e2]; exact e))
      have m1 : (k : Int) < (S.length : Int) := by omega
      have m2 : (k : Int) < (T.length : Int) := by omega
      clear hs ht2 hr1 hr2 k1 k2 e1 e2
      go_wp2_with fail
      go_region_held3 (fun w' => w'.cell? ⟨w.heap.size, 0, none⟩ = some (.slice (some x) S.length c) ∧ w'.cell? ⟨w.heap.size + 1, 0, none⟩ = some (.slice (some y) T.length d) ∧ w'.cell? (x.add (k * 6)) = some (.int .u64 s.v.sent) ∧ w'.cell? ⟨(x.add (k * 6)).block, (x.add (k * 6)).off + 1, none⟩ = some (.int .u64 s.v.acked) ∧ w'.cell? ⟨(x.add (k * 6)).block, (x.add (k * 6)).off + 2, none⟩ = some (.slice s.v.qa s.v.qn s.v.qc) ∧ w'.cell? ⟨(x.add (k * 6)).block, (x.add (k * 6)).off + 3, none⟩ = some (.int .u64 (s.v.mask.toNat : Int)) ∧ w'.cell? ⟨(x.add (k * 6)).block, (x.add (k * 6)).off + 4, none⟩ = some (.int .u64 s.v.delivered) ∧ w'.cell? ⟨(x.add (k * 6)).block, (x.add (k * 6)).off + 5, none⟩ = some (.slice s.v.ea s.v.en s.v.ec) ∧ w'.cell? (y.add (k * 6)) = some (.int .u64 t.v.sent) ∧ w'.cell? ⟨(y.add (k * 6)).block, (y.add (k * 6)).off + 1, none⟩ = some (.int .u64 t.v.acked) ∧ w'.cell? ⟨(y.add (k * 6)).block, (y.add (k * 6)).off + 2, none⟩ = some (.slice t.v.qa t.v.qn t.v.qc) ∧ w'.cell? ⟨(y.add (k * 6)).block, (y.add (k * 6)).off + 3, none⟩ = some (.int .u64 (t.v.mask.toNat : Int)) ∧ w'.cell? ⟨(y.add (k * 6)).block, (y.add (k * 6)).off + 4, none⟩ = some (.int .u64 t.v.delivered) ∧ w'.cell? ⟨(y.add (k * 6)).block, (y.add (k * 6)).off + 5, none⟩ = some (.slice t.v.ea t.v.en t.v.ec)) (go_keep)
        (first
          | (go_at_call 49
             have sd : St No wr No _ := (by first | exact St.drew No _ | exact (St.drewN No _ _).trans (St.drew No _) | exact St.drewN No _ _)
             refine (peers8_calls _ s t (HR1.out.st sd) (HR2.out.st sd)).mono ?_
             rintro r w5 ⟨rfl, hs5⟩
             have hs5' := sd.trans hs5
             have u1 := hs5'.cellN b1
             have u2 := hs5'.cellN b2
             obtain ⟨v0, v1, v2, v3, v4, v5⟩ := HW1.out.st hs5'
             obtain ⟨x0, x1, x2, x3, x4, x5⟩ := HW2.out.st hs5'
             have HS5 := Lib.hid hs5'
             clear hs5 hs5' sd))
      have HDN := Lib.hid (HD.out.trans HS5.out)
      have HQ1 : Hid (decide (s.pl = t.pl) = true → (S.map SP.pl).take (k + 1) = (T.map SP.pl).take (k + 1)) := Lib.hid (fun e => HT1.out (of_decide_eq_true e))
      have HQ2 : Hid (decide (s.pl = t.pl) = false → ¬ S.map SP.pl = T.map SP.pl) := Lib.hid (fun e => HT2.out (of_decide_eq_false e))
      clear r0 r1 r2 r3 r4 r5 q0 q1 q2 q3 q4 q5 v0 v1 v2 v3 v4 v5 x0 x1 x2 x3 x4 x5 u1 u2 b1 b2
      generalize decide (s.pl = t.pl) = bb at *
      cases bb with
      | true =>
        have HS := Lib.hid (HQ1.out rfl)
        go_wp2
        exact ⟨⟨k + 1, by omega, by go_num, HS, HDN⟩, by simp [intOf]; omega⟩
      | false =>
        have HS := Lib.hid (HQ2.out rfl)
        go_wp2
        go_ret
        exact ⟨ret_bool (by simp [HS.out]), HS0.out.trans HDN.out⟩
    · obtain rfl : k = S.length := by omega
      have HE : Hid (decide (S.map SP.pl = T.map SP.pl) = true) := Lib.hid (decide_eq_true (by
        have h1 := ht.out
        have h2 := HL.out
        rw [List.take_of_length_le (by rw [List.length_map]; omega), List.take_of_length_le (by rw [List.length_map]; omega)] at h1
        exact h1))
      go_wp2
      go_ret
      exact ⟨by rw [HE.out]; rfl, HS0.out.trans HD.out⟩
end Go.Proofs.Ytjepmckofocdnaa
