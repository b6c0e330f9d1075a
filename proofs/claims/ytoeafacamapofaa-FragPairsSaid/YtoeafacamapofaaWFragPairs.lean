
/-
  FragPairs, walked: it returns true.
-/
import Derived.Test.YtoeafacamapofaaWFragJoins
import Derived.Test.YtoeafacamapofaaRowBools
namespace Go.Proofs.Ytoeafacamapofaa
open Go.RowKit
set_option linter.unusedVariables false
set_option linter.unusedSimpArgs false

/-- a Joiner and its double -/
def One (w : World) (F : Nat → Prop) (jv kv : Value) (sl ag : Nat) : Prop :=
  ∃ FJ FR st rt, JX w FJ jv sl ag st ∧ RX w FR kv sl ag rt ∧ Alike sl ag st rt ∧ Dj FJ FR ∧ ∀ k, F k ↔ FJ k ∨ FR k
theorem One.in {w : World} {F : Nat → Prop} {jv kv : Value} {sl ag : Nat} (h : One w F jv kv sl ag) : In F w := by
  obtain ⟨FJ, FR, st, rt, h1, h2, _, _, h5⟩ := h
  intro k hk
  rcases (h5 k).1 hk with h | h
  · exact h1.in k h
  · exact h2.in k h
theorem One.st {w w' : World} {F G G' : Nat → Prop} {jv kv : Value} {sl ag : Nat} (h : One w F jv kv sl ag) (s : St G w G' w') (hd : Dj G F) : One w' F jv kv sl ag := by
  obtain ⟨FJ, FR, st, rt, h1, h2, h3, h4, h5⟩ := h
  exact ⟨FJ, FR, st, rt, h1.st s (fun k a b => hd k a ((h5 k).2 (.inl b))), h2.st s (fun k a b => hd k a ((h5 k).2 (.inr b))), h3, h4, h5⟩
def PlayJ (w : World) (F : Nat → Prop) (jv kv : Value) (sl ag : Nat) (e : Ending) (w' : World) : Prop := e = .returned (.bool true) ∧ ∃ F', One w' F' jv kv sl ag ∧ St F w F' w'
theorem one_plays (pa : Option Addr) (pc : Nat) (L : List (List B8)) (hL : L.length ≤ 140737488351232) (r : OpR) (w : World) (hok : r.Ok w) (hl : Lists w pa L) (jv kv : Value) (sl ag : Nat) (hsl : 1 ≤ sl) (h16 : sl ≤ 16) (hag : 1 ≤ ag) (h64 : ag ≤ 64) (F : Nat → Prop) (h : One w F jv kv sl ag) :
    Calls Try.prog 50 #[jv, kv, .slice pa L.length pc, .agg #[.int .i64 r.kind, .int .u8 r.frm, .int .i64 r.packet, .int .u64 (r.id.toNat : Int), .int .i64 r.mtu, .int .i64 r.index, .int .i64 r.flip, .slice r.rawA r.raw.length r.rawC]] w (PlayJ w F jv kv sl ag) := by
  obtain ⟨FJ, FR, st, rt, h1, h2, h3, h4, h5⟩ := h
  refine (plays_calls pa pc L hL r.kind r.frm r.packet r.id r.mtu r.index r.flip r.rawA r.rawC r.raw hok.flip hok.packet hok.index hok.frm w hl hok.raw.1 hok.raw.2.1 jv kv sl ag hsl h16 hag h64 FJ FR st rt h1 h2 h3 h4).mono ?_
  rintro e w' ⟨rfl, FJ', FR', st', rt', j1, j2, j3, j4, s⟩
  exact ⟨rfl, _, ⟨FJ', FR', st', rt', j1, j2, j3, j4, fun k => Iff.rfl⟩, s.wide (fun k hk => (h5 k).2 hk) (fun k hk => .inr hk)⟩
theorem one_new {w w1 w2 : World} {F1 F2 : Nat → Prop} {pj pr sl ag : Nat} (h1 : Jn w1 F1 pj sl ag []) (s1 : St No w F1 w1) (h2 : RJ w2 F2 pr sl ag []) (s12 : St No w1 (Nw w1) w2) (s2 : ∀ k, F2 k → w1.heap.size ≤ k) : One w2 (fun k => F1 k ∨ F2 k) (.pointer (some ⟨pj, 0, none⟩)) (.pointer (some ⟨pr, 0, none⟩)) sl ag :=
  ⟨F1, F2, some [], some [], ⟨pj, rfl, h1.st s12 (Dj.no _)⟩, ⟨pr, rfl, h2⟩, ⟨Rel.nil, Sane.nil _ _⟩, fun k a b => by
    have := h1.in k a
    have := s2 k b
    omega, fun k => Iff.rfl⟩
def PairAt (w wr : World) (j1 k1 j2 k2 : Value) : Prop :=
  ∃ F1 F2, One wr F1 j1 k1 2 5 ∧ One wr F2 j2 k2 1 64 ∧ Dj F1 F2 ∧ (∀ k, F1 k ∨ F2 k → w.heap.size ≤ k) ∧ St No w (Nw w) wr
set_option maxRecDepth 100000 in
set_option maxHeartbeats 1000000 in
theorem fragPairs_walk (pa : Option Addr) (pc : Nat) (L : List (List B8)) (hL : L.length ≤ 140737488351232) (sa : Option Addr) (sc : Nat) (rs : List OpR) (hn : rs.length ≤ 140737488351232) (ba : Option Addr) (bc : Nat) (bs : List Bool) (hbn : bs.length ≤ 140737488351232) (w : World) (hl : Lists w pa L) (ho : OpsIn w sa rs) (hb : BlsIn w ba bs) :
    Calls Try.prog 10 #[.slice pa L.length pc, .slice sa rs.length sc, .slice ba bs.length bc] w fun e w' => e = .returned (.bool true) ∧ Below w.heap.size w w' := by
  have HL := Lib.hid hl
  have HO := Lib.hid ho
  have HBL := Lib.hid hb
  clear hl ho hb
  go_enter Try.func10, Try.ntmps10
  go_wp2_with fail
  refine (new_calls 2 5 w).mono ?_
  rintro e w1 (⟨_, p1, F1, rfl, hj1, hs1⟩ | ⟨h0, _⟩)
  rotate_left
  · exact absurd h0 (by decide)
  go_wp2_with fail
  refine (new_calls 1 64 w1).mono ?_
  rintro e w2 (⟨_, p2, F2, rfl, hj2, hs2⟩ | ⟨h0, _⟩)
  rotate_left
  · exact absurd h0 (by decide)
  go_wp2_with fail
  refine (rnew_calls 2 5 w2).mono ?_
  rintro e w3 (⟨_, p3, F3, rfl, hk3, hs3⟩ | ⟨h0, _⟩)
  rotate_left
  · exact absurd h0 (by decide)
  go_wp2_with fail
  refine (rnew_calls 1 64 w3).mono ?_
  rintro e w4 (⟨_, p4, F4, rfl, hk4, hs4⟩ | ⟨h0, _⟩)
  rotate_left
  · exact absurd h0 (by decide)
  have HPA : Hid (PairAt w w4 (.pointer (some ⟨p1, 0, none⟩)) (.pointer (some ⟨p3, 0, none⟩)) (.pointer (some ⟨p2, 0, none⟩)) (.pointer (some ⟨p4, 0, none⟩))) := Lib.hid (by
    have n1 : ∀ k, F1 k → w.heap.size ≤ k := fun k hk => (hs1.new k hk).elim (fun h => h.elim) (fun h => h)
    have n2 : ∀ k, F2 k → w1.heap.size ≤ k := fun k hk => (hs2.new k hk).elim (fun h => h.elim) (fun h => h)
    have n3 : ∀ k, F3 k → w2.heap.size ≤ k := fun k hk => (hs3.new k hk).elim (fun h => h.elim) (fun h => h)
    have n4 : ∀ k, F4 k → w3.heap.size ≤ k := fun k hk => (hs4.new k hk).elim (fun h => h.elim) (fun h => h)
    have i1 := hj1.in
    have i2 := hj2.in
    have i3 := hk3.in
    have z1 := hs1.size
    have z2 := hs2.size
    have z3 := hs3.size
    have o1 := one_new hj1 hs1 hk3 (hs2.then hs3) (fun k hk => by have := n3 k hk; omega)
    have o2 := one_new hj2 hs2 hk4 (hs3.then hs4) (fun k hk => by have := n4 k hk; omega)
    refine ⟨_, _, o1.st hs4 (Dj.no _), o2, fun k a b => ?_, fun k hk => ?_, ((hs1.then hs2).then hs3).then hs4⟩
    · rcases a with a | a <;> rcases b with b | b
      · have := i1 k a; have := n2 k b; omega
      · have := i1 k a; have := n4 k b; omega
      · have := n3 k a; have := i2 k b; omega
      · have := i3 k a; have := n4 k b; omega
    · rcases hk with (hk | hk) | (hk | hk)
      · have := n1 k hk; omega
      · have := n3 k hk; omega
      · have := n2 k hk; omega
      · have := n4 k hk; omega)
  clear hj1 hs1 hj2 hs2 hk3 hs3 hk4 hs4
  go_wp2_with fail
  generalize hv1 : (Value.pointer (some ⟨p1, 0, none⟩)) = j1 at *
  generalize hv2 : (Value.pointer (some ⟨p2, 0, none⟩)) = j2 at *
  generalize hv3 : (Value.pointer (some ⟨p3, 0, none⟩)) = k1 at *
  generalize hv4 : (Value.pointer (some ⟨p4, 0, none⟩)) = k2 at *
  clear hv1 hv2 hv3 hv4
  go_loopw [15] (fun t wr => ∃ k : Nat, k ≤ rs.length ∧ t = .int .i64 k ∧ Hid (PairAt w wr j1 k1 j2 k2)) (fun t _ => rs.length - (intOf t).toNat)
  case atStart => exact ⟨0, by omega, rfl, HPA⟩
  case round =>
    clear HPA
    obtain ⟨k, hk, rfl, HB⟩ := hrel
    obtain ⟨G1, G2, ho1, ho2, hdj, hlo, hst⟩ := HB.out
    have H1 := Lib.hid ho1
    have H2 := Lib.hid ho2
    have HDJ := Lib.hid hdj
    have HLO := Lib.hid hlo
    have HST := Lib.hid hst
    clear HB ho1 ho2 hdj hlo hst
    by_cases hlt : k < rs.length
    · have hki : (k : Int) < (rs.length : Int) := by omega
      obtain ⟨r, hr⟩ : ∃ r, rs[k]? = some r := ⟨rs[k], List.getElem?_eq_getElem hlt⟩
      obtain ⟨x, rfl, c0, c1, c2, c3, c4, c5, c6, c7, hok⟩ := (HO.out.st HST.out).cells k r hr
      have HP1 := Lib.hid (one_plays pa pc L hL r wr hok (HL.out.st HST.out) j1 k1 2 5 (by omega) (by omega) (by omega) (by omega) G1 H1.out)
      have HP2 := Lib.hid (one_plays pa pc L hL r wr hok (HL.out.st HST.out) j2 k2 1 64 (by omega) (by omega) (by omega) (by omega) G2 H2.out)
      clear hr hok
      obtain ⟨kind, frm, packet, id, mtu, index, flip, rawA, rawC, raw⟩ := r
      simp only at c0 c1 c2 c3 c4 c5 c6 c7 HP1 HP2
      have HE1 : Hid (∀ w3 F3, One w3 F3 j1 k1 2 5 → St G1 wr F3 w3 → PairAt w w3 j1 k1 j2 k2) := Lib.hid (fun w3 F3 h3 s3 => ⟨F3, G2, h3, H2.out.st s3 HDJ.out, fun q a b => by
          rcases s3.new q a with h | h
          · exact HDJ.out q h b
          · have := H2.out.in q b; omega, fun q hq => by
          rcases hq with hq | hq
          · rcases s3.new q hq with h | h
            · exact HLO.out q (.inl h)
            · have := HST.out.size; omega
          · exact HLO.out q (.inr hq), HST.out.thenN s3 (fun q hq => HLO.out q (.inl hq))⟩)
      have HE2 : Hid (∀ w3 F3, One w3 F3 j2 k2 1 64 → St G2 wr F3 w3 → PairAt w w3 j1 k1 j2 k2) := Lib.hid (fun w3 F3 h3 s3 => ⟨G1, F3, H1.out.st s3 HDJ.out.symm, h3, fun q a b => by
          rcases s3.new q b with h | h
          · exact HDJ.out q a h
          · have := H1.out.in q a; omega, fun q hq => by
          rcases hq with hq | hq
          · exact HLO.out q (.inl hq)
          · rcases s3.new q hq with h | h
            · exact HLO.out q (.inr h)
            · have := HST.out.size; omega, HST.out.thenN s3 (fun q hq => HLO.out q (.inr hq))⟩)
      by_cases hkb : k < bs.length
      · have hkbi : (k : Int) < (bs.length : Int) := by omega
        obtain ⟨b, hbk⟩ : ∃ b, bs[k]? = some b := ⟨bs[k], List.getElem?_eq_getElem hkb⟩
        obtain ⟨z, rfl, hz⟩ := (HBL.out.st HST.out) k b hbk
        clear hbk
        cases b with
        | true =>
          go_wp2_with fail
          refine HP1.out.mono ?_
          rintro e w3 ⟨rfl, F3, h3, s3⟩
          have HN := Lib.hid (HE1.out w3 F3 h3 s3)
          clear h3 s3 HP1 HP2
          go_wp2
          go_roundw
          case rel => exact ⟨k + 1, by omega, by go_num, HN⟩
          case measure => simp [intOf]; omega
        | false =>
          go_wp2_with fail
          refine HP2.out.mono ?_
          rintro e w3 ⟨rfl, F3, h3, s3⟩
          have HN := Lib.hid (HE2.out w3 F3 h3 s3)
          clear h3 s3 HP1 HP2
          go_wp2
          go_roundw
          case rel => exact ⟨k + 1, by omega, by go_num, HN⟩
          case measure => simp [intOf]; omega
      · have hkbi : ¬ (k : Int) < (bs.length : Int) := by omega
        go_wp2_with fail
        refine HP2.out.mono ?_
        rintro e w3 ⟨rfl, F3, h3, s3⟩
        have HN := Lib.hid (HE2.out w3 F3 h3 s3)
        clear h3 s3 HP1 HP2
        go_wp2
        go_roundw
        case rel => exact ⟨k + 1, by omega, by go_num, HN⟩
        case measure => simp [intOf]; omega
    · obtain rfl : k = rs.length := by omega
      obtain ⟨FJ1, FR1, st1, rt1, hj1, hk1, ha1, _, _⟩ := H1.out
      obtain ⟨FJ2, FR2, st2, rt2, hj2, hk2, ha2, _, _⟩ := H2.out
      have HJ1 := Lib.hid hj1
      have HK1 := Lib.hid hk1
      have HA1 := Lib.hid ha1
      have HJ2 := Lib.hid hj2
      have HK2 := Lib.hid hk2
      have HA2 := Lib.hid ha2
      clear hj1 hk1 ha1 hj2 hk2 ha2 H1 H2
      go_wp2_with fail
      refine (jslotsX st1 j1 2 5 (by omega) HA1.out.sane wr FJ1 HJ1.out).mono ?_
      rintro e w3 ⟨V3, rfl, ho3, hs3⟩
      obtain ⟨a3, c3, rfl, _, _, _, _⟩ := ho3.form
      have HO3 := Lib.hid ho3
      have HS3 := Lib.hid hs3
      clear ho3 hs3
      go_wp2_with fail
      refine (jslotsX st2 j2 1 64 (by omega) HA2.out.sane w3 FJ2 (HJ2.out.st HS3.out (Dj.no _))).mono ?_
      rintro e w4 ⟨V4, rfl, ho4, hs4⟩
      obtain ⟨a4, c4, rfl, _, _, _, _⟩ := ho4.form
      have HO4 := Lib.hid ho4
      have HS4 := Lib.hid hs4
      have HS34 := Lib.hid (HS3.out.then hs4)
      clear ho4 hs4
      go_wp2_with fail
      refine (rtellX st1 rt1 k1 2 5 (by omega) HA1.out w4 FR1 (HK1.out.st HS34.out (Dj.no _))).mono ?_
      rintro e w5 ⟨V5, rfl, ho5, hs5⟩
      obtain ⟨a5, c5, rfl, _, _, _, _⟩ := ho5.form
      have HO5 := Lib.hid ho5
      have HS5 := Lib.hid hs5
      have hln1 := tellX_len (by omega) HA1.out.sane
      have hln2 := tellX_len (by omega) HA2.out.sane
      clear ho5 hs5
      go_wp2_with fail
      refine (sameSlots_calls a3 c3 a5 c5 (tellX st1) hln1 (tellX_frm HA1.out.sane) w5 ((HO3.out.st HS4.out (Dj.no _)).st HS5.out (Dj.no _)) HO5.out).mono ?_
      rintro e w6 ⟨rfl, hd6⟩
      have HS6 := Lib.hid (hd6.st No)
      clear hd6
      go_wp2_with fail
      refine (rtellX st2 rt2 k2 1 64 (by omega) HA2.out w6 FR2 (((HK2.out.st HS34.out (Dj.no _)).st HS5.out (Dj.no _)).st HS6.out (Dj.no _))).mono ?_
      rintro e w7 ⟨V7, rfl, ho7, hs7⟩
      obtain ⟨a7, c7, rfl, _, _, _, _⟩ := ho7.form
      have HO7 := Lib.hid ho7
      have HS7 := Lib.hid hs7
      clear ho7 hs7
      go_wp2_with fail
      refine (sameSlots_calls a4 c4 a7 c7 (tellX st2) hln2 (tellX_frm HA2.out.sane) w7 (((HO4.out.st HS5.out (Dj.no _)).st HS6.out (Dj.no _)).st HS7.out (Dj.no _)) HO7.out).mono ?_
      rintro e w8 ⟨rfl, hd8⟩
      have HS8 : Hid (St No w (Nw w) w8) := Lib.hid (((((HST.out.then HS34.out).then HS5.out).then HS6.out).then HS7.out).then (hd8.st No))
      clear hd8
      go_wp2
      go_ret
      exact ⟨rfl, (HS8.out.drop (G' := No) (fun _ h => h.elim)).below⟩
end Go.Proofs.Ytoeafacamapofaa
