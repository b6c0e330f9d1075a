
/-
  FragJoins, walked: it returns true.
-/
import Derived.Test.YtoeafacamapofaaRjPlays2
import Derived.Test.YtoeafacamapofaaRowOps
namespace Go.Proofs.Ytoeafacamapofaa
open Go.RowKit
set_option linter.unusedVariables false
set_option linter.unusedSimpArgs false

/-- both Joiners in a world that grew out of w -/
def BothAt (w wr : World) (jv kv : Value) (sl ag : Nat) : Prop :=
  ∃ FJ FR st rt, JX wr FJ jv sl ag st ∧ RX wr FR kv sl ag rt ∧ Alike sl ag st rt ∧ Dj FJ FR ∧ (∀ k, FJ k ∨ FR k → w.heap.size ≤ k) ∧ St No w (Nw w) wr
theorem OpsIn.cells {w : World} {a : Option Addr} {rs : List OpR} (h : OpsIn w a rs) (k : Nat) (r : OpR) (hk : rs[k]? = some r) : ∃ x, a = some x ∧ w.cell? (x.add (k * 8)) = some (.int .i64 r.kind) ∧ w.cell? ⟨(x.add (k * 8)).block, (x.add (k * 8)).off + 1, none⟩ = some (.int .u8 r.frm) ∧ w.cell? ⟨(x.add (k * 8)).block, (x.add (k * 8)).off + 2, none⟩ = some (.int .i64 r.packet) ∧ w.cell? ⟨(x.add (k * 8)).block, (x.add (k * 8)).off + 3, none⟩ = some (.int .u64 (r.id.toNat : Int)) ∧
    w.cell? ⟨(x.add (k * 8)).block, (x.add (k * 8)).off + 4, none⟩ = some (.int .i64 r.mtu) ∧ w.cell? ⟨(x.add (k * 8)).block, (x.add (k * 8)).off + 5, none⟩ = some (.int .i64 r.index) ∧ w.cell? ⟨(x.add (k * 8)).block, (x.add (k * 8)).off + 6, none⟩ = some (.int .i64 r.flip) ∧ w.cell? ⟨(x.add (k * 8)).block, (x.add (k * 8)).off + 7, none⟩ = some (.slice r.rawA r.raw.length r.rawC) ∧ r.Ok w := by
  obtain ⟨x, rfl, h1, h2⟩ := h k r hk
  exact ⟨x, rfl, h1 0 _ rfl, h1 1 _ rfl, h1 2 _ rfl, h1 3 _ rfl, h1 4 _ rfl, h1 5 _ rfl, h1 6 _ rfl, h1 7 _ rfl, h2⟩
set_option maxRecDepth 100000 in
set_option maxHeartbeats 1000000 in
theorem fragJoins_walk (slots age : Int) (pa : Option Addr) (pc : Nat) (L : List (List B8)) (hL : L.length ≤ 140737488351232) (sa : Option Addr) (sc : Nat) (rs : List OpR) (hn : rs.length ≤ 140737488351232) (w : World) (hl : Lists w pa L) (ho : OpsIn w sa rs) :
    Calls Try.prog 9 #[.int .i64 slots, .int .i64 age, .slice pa L.length pc, .slice sa rs.length sc] w fun e w' => e = .returned (.bool true) ∧ Below w.heap.size w w' := by
  have HL := Lib.hid hl
  have HO := Lib.hid ho
  clear hl ho
  cases hok : newOk slots age with
  | true =>
    have hb : 1 ≤ slots ∧ slots ≤ 16 ∧ 1 ≤ age ∧ age ≤ 64 := by simpa [newOk] using hok
    obtain ⟨sl, rfl⟩ := Int.eq_ofNat_of_zero_le (show 0 ≤ slots by omega)
    obtain ⟨ag, rfl⟩ := Int.eq_ofNat_of_zero_le (show 0 ≤ age by omega)
    go_enter Try.func9, Try.ntmps9
    go_wp2_with fail
    refine (new_calls sl ag w).mono ?_
    rintro e w1 (⟨_, pj, F1, rfl, hj1, hs1⟩ | ⟨h0, _⟩)
    rotate_left
    · rw [hok] at h0; cases h0
    go_wp2_with fail
    refine (rnew_calls sl ag w1).mono ?_
    rintro e w2 (⟨_, pr, F2, rfl, hk2, hs2⟩ | ⟨h0, _⟩)
    rotate_left
    · rw [hok] at h0; cases h0
    have HBA : Hid (BothAt w w2 (.pointer (some ⟨pj, 0, none⟩)) (.pointer (some ⟨pr, 0, none⟩)) sl ag) := Lib.hid ⟨F1, F2, some [], some [], ⟨pj, rfl, hj1.st hs2 (Dj.no _)⟩, ⟨pr, rfl, hk2⟩, ⟨Rel.nil, Sane.nil _ _⟩, fun k a b => by
      have := hj1.in k a
      have := (hs2.new k b).elim (fun h => h.elim) (fun h => h)
      omega, fun k hk => by
      rcases hk with hk | hk
      · exact (hs1.new k hk).elim (fun h => h.elim) (fun h => h)
      · have := (hs2.new k hk).elim (fun h => h.elim) (fun h => h)
        have := hs1.size
        omega, (hs1.then hs2)⟩
    obtain ⟨hsl, h16, hag, h64⟩ : 1 ≤ sl ∧ sl ≤ 16 ∧ 1 ≤ ag ∧ ag ≤ 64 := by omega
    clear hj1 hs1 hk2 hs2 hok hb
    go_wp2_with (go_at_call 36; refine (num4_calls 0 _).mono ?_; rintro e w6 ⟨rfl, rfl⟩)
    generalize hjv : (Value.pointer (some ⟨pj, 0, none⟩)) = jv at *
    generalize hkv : (Value.pointer (some ⟨pr, 0, none⟩)) = kv at *
    clear hjv hkv
    go_loopw [13] (fun t wr => ∃ k : Nat, k ≤ rs.length ∧ t = .int .i64 k ∧ Hid (BothAt w wr jv kv sl ag)) (fun t _ => rs.length - (intOf t).toNat)
    case atStart => exact ⟨0, by omega, rfl, HBA⟩
    case round =>
      clear HBA
      obtain ⟨k, hk, rfl, HB⟩ := hrel
      obtain ⟨FJ, FR, st, rt, hj, hkk, hal, hdj, hlo, hst⟩ := HB.out
      have HJ := Lib.hid hj
      have HK := Lib.hid hkk
      have HAL := Lib.hid hal
      have HDJ := Lib.hid hdj
      have HLO := Lib.hid hlo
      have HST := Lib.hid hst
      clear HB hj hkk hal hdj hlo hst
      by_cases hlt : k < rs.length
      · have hki : (k : Int) < (rs.length : Int) := by omega
        obtain ⟨r, hr⟩ : ∃ r, rs[k]? = some r := ⟨rs[k], List.getElem?_eq_getElem hlt⟩
        obtain ⟨x, rfl, c0, c1, c2, c3, c4, c5, c6, c7, hok⟩ := (HO.out.st HST.out).cells k r hr
        have HPL := Lib.hid (plays_calls pa pc L hL r.kind r.frm r.packet r.id r.mtu r.index r.flip r.rawA r.rawC r.raw hok.flip hok.packet hok.index hok.frm wr (HL.out.st HST.out) hok.raw.1 hok.raw.2.1 jv kv sl ag hsl h16 hag h64 FJ FR st rt HJ.out HK.out HAL.out HDJ.out)
        clear hr hok
        obtain ⟨kind, frm, packet, id, mtu, index, flip, rawA, rawC, raw⟩ := r
        simp only at c0 c1 c2 c3 c4 c5 c6 c7 HPL
        go_wp2_with fail
        refine HPL.out.mono ?_
        rintro e w3 ⟨rfl, FJ3, FR3, st3, rt3, hj3, hk3, hal3, hdj3, hs3⟩
        have HN : Hid (BothAt w w3 jv kv sl ag) := Lib.hid ⟨FJ3, FR3, st3, rt3, hj3, hk3, hal3, hdj3, fun q hq => by
          rcases hs3.new q hq with h | h
          · exact HLO.out q h
          · have := HST.out.size
            omega, HST.out.thenN hs3 (fun q hq => HLO.out q hq)⟩
        clear hj3 hk3 hal3 hdj3 hs3 HPL
        go_wp2
        go_roundw
        case rel => exact ⟨k + 1, by omega, by go_num, HN⟩
        case measure => simp [intOf]; omega
      · obtain rfl : k = rs.length := by omega
        go_wp2_with fail
        refine (jslotsX st jv sl ag h16 HAL.out.sane wr FJ HJ.out).mono ?_
        rintro e w3 ⟨V3, rfl, ho3, hs3⟩
        obtain ⟨a3, c3, rfl, _, _, _, _⟩ := ho3.form
        have HO3 := Lib.hid ho3
        have HS3 := Lib.hid hs3
        clear ho3 hs3
        go_wp2_with fail
        refine (rtellX st rt kv sl ag h16 HAL.out w3 FR (HK.out.st HS3.out (Dj.no _))).mono ?_
        rintro e w4 ⟨V4, rfl, ho4, hs4⟩
        obtain ⟨a4, c4, rfl, _, _, _, _⟩ := ho4.form
        have HO4 := Lib.hid ho4
        have HS4 := Lib.hid hs4
        have hln := tellX_len h16 HAL.out.sane
        clear ho4 hs4
        go_wp2_with fail
        refine (sameSlots_calls a3 c3 a4 c4 (tellX st) hln (tellX_frm HAL.out.sane) w4 (HO3.out.st HS4.out (Dj.no _)) HO4.out).mono ?_
        rintro e w5 ⟨rfl, hd5⟩
        have HS5 : Hid (St No w (Nw w) w5) := Lib.hid (((HST.out.then HS3.out).then HS4.out).then (hd5.st No))
        clear hd5
        go_wp2
        go_ret
        exact ⟨rfl, (HS5.out.drop (G' := No) (fun _ h => h.elim)).below⟩
  | false =>
    go_enter Try.func9, Try.ntmps9
    go_wp2_with fail
    refine (new_calls slots age w).mono ?_
    rintro e w1 (⟨h0, _⟩ | ⟨_, rfl, rfl⟩)
    · rw [hok] at h0; cases h0
    go_wp2_with fail
    refine (rnew_calls slots age w1).mono ?_
    rintro e w2 (⟨h0, _⟩ | ⟨_, rfl, rfl⟩)
    · rw [hok] at h0; cases h0
    obtain ⟨w, rfl⟩ : ∃ x, x = w2 := ⟨_, rfl⟩
    obtain ⟨w2, hw2⟩ : ∃ x, x = w := ⟨_, rfl⟩
    have HBA : Hid (BothAt w w2 (.pointer none) (.pointer none) 1 1) := Lib.hid (by rw [hw2]; exact ⟨No, No, none, none, ⟨rfl, fun k hk => hk⟩, ⟨rfl, fun k hk => hk⟩, trivial, fun k a b => a, fun k hk => by rcases hk with hk | hk <;> exact hk.elim, (St.refl No w).toNew⟩)
    obtain ⟨sl, hsl0⟩ : ∃ sl : Nat, sl = 1 := ⟨1, rfl⟩
    obtain ⟨ag, hag0⟩ : ∃ ag : Nat, ag = 1 := ⟨1, rfl⟩
    rw [show BothAt w w2 (.pointer none) (.pointer none) 1 1 = BothAt w w2 (.pointer none) (.pointer none) sl ag by rw [hsl0, hag0]] at HBA
    obtain ⟨hsl, h16, hag, h64⟩ : 1 ≤ sl ∧ sl ≤ 16 ∧ 1 ≤ ag ∧ ag ≤ 64 := by omega
    clear hok hsl0 hag0
    rw [← hw2]
    have HW2 := Lib.hid hw2
    clear hw2
    go_wp2_with (go_at_call 36; refine (num4_calls 2 _).mono ?_; rintro e w6 ⟨rfl, rfl⟩)
    generalize hjv : (Value.pointer none) = jv at *
    clear hjv
    go_loopw [13] (fun t wr => ∃ k : Nat, k ≤ rs.length ∧ t = .int .i64 k ∧ Hid (BothAt w wr jv jv sl ag)) (fun t _ => rs.length - (intOf t).toNat)
    case atStart => exact ⟨0, by omega, rfl, HBA⟩
    case round =>
      clear HBA
      obtain ⟨k, hk, rfl, HB⟩ := hrel
      obtain ⟨FJ, FR, st, rt, hj, hkk, hal, hdj, hlo, hst⟩ := HB.out
      have HJ := Lib.hid hj
      have HK := Lib.hid hkk
      have HAL := Lib.hid hal
      have HDJ := Lib.hid hdj
      have HLO := Lib.hid hlo
      have HST := Lib.hid hst
      clear HB hj hkk hal hdj hlo hst
      by_cases hlt : k < rs.length
      · have hki : (k : Int) < (rs.length : Int) := by omega
        obtain ⟨r, hr⟩ : ∃ r, rs[k]? = some r := ⟨rs[k], List.getElem?_eq_getElem hlt⟩
        obtain ⟨x, rfl, c0, c1, c2, c3, c4, c5, c6, c7, hok⟩ := (HO.out.st HST.out).cells k r hr
        have HPL := Lib.hid (plays_calls pa pc L hL r.kind r.frm r.packet r.id r.mtu r.index r.flip r.rawA r.rawC r.raw hok.flip hok.packet hok.index hok.frm wr (HL.out.st HST.out) hok.raw.1 hok.raw.2.1 jv jv sl ag hsl h16 hag h64 FJ FR st rt HJ.out HK.out HAL.out HDJ.out)
        clear hr hok
        obtain ⟨kind, frm, packet, id, mtu, index, flip, rawA, rawC, raw⟩ := r
        simp only at c0 c1 c2 c3 c4 c5 c6 c7 HPL
        go_wp2_with fail
        refine HPL.out.mono ?_
        rintro e w3 ⟨rfl, FJ3, FR3, st3, rt3, hj3, hk3, hal3, hdj3, hs3⟩
        have HN : Hid (BothAt w w3 jv jv sl ag) := Lib.hid ⟨FJ3, FR3, st3, rt3, hj3, hk3, hal3, hdj3, fun q hq => by
          rcases hs3.new q hq with h | h
          · exact HLO.out q h
          · have := HST.out.size
            omega, HST.out.thenN hs3 (fun q hq => HLO.out q hq)⟩
        clear hj3 hk3 hal3 hdj3 hs3 HPL
        go_wp2
        go_roundw
        case rel => exact ⟨k + 1, by omega, by go_num, HN⟩
        case measure => simp [intOf]; omega
      · obtain rfl : k = rs.length := by omega
        go_wp2_with fail
        refine (jslotsX st jv sl ag h16 HAL.out.sane wr FJ HJ.out).mono ?_
        rintro e w3 ⟨V3, rfl, ho3, hs3⟩
        obtain ⟨a3, c3, rfl, _, _, _, _⟩ := ho3.form
        have HO3 := Lib.hid ho3
        have HS3 := Lib.hid hs3
        clear ho3 hs3
        go_wp2_with fail
        refine (rtellX st rt jv sl ag h16 HAL.out w3 FR (HK.out.st HS3.out (Dj.no _))).mono ?_
        rintro e w4 ⟨V4, rfl, ho4, hs4⟩
        obtain ⟨a4, c4, rfl, _, _, _, _⟩ := ho4.form
        have HO4 := Lib.hid ho4
        have HS4 := Lib.hid hs4
        have hln := tellX_len h16 HAL.out.sane
        clear ho4 hs4
        go_wp2_with fail
        refine (sameSlots_calls a3 c3 a4 c4 (tellX st) hln (tellX_frm HAL.out.sane) w4 (HO3.out.st HS4.out (Dj.no _)) HO4.out).mono ?_
        rintro e w5 ⟨rfl, hd5⟩
        have HS5 : Hid (St No w (Nw w) w5) := Lib.hid (((HST.out.then HS3.out).then HS4.out).then (hd5.st No))
        clear hd5
        go_wp2
        go_ret
        exact ⟨rfl, (HS5.out.drop (G' := No) (fun _ h => h.elim)).below⟩
end Go.Proofs.Ytoeafacamapofaa
