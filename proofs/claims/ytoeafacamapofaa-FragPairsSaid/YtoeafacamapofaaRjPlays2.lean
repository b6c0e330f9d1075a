
/-
  The statements' sameSlots and made.
  The statement's made: the datagram of a step.
  The statement's plays: one step at both Joiners.
  The statement's plays: Tick, Forget, Slots, and no step.
-/
import Derived.Test.YtoeafacamapofaaRjBoth
import Derived.Test.YtoeafacamapofaaRowLists
import Derived.Test.YtoeafacamapofaaFgGrams
import Derived.Test.YtoeafacamapofaaFgStr
namespace Go.Proofs.Ytoeafacamapofaa
open Go.RowKit
set_option linter.unusedVariables false
set_option linter.unusedSimpArgs false

theorem bne_self_int (x : Int) : (x != x) = false := by simp
set_option maxRecDepth 100000 in
set_option maxHeartbeats 1000000 in
theorem sameSlots_calls (a : Option Addr) (c : Nat) (b : Option Addr) (d : Nat) (L : List FS) (hl : L.length ≤ 1048576) (hf : ∀ r ∈ L, 0 ≤ r.frm ∧ r.frm < 255) (w : World) (ha : Own w 109 5 (.slice a L.length c) L.length (L.flatMap FS.cells)) (hb : Own w 179 5 (.slice b L.length d) L.length (L.flatMap rtC)) :
    Calls Try.prog 52 #[.slice a L.length c, .slice b L.length d] w fun e w' => e = .returned (.bool true) ∧ Dr w w' := by
  have HA := Lib.hid ha
  have HB := Lib.hid hb
  have HF := Lib.hid hf
  have g1 : (((L.length : Nat) : Int) != (L.length : Int)) = false := by simp
  clear ha hb hf
  go_enter Try.func52, Try.ntmps52
  go_wp2_with fail
  go_loopw [5] (fun i wr => ∃ k : Nat, k ≤ L.length ∧ i = .int .i64 k ∧ Dr w wr) (fun i _ => L.length - (intOf i).toNat)
  case atStart => exact ⟨0, by omega, rfl, Dr.refl w⟩
  case round =>
    obtain ⟨k, hk, rfl, ⟨m, rfl⟩⟩ := hrel
    by_cases hlt : k < L.length
    · have hki : (k : Int) < (L.length : Int) := by omega
      obtain ⟨y, rfl⟩ := rowL_some FS.cells_len (by decide) HA.out k hlt
      obtain ⟨z, rfl⟩ := rowL_some rtC_len (by decide) HB.out k hlt
      have hea := fun j v => rowL_elem FS.cells_len HA.out k L[k] (List.getElem?_eq_getElem hlt) j v
      have heb := fun j v => rowL_elem rtC_len HB.out k L[k] (List.getElem?_eq_getElem hlt) j v
      obtain ⟨f1, f2⟩ := HF.out L[k] (List.getElem_mem hlt)
      generalize L[k] = r at *
      obtain ⟨frm, id, got, count, age⟩ := r
      simp only at f1 f2
      have a0 : w.cell? (y.add (k * 5)) = some (.int .u8 frm) := hea 0 _ (by decide) rfl
      have a1 : w.cell? ⟨(y.add (k * 5)).block, (y.add (k * 5)).off + 1, none⟩ = some (.int .u64 id) := hea 1 _ (by decide) rfl
      have a2 : w.cell? ⟨(y.add (k * 5)).block, (y.add (k * 5)).off + 2, none⟩ = some (.int .i64 got) := hea 2 _ (by decide) rfl
      have a3 : w.cell? ⟨(y.add (k * 5)).block, (y.add (k * 5)).off + 3, none⟩ = some (.int .i64 count) := hea 3 _ (by decide) rfl
      have a4 : w.cell? ⟨(y.add (k * 5)).block, (y.add (k * 5)).off + 4, none⟩ = some (.int .i64 age) := hea 4 _ (by decide) rfl
      have b0 : w.cell? (z.add (k * 5)) = some (.int .i64 frm) := heb 0 _ (by decide) rfl
      have b1 : w.cell? ⟨(z.add (k * 5)).block, (z.add (k * 5)).off + 1, none⟩ = some (.int .u64 id) := heb 1 _ (by decide) rfl
      have b2 : w.cell? ⟨(z.add (k * 5)).block, (z.add (k * 5)).off + 2, none⟩ = some (.int .i64 got) := heb 2 _ (by decide) rfl
      have b3 : w.cell? ⟨(z.add (k * 5)).block, (z.add (k * 5)).off + 3, none⟩ = some (.int .i64 count) := heb 3 _ (by decide) rfl
      have b4 : w.cell? ⟨(z.add (k * 5)).block, (z.add (k * 5)).off + 4, none⟩ = some (.int .i64 age) := heb 4 _ (by decide) rfl
      clear hea heb
      have w0 : IntKind.i64.wrap frm = frm := IntWalk.i64_in _ (by omega)
      have n0 : (frm != frm) = false := by simp
      have n1 : (id != id) = false := by simp
      have n2 : ((got : Int) != (got : Int)) = false := by simp
      have n3 : ((count : Int) != (count : Int)) = false := by simp
      have n4 : ((age : Int) != (age : Int)) = false := by simp
      go_wp2_with fail
      go_quiet (fail)
      go_wp2
      go_roundw
      case rel => exact ⟨k + 1, by omega, by go_num, (by first | exact Dr.one _ | exact Dr.step _ _)⟩
      case measure => simp [intOf]; omega
    · obtain rfl : k = L.length := by omega
      go_wp2
      go_ret
      exact ⟨rfl, Dr.one _⟩
end Go.Proofs.Ytoeafacamapofaa
namespace Go.Proofs.Ytoeafacamapofaa
open Go.RowKit
set_option linter.unusedVariables false
set_option linter.unusedSimpArgs false

/-- some bytes of its own -/
def MadeJ (w : World) (e : Ending) (w' : World) : Prop := ∃ V d, e = .returned V ∧ OwB w' V d ∧ d.length ≤ 140737488351232 ∧ St No w (fpV V) w'
theorem OwB.drew' {w : World} {V : Value} {d : List B8} (h : OwB w V d) : OwB w.drew V d := h.move (fun _ _ => rfl)
set_option maxRecDepth 100000 in
set_option maxHeartbeats 2000000 in
theorem made_calls (pa : Option Addr) (pc : Nat) (L : List (List B8)) (hL : L.length ≤ 140737488351232) (kind frm packet : Int) (id : BitVec 64) (mtu index flip : Int) (ra : Option Addr) (rc : Nat) (raw : List B8)
    (hfl : -9223372036854775808 ≤ flip ∧ flip ≤ 9223372036854775807) (hpk : -9223372036854775808 ≤ packet ∧ packet ≤ 9223372036854775807) (hix : -9223372036854775808 ≤ index ∧ index ≤ 9223372036854775807) (w : World) (hl : Lists w pa L) (hr : Bs w ra raw) (hrl : raw.length ≤ 140737488351232) :
    Calls Try.prog 90 #[.slice pa L.length pc, .agg #[.int .i64 kind, .int .u8 frm, .int .i64 packet, .int .u64 (id.toNat : Int), .int .i64 mtu, .int .i64 index, .int .i64 flip, .slice ra raw.length rc]] w (MadeJ w) := by
  have HL := Lib.hid hl
  have HR := Lib.hid hr
  have HB : Hid (Ob (w.alloc (.cells #[.int .i64 kind, .int .u8 frm, .int .i64 packet, .int .u64 (id.toNat : Int), .int .i64 mtu, .int .i64 index, .int .i64 flip, .slice ra raw.length rc] 85)) w.heap.size 85 #[.int .i64 kind, .int .u8 frm, .int .i64 packet, .int .u64 (id.toNat : Int), .int .i64 mtu, .int .i64 index, .int .i64 flip, .slice ra raw.length rc]) := Lib.hid (Ob.alloc w _ _)
  have HS0 : Hid (St No w No (w.alloc (.cells #[.int .i64 kind, .int .u8 frm, .int .i64 packet, .int .u64 (id.toNat : Int), .int .i64 mtu, .int .i64 index, .int .i64 flip, .slice ra raw.length rc] 85))) := Lib.hid (St.alloc' No w _)
  clear hl hr
  by_cases hk2 : kind = 2
  · subst hk2
    go_enter Try.func90, Try.ntmps90
    go_wp2_with fail
    refine (clone4_calls ra rc raw hrl _ (HR.out.st HS0.out (Dj.no _))).mono ?_
    rintro e wr ⟨V, rfl, ho, hs⟩
    obtain ⟨va, vc, rfl, _, _, _, _⟩ := ho.form
    obtain ⟨d, rfl⟩ : ∃ d, d = raw := ⟨_, rfl⟩
    have HV := Lib.hid ho
    have HSW : Hid (St No w (fpV (.slice va d.length vc)) wr) := Lib.hid (HS0.out.trans hs)
    have HBW : Hid (Ob wr w.heap.size 85 #[.int .i64 2, .int .u8 frm, .int .i64 packet, .int .u64 (id.toNat : Int), .int .i64 mtu, .int .i64 index, .int .i64 flip, .slice ra d.length rc]) := Lib.hid (HB.out.move (hs.block _ HB.out.lt (fun e => e)))
    have hdl := hrl
    clear ho hs HB
    have x6 : wr.cell? ⟨w.heap.size, 6, none⟩ = some (.int .i64 flip) := by rw [HBW.out.cell 6]; rfl
    by_cases hf0 : 0 < flip
    · by_cases hd0 : 0 < d.length
      · have hd0i : (0 : Int) < (d.length : Int) := by omega
        obtain ⟨m, hm, hm8⟩ : ∃ m : Nat, flip % (8 * (d.length : Int)) = (m : Int) ∧ m < 8 * d.length := ⟨(flip % (8 * (d.length : Int))).toNat, by
          have := Int.emod_nonneg flip (b := 8 * (d.length : Int)) (by omega)
          omega, by
          have := Int.emod_lt_of_pos flip (b := 8 * (d.length : Int)) (by omega)
          omega⟩
        obtain ⟨g, rfl⟩ := Own.block'r HV.out hd0
        have hm1 : (m : Int) / 8 = ((m / 8 : Nat) : Int) := by omega
        have hm2 : (m : Int) % 8 = ((m % 8 : Nat) : Int) := by omega
        have hq1 : m / 8 < d.length := by omega
        have hq2 : m % 8 < 8 := by omega
        generalize m / 8 = mj at *
        generalize m % 8 = mm at *
        have hqi : (mj : Int) < (d.length : Int) := by omega
        have hc := HV.out.cell mj hq1
        have hf := HV.out.free mj
        obtain ⟨y, hy⟩ : ∃ y : B8, d[mj]'hq1 = y := ⟨_, rfl⟩
        rw [hy] at hc
        have HM1 := Lib.hid hm8
        clear hy hm8
        go_wp2_with fail
        go_region
        all_goals go_wp2
        all_goals go_ret
        all_goals
          have hs := HV.out.set (n := d.length) rfl mj (y ^^^ (1#8 <<< mm))
          rw [← xor_shl_u8 y mm hq2] at hs
          refine ⟨_, d.set mj (y ^^^ (1#8 <<< mm)), rfl, ?_, by rw [List.length_set]; exact hdl, (HSW.out.trans ((St.setCell wr ⟨g, mj, none⟩ _ (by simp [fpV, Value.ownBlock])).trans (St.drew _ _)))⟩
          exact hs.drew'
      · have hd0i : ¬ (0 : Int) < (d.length : Int) := by omega
        go_wp2
        go_ret
        exact ⟨_, d, rfl, HV.out, hdl, HSW.out⟩
    · go_wp2
      go_ret
      exact ⟨_, d, rfl, HV.out, hdl, HSW.out⟩
  · have hkb : (kind == 2) = false := by simpa using hk2
    by_cases hn : L.length = 0
    · have hn0 : ¬ 0 < L.length := by omega
      have hn1 : ¬ (0 : Int) < (L.length : Int) := by omega
      have x6 : (w.alloc (.cells #[.int .i64 kind, .int .u8 frm, .int .i64 packet, .int .u64 (id.toNat : Int), .int .i64 mtu, .int .i64 index, .int .i64 flip, .slice ra raw.length rc] 85)).cell? ⟨w.heap.size, 6, none⟩ = some (.int .i64 flip) := by rw [HB.out.cell 6]; rfl
      have HSW : Hid (St No w (fpV (.slice none 0 0)) (w.alloc (.cells #[.int .i64 kind, .int .u8 frm, .int .i64 packet, .int .u64 (id.toNat : Int), .int .i64 mtu, .int .i64 index, .int .i64 flip, .slice ra raw.length rc] 85))) := Lib.hid (HS0.out.drop (fun k hk => by simp [fpV, Value.ownBlock] at hk))
      by_cases hf0 : 0 < flip
      · go_enter Try.func90, Try.ntmps90
        go_wp2
        go_ret
        exact ⟨_, [], rfl, OwB.nil _, by simp, HSW.out⟩
      · go_enter Try.func90, Try.ntmps90
        go_wp2
        go_ret
        exact ⟨_, [], rfl, OwB.nil _, by simp, HSW.out⟩
    · have hn0 : 0 < L.length := by omega
      have hn1 : (0 : Int) < (L.length : Int) := by omega
      have hn2 : ((L.length : Nat) : Int) ≠ 0 := by omega
      obtain ⟨n, hnl, hnn⟩ : ∃ n : Nat, n < L.length ∧ ((packet.tmod (L.length : Int) = (n : Int) ∧ ¬ packet.tmod (L.length : Int) < 0) ∨ (packet.tmod (L.length : Int) < 0 ∧ - packet.tmod (L.length : Int) = (n : Int))) := by
        have h1 := Int.natAbs_tmod packet (L.length : Int)
        have h2 : (packet.tmod (L.length : Int)).natAbs < L.length := by
          rw [h1]
          exact Nat.mod_lt _ hn0
        exact ⟨(packet.tmod (L.length : Int)).natAbs, h2, by omega⟩
      obtain ⟨xs, hxs⟩ : ∃ xs, L[n]? = some xs := ⟨L[n], List.getElem?_eq_getElem hnl⟩
      obtain ⟨px, b, cc, rfl, hcx, hbx, hbn, hbl⟩ := HL.out n xs hxs
      have hni : (n : Int) < (L.length : Int) := by omega
      have c0 : (w.alloc (.cells #[.int .i64 kind, .int .u8 frm, .int .i64 packet, .int .u64 (id.toNat : Int), .int .i64 mtu, .int .i64 index, .int .i64 flip, .slice ra raw.length rc] 85)).cell? (px.add n) = some (.slice b xs.length cc) := HS0.out.cellNo' hcx
      have b3 : (w.alloc (.cells #[.int .i64 kind, .int .u8 frm, .int .i64 packet, .int .u64 (id.toNat : Int), .int .i64 mtu, .int .i64 index, .int .i64 flip, .slice ra raw.length rc] 85)).cell? ⟨w.heap.size, 3, none⟩ = some (.int .u64 (id.toNat : Int)) := by rw [HB.out.cell 3]; rfl
      have b4 : (w.alloc (.cells #[.int .i64 kind, .int .u8 frm, .int .i64 packet, .int .u64 (id.toNat : Int), .int .i64 mtu, .int .i64 index, .int .i64 flip, .slice ra raw.length rc] 85)).cell? ⟨w.heap.size, 4, none⟩ = some (.int .i64 mtu) := by rw [HB.out.cell 4]; rfl
      have HBX : Hid (Bs (w.alloc (.cells #[.int .i64 kind, .int .u8 frm, .int .i64 packet, .int .u64 (id.toNat : Int), .int .i64 mtu, .int .i64 index, .int .i64 flip, .slice ra raw.length rc] 85)) b xs) := Lib.hid (hbx.st HS0.out (Dj.no _))
      clear hcx hbx hbn hxs
      rcases hnn with ⟨htm, htn⟩ | ⟨htn, htm⟩
      · go_enter Try.func90, Try.ntmps90
        go_wp2_with fail
        generalize (w.alloc (.cells #[.int .i64 kind, .int .u8 frm, .int .i64 packet, .int .u64 (id.toNat : Int), .int .i64 mtu, .int .i64 index, .int .i64 flip, .slice ra raw.length rc] 85)) = wb at *
        go_region_held3 (fun w' => w'.cell? (px.add n) = some (.slice b xs.length cc) ∧ w'.cell? ⟨w.heap.size, 3, none⟩ = some (.int .u64 (id.toNat : Int)) ∧ w'.cell? ⟨w.heap.size, 4, none⟩ = some (.int .i64 mtu)) (go_keep)
          (first
            | (go_at_call 28
               refine (clone4_calls b cc xs hbl _ (Bs.drew HBX.out)).mono ?_
               rintro e w5 ⟨v5, rfl, ho5, hs5⟩
               obtain ⟨a5, c5, rfl, _, _, _, _⟩ := ho5.form
               have hs5' := (St.drew No wb).trans hs5
               have x05 : w5.cell? (px.add n) = some (.slice b xs.length cc) := hs5'.cellNo' c0
               have x35 : w5.cell? ⟨w.heap.size, 3, none⟩ = some (.int .u64 (id.toNat : Int)) := hs5'.cellNo' b3
               have x45 : w5.cell? ⟨w.heap.size, 4, none⟩ = some (.int .i64 mtu) := hs5'.cellNo' b4
               have HSP := Lib.hid (refSplit_calls a5 c5 xs hbl id mtu w5 ho5.bs)
               have HS5 := Lib.hid hs5'
               clear ho5 hs5 hs5')
            | (go_at_call 32
               refine HSP.out.mono ?_
               rintro e wr ⟨VL, vs, rfl, hg, hs6⟩
               have hs6' := hs6
               have hs56 := HS5.out.then hs6
               have x06 : wr.cell? (px.add n) = some (.slice b xs.length cc) := hs56.cellNo' c0
               have x36 : wr.cell? ⟨w.heap.size, 3, none⟩ = some (.int .u64 (id.toNat : Int)) := hs56.cellNo' b3
               have x46 : wr.cell? ⟨w.heap.size, 4, none⟩ = some (.int .i64 mtu) := hs56.cellNo' b4
               have x56 : wr.cell? ⟨w.heap.size, 5, none⟩ = some (.int .i64 index) := hs56.cellNo' (by rw [HB.out.cell 5]; rfl)
               have x6 : wr.cell? ⟨w.heap.size, 6, none⟩ = some (.int .i64 flip) := hs56.cellNo' (by rw [HB.out.cell 6]; rfl)
               obtain ⟨aL, cL, rfl, _, _, _, _⟩ := hg.own.form
               have HG := Lib.hid hg
               have HS6 := Lib.hid hs6
               have HS56 : Hid (St No w (Nw w) wr) := Lib.hid ((HS0.out.then HS5.out).then hs6)
               have HBW : Hid (Ob wr w.heap.size 85 #[.int .i64 kind, .int .u8 frm, .int .i64 packet, .int .u64 (id.toNat : Int), .int .i64 mtu, .int .i64 index, .int .i64 flip, .slice ra raw.length rc]) := Lib.hid (HB.out.move (hs56.block _ HB.out.lt (fun e => e)))
               clear hg hs6 hs6' hs56))
        have hfew := splitB_few xs id mtu
        have HSM : Hid (∀ (i : Nat) (d : List B8), (splitB xs id mtu)[i]? = some d → d.length ≤ 1024) := Lib.hid (fun i d h => splitB_small xs id mtu i d h)
        generalize splitB xs id mtu = ds at *
        by_cases hds : 0 < ds.length
        · have hdsi : (0 : Int) < (ds.length : Int) := by omega
          by_cases hixn : 0 ≤ index
          · obtain ⟨gv, rfl⟩ := Own.block'r HG.out.own hds
            obtain ⟨j, hj, hjl⟩ : ∃ j : Nat, index % (ds.length : Int) = (j : Int) ∧ j < ds.length := ⟨(index % (ds.length : Int)).toNat, by
              have := Int.emod_nonneg index (b := (ds.length : Int)) (by omega)
              omega, by
              have := Int.emod_lt_of_pos index (b := (ds.length : Int)) (by omega)
              omega⟩
            have hji : (j : Int) < (ds.length : Int) := by omega
            obtain ⟨v, hv, hov⟩ := HG.out.get j hjl
            have hcj := HG.out.own.cellAt j v hv
            have hsj := HSM.out j _ (List.getElem?_eq_getElem hjl)
            obtain ⟨d, hd⟩ : ∃ d, ds[j] = d := ⟨_, rfl⟩
            rw [hd] at hov hsj
            obtain ⟨va, vc, rfl, _, _, _, _⟩ := hov.form
            have HV := Lib.hid hov
            have HSW : Hid (St No w (fpV (.slice va d.length vc)) wr) := Lib.hid (HS56.out.newF (fun k hk => HS6.out.new k (fpG.sub hv k hk) |>.elim (fun h => h.elim) (fun h => Nat.le_trans (HS0.out.then HS5.out).size h)))
            have hdl : d.length ≤ 140737488351232 := by omega
            clear hov hd hv hsj x06 x36 x46
            have x6 : wr.cell? ⟨w.heap.size, 6, none⟩ = some (.int .i64 flip) := by rw [HBW.out.cell 6]; rfl
            by_cases hf0 : 0 < flip
            · by_cases hd0 : 0 < d.length
              · have hd0i : (0 : Int) < (d.length : Int) := by omega
                obtain ⟨m, hm, hm8⟩ : ∃ m : Nat, flip % (8 * (d.length : Int)) = (m : Int) ∧ m < 8 * d.length := ⟨(flip % (8 * (d.length : Int))).toNat, by
                  have := Int.emod_nonneg flip (b := 8 * (d.length : Int)) (by omega)
                  omega, by
                  have := Int.emod_lt_of_pos flip (b := 8 * (d.length : Int)) (by omega)
                  omega⟩
                obtain ⟨g, rfl⟩ := Own.block'r HV.out hd0
                have hm1 : (m : Int) / 8 = ((m / 8 : Nat) : Int) := by omega
                have hm2 : (m : Int) % 8 = ((m % 8 : Nat) : Int) := by omega
                have hq1 : m / 8 < d.length := by omega
                have hq2 : m % 8 < 8 := by omega
                generalize m / 8 = mj at *
                generalize m % 8 = mm at *
                have hqi : (mj : Int) < (d.length : Int) := by omega
                have hc := HV.out.cell mj hq1
                have hf := HV.out.free mj
                obtain ⟨y, hy⟩ : ∃ y : B8, d[mj]'hq1 = y := ⟨_, rfl⟩
                rw [hy] at hc
                have HM1 := Lib.hid hm8
                clear hy hm8
                go_wp2_with fail
                go_region
                all_goals go_wp2
                all_goals go_ret
                all_goals
                  have hs := HV.out.set (n := d.length) rfl mj (y ^^^ (1#8 <<< mm))
                  rw [← xor_shl_u8 y mm hq2] at hs
                  refine ⟨_, d.set mj (y ^^^ (1#8 <<< mm)), rfl, ?_, by rw [List.length_set]; exact hdl, (HSW.out.trans ((St.setCell wr ⟨g, mj, none⟩ _ (by simp [fpV, Value.ownBlock])).trans (St.drew _ _)))⟩
                  exact hs.drew'
              · have hd0i : ¬ (0 : Int) < (d.length : Int) := by omega
                go_wp2
                go_ret
                exact ⟨_, d, rfl, HV.out, hdl, HSW.out⟩
            · go_wp2
              go_ret
              exact ⟨_, d, rfl, HV.out, hdl, HSW.out⟩
          · have HSW : Hid (St No w (fpV (.slice none 0 0)) wr) := Lib.hid (HS56.out.drop (fun k hk => by simp [fpV, Value.ownBlock] at hk))
            have hixb : decide (0 ≤ index) = false := decide_eq_false hixn
            by_cases hf0 : 0 < flip
            · go_wp2
              go_ret
              exact ⟨_, [], rfl, OwB.nil _, by simp, HSW.out⟩
            · go_wp2
              go_ret
              exact ⟨_, [], rfl, OwB.nil _, by simp, HSW.out⟩
        · have hdsi : ¬ (0 : Int) < (ds.length : Int) := by omega
          have HSW : Hid (St No w (fpV (.slice none 0 0)) wr) := Lib.hid (HS56.out.drop (fun k hk => by simp [fpV, Value.ownBlock] at hk))
          by_cases hf0 : 0 < flip
          · go_wp2
            go_ret
            exact ⟨_, [], rfl, OwB.nil _, by simp, HSW.out⟩
          · go_wp2
            go_ret
            exact ⟨_, [], rfl, OwB.nil _, by simp, HSW.out⟩
      · go_enter Try.func90, Try.ntmps90
        go_wp2_with fail
        generalize (w.alloc (.cells #[.int .i64 kind, .int .u8 frm, .int .i64 packet, .int .u64 (id.toNat : Int), .int .i64 mtu, .int .i64 index, .int .i64 flip, .slice ra raw.length rc] 85)) = wb at *
        go_region_held3 (fun w' => w'.cell? (px.add n) = some (.slice b xs.length cc) ∧ w'.cell? ⟨w.heap.size, 3, none⟩ = some (.int .u64 (id.toNat : Int)) ∧ w'.cell? ⟨w.heap.size, 4, none⟩ = some (.int .i64 mtu)) (go_keep)
          (first
            | (go_at_call 28
               refine (clone4_calls b cc xs hbl _ (Bs.drew HBX.out)).mono ?_
               rintro e w5 ⟨v5, rfl, ho5, hs5⟩
               obtain ⟨a5, c5, rfl, _, _, _, _⟩ := ho5.form
               have hs5' := (St.drew No wb).trans hs5
               have x05 : w5.cell? (px.add n) = some (.slice b xs.length cc) := hs5'.cellNo' c0
               have x35 : w5.cell? ⟨w.heap.size, 3, none⟩ = some (.int .u64 (id.toNat : Int)) := hs5'.cellNo' b3
               have x45 : w5.cell? ⟨w.heap.size, 4, none⟩ = some (.int .i64 mtu) := hs5'.cellNo' b4
               have HSP := Lib.hid (refSplit_calls a5 c5 xs hbl id mtu w5 ho5.bs)
               have HS5 := Lib.hid hs5'
               clear ho5 hs5 hs5')
            | (go_at_call 32
               refine HSP.out.mono ?_
               rintro e wr ⟨VL, vs, rfl, hg, hs6⟩
               have hs6' := hs6
               have hs56 := HS5.out.then hs6
               have x06 : wr.cell? (px.add n) = some (.slice b xs.length cc) := hs56.cellNo' c0
               have x36 : wr.cell? ⟨w.heap.size, 3, none⟩ = some (.int .u64 (id.toNat : Int)) := hs56.cellNo' b3
               have x46 : wr.cell? ⟨w.heap.size, 4, none⟩ = some (.int .i64 mtu) := hs56.cellNo' b4
               have x56 : wr.cell? ⟨w.heap.size, 5, none⟩ = some (.int .i64 index) := hs56.cellNo' (by rw [HB.out.cell 5]; rfl)
               have x6 : wr.cell? ⟨w.heap.size, 6, none⟩ = some (.int .i64 flip) := hs56.cellNo' (by rw [HB.out.cell 6]; rfl)
               obtain ⟨aL, cL, rfl, _, _, _, _⟩ := hg.own.form
               have HG := Lib.hid hg
               have HS6 := Lib.hid hs6
               have HS56 : Hid (St No w (Nw w) wr) := Lib.hid ((HS0.out.then HS5.out).then hs6)
               have HBW : Hid (Ob wr w.heap.size 85 #[.int .i64 kind, .int .u8 frm, .int .i64 packet, .int .u64 (id.toNat : Int), .int .i64 mtu, .int .i64 index, .int .i64 flip, .slice ra raw.length rc]) := Lib.hid (HB.out.move (hs56.block _ HB.out.lt (fun e => e)))
               clear hg hs6 hs6' hs56))
        have hfew := splitB_few xs id mtu
        have HSM : Hid (∀ (i : Nat) (d : List B8), (splitB xs id mtu)[i]? = some d → d.length ≤ 1024) := Lib.hid (fun i d h => splitB_small xs id mtu i d h)
        generalize splitB xs id mtu = ds at *
        by_cases hds : 0 < ds.length
        · have hdsi : (0 : Int) < (ds.length : Int) := by omega
          by_cases hixn : 0 ≤ index
          · obtain ⟨gv, rfl⟩ := Own.block'r HG.out.own hds
            obtain ⟨j, hj, hjl⟩ : ∃ j : Nat, index % (ds.length : Int) = (j : Int) ∧ j < ds.length := ⟨(index % (ds.length : Int)).toNat, by
              have := Int.emod_nonneg index (b := (ds.length : Int)) (by omega)
              omega, by
              have := Int.emod_lt_of_pos index (b := (ds.length : Int)) (by omega)
              omega⟩
            have hji : (j : Int) < (ds.length : Int) := by omega
            obtain ⟨v, hv, hov⟩ := HG.out.get j hjl
            have hcj := HG.out.own.cellAt j v hv
            have hsj := HSM.out j _ (List.getElem?_eq_getElem hjl)
            obtain ⟨d, hd⟩ : ∃ d, ds[j] = d := ⟨_, rfl⟩
            rw [hd] at hov hsj
            obtain ⟨va, vc, rfl, _, _, _, _⟩ := hov.form
            have HV := Lib.hid hov
            have HSW : Hid (St No w (fpV (.slice va d.length vc)) wr) := Lib.hid (HS56.out.newF (fun k hk => HS6.out.new k (fpG.sub hv k hk) |>.elim (fun h => h.elim) (fun h => Nat.le_trans (HS0.out.then HS5.out).size h)))
            have hdl : d.length ≤ 140737488351232 := by omega
            clear hov hd hv hsj x06 x36 x46
            have x6 : wr.cell? ⟨w.heap.size, 6, none⟩ = some (.int .i64 flip) := by rw [HBW.out.cell 6]; rfl
            by_cases hf0 : 0 < flip
            · by_cases hd0 : 0 < d.length
              · have hd0i : (0 : Int) < (d.length : Int) := by omega
                obtain ⟨m, hm, hm8⟩ : ∃ m : Nat, flip % (8 * (d.length : Int)) = (m : Int) ∧ m < 8 * d.length := ⟨(flip % (8 * (d.length : Int))).toNat, by
                  have := Int.emod_nonneg flip (b := 8 * (d.length : Int)) (by omega)
                  omega, by
                  have := Int.emod_lt_of_pos flip (b := 8 * (d.length : Int)) (by omega)
                  omega⟩
                obtain ⟨g, rfl⟩ := Own.block'r HV.out hd0
                have hm1 : (m : Int) / 8 = ((m / 8 : Nat) : Int) := by omega
                have hm2 : (m : Int) % 8 = ((m % 8 : Nat) : Int) := by omega
                have hq1 : m / 8 < d.length := by omega
                have hq2 : m % 8 < 8 := by omega
                generalize m / 8 = mj at *
                generalize m % 8 = mm at *
                have hqi : (mj : Int) < (d.length : Int) := by omega
                have hc := HV.out.cell mj hq1
                have hf := HV.out.free mj
                obtain ⟨y, hy⟩ : ∃ y : B8, d[mj]'hq1 = y := ⟨_, rfl⟩
                rw [hy] at hc
                have HM1 := Lib.hid hm8
                clear hy hm8
                go_wp2_with fail
                go_region
                all_goals go_wp2
                all_goals go_ret
                all_goals
                  have hs := HV.out.set (n := d.length) rfl mj (y ^^^ (1#8 <<< mm))
                  rw [← xor_shl_u8 y mm hq2] at hs
                  refine ⟨_, d.set mj (y ^^^ (1#8 <<< mm)), rfl, ?_, by rw [List.length_set]; exact hdl, (HSW.out.trans ((St.setCell wr ⟨g, mj, none⟩ _ (by simp [fpV, Value.ownBlock])).trans (St.drew _ _)))⟩
                  exact hs.drew'
              · have hd0i : ¬ (0 : Int) < (d.length : Int) := by omega
                go_wp2
                go_ret
                exact ⟨_, d, rfl, HV.out, hdl, HSW.out⟩
            · go_wp2
              go_ret
              exact ⟨_, d, rfl, HV.out, hdl, HSW.out⟩
          · have HSW : Hid (St No w (fpV (.slice none 0 0)) wr) := Lib.hid (HS56.out.drop (fun k hk => by simp [fpV, Value.ownBlock] at hk))
            have hixb : decide (0 ≤ index) = false := decide_eq_false hixn
            by_cases hf0 : 0 < flip
            · go_wp2
              go_ret
              exact ⟨_, [], rfl, OwB.nil _, by simp, HSW.out⟩
            · go_wp2
              go_ret
              exact ⟨_, [], rfl, OwB.nil _, by simp, HSW.out⟩
        · have hdsi : ¬ (0 : Int) < (ds.length : Int) := by omega
          have HSW : Hid (St No w (fpV (.slice none 0 0)) wr) := Lib.hid (HS56.out.drop (fun k hk => by simp [fpV, Value.ownBlock] at hk))
          by_cases hf0 : 0 < flip
          · go_wp2
            go_ret
            exact ⟨_, [], rfl, OwB.nil _, by simp, HSW.out⟩
          · go_wp2
            go_ret
            exact ⟨_, [], rfl, OwB.nil _, by simp, HSW.out⟩
end Go.Proofs.Ytoeafacamapofaa
namespace Go.Proofs.Ytoeafacamapofaa
open Go.RowKit
set_option linter.unusedVariables false
set_option linter.unusedSimpArgs false

theorem fillP_out {ss : List PS} (k : Nm) (f : Fg) (h : ∀ s ∈ ss, s.total ≤ 4096) : (fillP ss k f).out.length ≤ 4096 := by
  unfold fillP
  cases hg : getP k ss with
  | none => simp
  | some s =>
    simp only
    split
    · simp
    · split
      · simp
      · split
        · simp
        · show (layT s.total _).length ≤ 4096
          rw [layT_len]
          exact h s (getP_key hg).2
theorem openP_total {sl : Nat} {ss : List PS} (k : Nm) (f : Fg) (h : ∀ s ∈ ss, s.total ≤ 4096) (hf : f.total ≤ 4096) : ∀ s ∈ openP sl ss k f, s.total ≤ 4096 := by
  intro s hs
  unfold openP at hs
  cases hg : getP k ss with
  | some u => rw [hg] at hs; exact h s hs
  | none =>
    rw [hg] at hs
    rcases List.mem_append.1 hs with hs | hs
    · unfold beginP at hs
      split at hs
      · exact h s (List.mem_filter.1 hs).1
      · exact h s hs
    · rw [List.mem_singleton.1 hs]
      exact hf
theorem takeP_out {sl : Nat} {ss : List PS} (frm : Int) (d : List B8) (h : ∀ s ∈ ss, s.total ≤ 4096) : (takeP sl ss frm d).out.length ≤ 4096 := by
  unfold takeP
  split
  · simp
  · split
    · simp
    · rename_i h0 h1
      obtain ⟨hs, _, hp⟩ := look_ok (Classical.not_not.1 h1)
      split
      · show (lookF d).part.length ≤ 4096
        omega
      · exact fillP_out _ _ (openP_total _ _ h hs.2.1)
theorem takeX_out {sl ag : Nat} {st : Option (List PS)} {rt : Option (List RSl)} (h : Alike sl ag st rt) (frm : Int) (d : List B8) : (takeX sl st frm d).out.length ≤ 4096 := by
  cases st with
  | none => simp [takeX]
  | some ss =>
    cases rt with
    | none => exact h.elim
    | some rs =>
      refine takeP_out frm d (fun s hs => ?_)
      obtain ⟨i, hi⟩ := List.getElem?_of_mem hs
      have hl := (List.getElem?_eq_some_iff.1 hi).1
      have h1 := h.1.each i s (rs[i]'(by rw [← h.1.len]; exact hl)) hi (List.getElem?_eq_getElem _)
      obtain ⟨g, t, hlst⟩ := List.exists_cons_of_ne_nil h1.ne
      have h2 := h1.same g (by rw [hlst]; simp)
      have := h2.2.2.1.2.1
      have := h2.1
      omega
/-- both Joiners behind a step -/
def PlaysJ (w : World) (FJ FR : Nat → Prop) (jv kv : Value) (sl ag : Nat) (e : Ending) (w' : World) : Prop :=
  e = .returned (.bool true) ∧ ∃ FJ' FR' st rt, JX w' FJ' jv sl ag st ∧ RX w' FR' kv sl ag rt ∧ Alike sl ag st rt ∧ Dj FJ' FR' ∧ St (fun k => FJ k ∨ FR k) w (fun k => FJ' k ∨ FR' k) w'
set_option maxRecDepth 100000 in
set_option maxHeartbeats 2000000 in
theorem plays_take (pa : Option Addr) (pc : Nat) (L : List (List B8)) (hL : L.length ≤ 140737488351232) (kind frm packet : Int) (id : BitVec 64) (mtu index flip : Int) (ra : Option Addr) (rc : Nat) (raw : List B8)
    (hfl : -9223372036854775808 ≤ flip ∧ flip ≤ 9223372036854775807) (hpk : -9223372036854775808 ≤ packet ∧ packet ≤ 9223372036854775807) (hix : -9223372036854775808 ≤ index ∧ index ≤ 9223372036854775807) (hfr : 0 ≤ frm ∧ frm ≤ 255) (w : World) (hl : Lists w pa L) (hr : Bs w ra raw) (hrl : raw.length ≤ 140737488351232)
    (jv kv : Value) (sl ag : Nat) (hsl : 1 ≤ sl) (h16 : sl ≤ 16) (hag : 1 ≤ ag) (h64 : ag ≤ 64) (FJ FR : Nat → Prop) (st : Option (List PS)) (rt : Option (List RSl)) (hj : JX w FJ jv sl ag st) (hk : RX w FR kv sl ag rt) (hal : Alike sl ag st rt) (hdj : Dj FJ FR) (hkind : kind = 1 ∨ kind = 2) :
    Calls Try.prog 50 #[jv, kv, .slice pa L.length pc, .agg #[.int .i64 kind, .int .u8 frm, .int .i64 packet, .int .u64 (id.toNat : Int), .int .i64 mtu, .int .i64 index, .int .i64 flip, .slice ra raw.length rc]] w (PlaysJ w FJ FR jv kv sl ag) := by
  have HJ := Lib.hid hj
  have HK := Lib.hid hk
  have HAL := Lib.hid hal
  have HDJ := Lib.hid hdj
  have HB : Hid (Ob (w.alloc (.cells #[.int .i64 kind, .int .u8 frm, .int .i64 packet, .int .u64 (id.toNat : Int), .int .i64 mtu, .int .i64 index, .int .i64 flip, .slice ra raw.length rc] 85)) w.heap.size 85 #[.int .i64 kind, .int .u8 frm, .int .i64 packet, .int .u64 (id.toNat : Int), .int .i64 mtu, .int .i64 index, .int .i64 flip, .slice ra raw.length rc]) := Lib.hid (Ob.alloc w _ _)
  have HS0 : Hid (St No w No (w.alloc (.cells #[.int .i64 kind, .int .u8 frm, .int .i64 packet, .int .u64 (id.toNat : Int), .int .i64 mtu, .int .i64 index, .int .i64 flip, .slice ra raw.length rc] 85))) := Lib.hid (St.alloc' No w _)
  have HMK := Lib.hid (made_calls pa pc L hL kind frm packet id mtu index flip ra rc raw hfl hpk hix (w.alloc (.cells #[.int .i64 kind, .int .u8 frm, .int .i64 packet, .int .u64 (id.toNat : Int), .int .i64 mtu, .int .i64 index, .int .i64 flip, .slice ra raw.length rc] 85)) (hl.st (St.alloc' No w _)) (hr.st (St.alloc' No w _) (Dj.no _)) hrl)
  clear hj hk hal hdj hl hr hfl hpk hix
  have hk12 : (kind == 1) = true ∨ ((kind == 1) = false ∧ (kind == 2) = true) := by
    rcases hkind with rfl | rfl
    · exact .inl rfl
    · exact .inr ⟨rfl, rfl⟩
  clear hkind
  rcases hk12 with hk1 | ⟨hk1, hk2⟩
  all_goals
    go_enter Try.func50, Try.ntmps50
    go_wp2_with fail
    refine HMK.out.mono ?_
    rintro e w1 ⟨V, d, rfl, ho, hdl, hs⟩
    obtain ⟨va, vc, rfl, hv1, hv2, _, _⟩ := ho.form
    have HB1 : Hid (Ob w1 w.heap.size 85 #[.int .i64 kind, .int .u8 frm, .int .i64 packet, .int .u64 (id.toNat : Int), .int .i64 mtu, .int .i64 index, .int .i64 flip, .slice ra raw.length rc]) := Lib.hid (HB.out.move (hs.block _ HB.out.lt (fun e => e)))
    have HS1 : Hid (St No w (Nw w) w1) := Lib.hid (HS0.out.then hs)
    have HV := Lib.hid ho
    have HVN : Hid (∀ k, fpV (.slice va d.length vc) k → w.heap.size ≤ k) := Lib.hid (fun k hk => by
      have h1 := (hs.new k hk).elim (fun h => h.elim) (fun h => h)
      have h2 := HS0.out.size
      omega)
    clear ho hs HMK HB HS0
    go_wp2_with fail
    refine (roomyw_calls va vc d (by omega) w1 HV.out.bs).mono ?_
    rintro e w2 ⟨g, c2, rfl, hc1, hc2, hr2, hg2, hs2⟩
    have HR2 := Lib.hid hr2
    have HC2 := Lib.hid hc2
    have HS2 : Hid (St No w (Nw w) w2) := Lib.hid (HS1.out.then hs2)
    have HS12 := Lib.hid hs2
    have HB2 : Hid (Ob w2 w.heap.size 85 #[.int .i64 kind, .int .u8 frm, .int .i64 packet, .int .u64 (id.toNat : Int), .int .i64 mtu, .int .i64 index, .int .i64 flip, .slice ra raw.length rc]) := Lib.hid (HB1.out.move (hs2.block _ HB1.out.lt (fun e => e)))
    have HV2 := Lib.hid (HV.out.st hs2 (Dj.no _))
    have x1 : w2.cell? ⟨w.heap.size, 1, none⟩ = some (.int .u8 frm) := by rw [HB2.out.cell 1]; rfl
    have hgw : w.heap.size ≤ g := Nat.le_trans HS1.out.size hg2
    have HGV : Hid (¬ fpV (.slice va d.length vc) g) := Lib.hid (fun hv => by have := HV.out.in _ hv; omega)
    have hol := takeX_out HAL.out frm d
    have HTJ := Lib.hid (jtakeX st jv sl ag h16 HAL.out.sane w2 FJ (HJ.out.st HS2.out (Dj.no _)) frm hfr (some ⟨g, 0, none⟩) c2 d (by omega) (by omega) HC2.out HR2.out.own.bs)
    have HTK := Lib.hid (fun w4 a4 c4 (h1 : RX w4 FR kv sl ag rt) (h2 : d.length ≤ c4) (h3 : c4 ≤ maxLen) (h4 : Bs w4 a4 d) => rtakeX st rt kv sl ag hsl h16 HAL.out w4 FR h1 frm a4 c4 d (by omega) h2 h3 h4)
    obtain ⟨ta1, ta2, ta3, hta⟩ := HAL.out.take hsl hag hfr d
    generalize takeX sl st frm d = tx at *
    generalize rTakeX sl rt frm d = rx at *
    obtain ⟨out, whole, er, st3⟩ := tx
    obtain ⟨out', whole', er', rt3⟩ := rx
    simp only at ta1 ta2 ta3 hta hol HTJ HTK
    subst ta1
    subst ta2
    subst ta3
    have HTA := Lib.hid hta
    clear hr2 hs2 hc2 hta
    go_wp2_with fail
    refine HTJ.out.mono ?_
    rintro e w3 ⟨V1, FJ3, rfl, ho3, hj3, hs3, hd3⟩
    clear HTJ
    obtain ⟨a1, c1, rfl, _, _, _, _⟩ := ho3.form
    have HINJ := Lib.hid HJ.out.in
    have HINR := Lib.hid HK.out.in
    have hz2 := HS2.out.size
    have hz3 := hs3.size
    have HG2 : Hid (g < w2.heap.size) := Lib.hid (HR2.out.own.in g (by simp [fpV, Value.ownBlock]))
    have HV1F : Hid (∀ k, fpV (.slice a1 out.length c1) k → FJ k ∨ w2.heap.size ≤ k) := Lib.hid (fun k hk => hs3.new k (.inr hk))
    have HJ3F : Hid (∀ k, FJ3 k → FJ k ∨ w2.heap.size ≤ k) := Lib.hid (fun k hk => hs3.new k (.inl hk))
    have HV1I : Hid (In (fpV (.slice a1 out.length c1)) w3) := Lib.hid ho3.in
    have HB3 : Hid (Ob w3 w.heap.size 85 #[.int .i64 kind, .int .u8 frm, .int .i64 packet, .int .u64 (id.toNat : Int), .int .i64 mtu, .int .i64 index, .int .i64 flip, .slice ra raw.length rc]) := Lib.hid (HB2.out.move (hs3.block _ HB2.out.lt (fun hf => by have := HINJ.out _ hf; omega)))
    have x13 : w3.cell? ⟨w.heap.size, 1, none⟩ = some (.int .u8 frm) := by rw [HB3.out.cell 1]; rfl
    have HV3 := Lib.hid (HV2.out.st hs3 (fun k hf hv => by have h1 := HINJ.out k hf; have h2 := (HVN.out k hv); omega))
    have HR3 := Lib.hid (HR2.out.st hs3 (fun hf => by have := HINJ.out _ hf; omega))
    have HK3 := Lib.hid ((HK.out.st HS2.out (Dj.no _)).st hs3 HDJ.out)
    have HJ3 := Lib.hid hj3
    have HO3 := Lib.hid ho3
    have HS3 := Lib.hid hs3
    have HD3 := Lib.hid hd3
    have w0 : IntKind.i64.wrap frm = frm := IntWalk.i64_in _ (by omega)
    clear ho3 hj3 hs3 hd3 x1
    go_wp2_with fail
    go_region_held3 (fun w' => w'.cell? ⟨w.heap.size, 1, none⟩ = some (.int .u8 frm)) (go_keep)
      (first
        | (go_at_call 28
           refine (clone4w_calls va vc d (by omega) _ (Bs.drew HV3.out.bs)).mono ?_
           rintro e w4 ⟨v4, rfl, ho4, hs4⟩
           obtain ⟨a4, c4, rfl, hc4, hcm4, _, _⟩ := ho4.form
           have hs4' := (St.drew No w3).trans hs4
           have x14 : w4.cell? ⟨w.heap.size, 1, none⟩ = some (.int .u8 frm) := hs4'.cellNo' x13
           have HTK4 := Lib.hid (HTK.out w4 a4 c4 (HK3.out.st hs4' (Dj.no _)) hc4 hcm4 ho4.bs)
           have HS4 := Lib.hid hs4'
           clear ho4 hs4 hs4' hcm4)
        | (go_at_call 91
           refine HTK4.out.mono ?_
           rintro e w5 ⟨V5, FR5, rfl, ho5, hk5, hs5, hd5⟩
           obtain ⟨a5, c5, rfl, _, _, _, _⟩ := ho5.form
           have hz4 := HS4.out.size
           have hz5 := hs5.size
           have x15 : w5.cell? ⟨w.heap.size, 1, none⟩ = some (.int .u8 frm) := by
             rw [((HB3.out.move (HS4.out.block _ HB3.out.lt (fun e => e))).move (hs5.block _ (Nat.lt_of_lt_of_le HB3.out.lt hz4) (fun hf => by have := HINR.out _ hf; omega))).cell 1]
             rfl
           have HK5 := Lib.hid hk5
           have HO5 := Lib.hid ho5
           have HS5 := Lib.hid hs5
           have HZ5 : Hid (w2.heap.size ≤ w3.heap.size ∧ w3.heap.size ≤ w4.heap.size ∧ w4.heap.size ≤ w5.heap.size) := Lib.hid ⟨hz3, hz4, hz5⟩
           have HR5F : Hid (∀ k, FR5 k → FR k ∨ w4.heap.size ≤ k) := Lib.hid (fun k hk => hs5.new k (.inl hk))
           clear ho5 hk5 hs5 hd5 hz4 hz5))
    have HV5 := Lib.hid ((HV3.out.st HS4.out (Dj.no _)).st HS5.out (fun k hf hv => by have h1 := HINR.out k hf; have h2 := (HVN.out k hv); omega))
    have HR5 := Lib.hid ((HR3.out.st HS4.out (fun e => e)).st HS5.out (fun hf => by have := HINR.out _ hf; omega))
    have HO15 := Lib.hid ((HO3.out.st HS4.out (Dj.no _)).st HS5.out (fun k hf hv => by
      rcases HV1F.out k hv with h | h
      · exact HDJ.out k h hf
      · have := HINR.out k hf
        omega))
    have HJ5 := Lib.hid ((HJ3.out.st HS4.out (Dj.no _)).st HS5.out (fun k hf hv => by
      rcases HJ3F.out k hv with h | h
      · exact HDJ.out k h hf
      · have := HINR.out k hf
        omega))
    have HRK := Lib.hid (roomKeptw_calls g c2 d (by omega) hc1 HC2.out w5 HR5.out)
    have hv1 := conv_bs (w := w5) (c := c1) HO15.out.bs
    have hv2 := conv_bs (w := w5) (c := c5) HO5.out.bs
    have hv3 := conv_bs (w := w5) (c := c2) HR5.out.own.bs
    have hv4 := conv_bs (w := w5) (c := vc) HV5.out.bs
    have hq1 : ((strB out).toList == (strB out).toList) = true := by simp
    have hq2 : ((strB d).toList == (strB d).toList) = true := by simp
    have hq3 : (whole != whole) = false := by simp
    have hq4 : (er != er) = false := by simp
    go_wp2_with fail
    refine HRK.out.mono ?_
    rintro e w6 ⟨rfl, rfl⟩
    go_wp2_with (go_at_call 36; refine (num4_calls er _).mono ?_; rintro e w6 ⟨rfl, rfl⟩)
    refine (spoilw_calls (.slice (some ⟨g, 0, none⟩) d.length c2) d (by omega) 51#8 w5 HR5.out.own).mono ?_
    rintro e w6 ⟨rfl, F6, hs6⟩
    have hFg : ∀ k, fpV (.slice (some ⟨g, 0, none⟩) d.length c2) k → k = g := fun k hk => by
      have e : some g = some k := hk
      exact (Option.some.inj e).symm
    have HO16 := Lib.hid (HO15.out.st hs6 (fun k hf hv => by
      have e := hFg k hf
      subst e
      rcases HV1F.out _ hv with h | h
      · have := HINJ.out _ h; omega
      · have := HG2.out; omega))
    have HJ6 := Lib.hid (HJ5.out.st hs6 (fun k hf hv => by
      have e := hFg k hf
      subst e
      rcases HJ3F.out _ hv with h | h
      · have := HINJ.out _ h; omega
      · have := HG2.out; omega))
    have HK6 := Lib.hid (HK5.out.st hs6 (fun k hf hv => by
      have e := hFg k hf
      subst e
      rcases HR5F.out _ hv with h | h
      · have := HINR.out _ h; omega
      · have := HG2.out; have := HZ5.out; omega))
    have HS6 := Lib.hid hs6
    have HFG := Lib.hid hFg
    clear hs6 hFg hv1 hv2 hv3 hv4
    go_wp2_with fail
    refine (spoilw_calls (.slice a1 out.length c1) out (by omega) 68#8 w6 HO16.out).mono ?_
    rintro e w7 ⟨rfl, F7, hs7⟩
    have HS7 := Lib.hid hs7
    clear hs7
    go_wp2
    go_ret
    have q0 := HINJ.out
    have q1 := HINR.out
    have q2 := HZ5.out
    have q3 := HS3.out
    have q4 := HS4.out
    have q5 := HS5.out
    have q6 := HS6.out
    have q7 := HS7.out
    have q8 := HS2.out
    refine ⟨rfl, FJ3, FR5, st3, rt3, HJ6.out.st q7 HD3.out.symm, HK6.out.st q7 (fun k hf hv => ?_), HTA.out, fun k hf hv => ?_, ?_⟩
    · have h1 := HV1I.out k hf
      rcases HV1F.out k hf with h | h
      · rcases HR5F.out k hv with h2 | h2
        · exact HDJ.out k h h2
        · have := q0 k h; omega
      · rcases HR5F.out k hv with h2 | h2
        · have := q1 k h2; omega
        · omega
    · have h1 := HJ3.out.in k hf
      rcases HJ3F.out k hf with h | h
      · rcases HR5F.out k hv with h2 | h2
        · exact HDJ.out k h h2
        · have := q0 k h; omega
      · rcases HR5F.out k hv with h2 | h2
        · have := q1 k h2; omega
        · omega
    · refine ⟨q7.os.trans (q6.os.trans (q5.os.trans (q4.os.trans (q3.os.trans q8.os)))), q7.tape.trans (q6.tape.trans (q5.tape.trans (q4.tape.trans (q3.tape.trans q8.tape)))), q7.output.trans (q6.output.trans (q5.output.trans (q4.output.trans (q3.output.trans q8.output)))), Nat.le_trans q8.size (Nat.le_trans q3.size (Nat.le_trans q4.size (Nat.le_trans q5.size (Nat.le_trans q6.size q7.size)))), fun k hk hn => ?_, fun k hk => ?_⟩
      · have hk2 := Nat.lt_of_lt_of_le hk q8.size
        have hk3 := Nat.lt_of_lt_of_le hk2 q3.size
        have hk4 := Nat.lt_of_lt_of_le hk3 q4.size
        have hk5 := Nat.lt_of_lt_of_le hk4 q5.size
        have hk6 := Nat.lt_of_lt_of_le hk5 q6.size
        rw [q7.block k hk6 (fun hf => (HV1F.out k hf).elim (fun h => hn (.inl h)) (fun h => by omega)), q6.block k hk5 (fun hf => by have := HFG.out k hf; omega), q5.block k hk4 (fun hf => hn (.inr hf)), q4.block k hk3 (fun e => e), q3.block k hk2 (fun hf => hn (.inl hf))]
        exact q8.block k hk (fun e => e)
      · have hz2 := q8.size
        rcases hk with hk | hk
        · rcases HJ3F.out k hk with h | h
          · exact .inl (.inl h)
          · exact .inr (by omega)
        · rcases HR5F.out k hk with h | h
          · exact .inl (.inr h)
          · exact .inr (by omega)
end Go.Proofs.Ytoeafacamapofaa
namespace Go.Proofs.Ytoeafacamapofaa
open Go.RowKit
set_option linter.unusedVariables false
set_option linter.unusedSimpArgs false

theorem PlaysJ.mk {w w1 w2 : World} {FJ FR FJ' FR' : Nat → Prop} {jv kv : Value} {sl ag : Nat} {st st' : Option (List PS)} {rt rt' : Option (List RSl)} (h0 : St No w No w1) (hj0 : JX w FJ jv sl ag st) (hk0 : RX w FR kv sl ag rt) (hdj : Dj FJ FR)
    (s1 : St FJ w1 FJ' w2) (hj : JX w2 FJ' jv sl ag st') {w3 : World} (s2 : St FR w2 FR' w3) (hk : RX w3 FR' kv sl ag rt') (ha : Alike sl ag st' rt') {w4 : World} (s3 : St No w3 No w4) : PlaysJ w FJ FR jv kv sl ag (.returned (.bool true)) w4 := by
  have q0 := hj0.in
  have q1 := hk0.in
  have hJ : ∀ k, FJ' k → FJ k ∨ w1.heap.size ≤ k := s1.new
  have hR : ∀ k, FR' k → FR k ∨ w2.heap.size ≤ k := s2.new
  have z0 := h0.size
  have z1 := s1.size
  have z2 := s2.size
  have hd1 : Dj FR FJ' := fun k a b => by
    rcases hJ k b with h | h
    · exact hdj k h a
    · have := q1 k a; omega
  refine ⟨rfl, FJ', FR', st', rt', (hj.st s2 hd1).st s3 (Dj.no _), hk.st s3 (Dj.no _), ha, fun k a b => ?_, ?_⟩
  · rcases hR k b with h | h
    · exact hd1 k h a
    · have := hj.in k a; omega
  · refine ⟨s3.os.trans (s2.os.trans (s1.os.trans h0.os)), s3.tape.trans (s2.tape.trans (s1.tape.trans h0.tape)), s3.output.trans (s2.output.trans (s1.output.trans h0.output)), Nat.le_trans z0 (Nat.le_trans z1 (Nat.le_trans z2 s3.size)), fun k hk hn => ?_, fun k hk => ?_⟩
    · have k1 := Nat.lt_of_lt_of_le hk z0
      have k2 := Nat.lt_of_lt_of_le k1 z1
      rw [s3.block k (Nat.lt_of_lt_of_le k2 z2) (fun e => e), s2.block k k2 (fun h => hn (.inr h)), s1.block k k1 (fun h => hn (.inl h))]
      exact h0.block k hk (fun e => e)
    · rcases hk with hk | hk
      · rcases hJ k hk with h | h
        · exact .inl (.inl h)
        · exact .inr (by omega)
      · rcases hR k hk with h | h
        · exact .inl (.inr h)
        · exact .inr (by omega)
set_option maxRecDepth 100000 in
set_option maxHeartbeats 1000000 in
theorem plays_tick (pa : Option Addr) (pc : Nat) (L : List (List B8)) (kind frm packet : Int) (id : BitVec 64) (mtu index flip : Int) (ra : Option Addr) (rc : Nat) (raw : List B8) (hfr : 0 ≤ frm ∧ frm ≤ 255) (w : World)
    (jv kv : Value) (sl ag : Nat) (hsl : 1 ≤ sl) (h16 : sl ≤ 16) (hag : 1 ≤ ag) (h64 : ag ≤ 64) (FJ FR : Nat → Prop) (st : Option (List PS)) (rt : Option (List RSl)) (hj : JX w FJ jv sl ag st) (hk : RX w FR kv sl ag rt) (hal : Alike sl ag st rt) (hdj : Dj FJ FR) (hkind : kind = 3) :
    Calls Try.prog 50 #[jv, kv, .slice pa L.length pc, .agg #[.int .i64 kind, .int .u8 frm, .int .i64 packet, .int .u64 (id.toNat : Int), .int .i64 mtu, .int .i64 index, .int .i64 flip, .slice ra raw.length rc]] w (PlaysJ w FJ FR jv kv sl ag) := by
  subst hkind
  have HS0 : Hid (St No w No (w.alloc (.cells #[.int .i64 3, .int .u8 frm, .int .i64 packet, .int .u64 (id.toNat : Int), .int .i64 mtu, .int .i64 index, .int .i64 flip, .slice ra raw.length rc] 85))) := Lib.hid (St.alloc' No w _)
  have HJ := Lib.hid hj
  have HK := Lib.hid hk
  have HAL := Lib.hid hal
  have HDJ := Lib.hid hdj
  clear hj hk hal hdj
  go_enter Try.func50, Try.ntmps50
  go_wp2_with fail
  refine (jtickX st jv sl ag h16 h64 HAL.out.sane _ FJ (HJ.out.st HS0.out (Dj.no _))).mono ?_
  rintro e w2 ⟨rfl, FJ2, hj2, hs2⟩
  have HJ2 := Lib.hid hj2
  have HS2 := Lib.hid hs2
  clear hj2 hs2
  go_wp2_with fail
  refine (rtickX st rt kv sl ag h16 h64 HAL.out w2 FR ((HK.out.st HS0.out (Dj.no _)).st HS2.out HDJ.out)).mono ?_
  rintro e w3 ⟨rfl, FR3, hk3, hs3⟩
  have HK3 := Lib.hid hk3
  have HS3 := Lib.hid hs3
  clear hk3 hs3
  have hne : (tickNX ag st == tickNX ag st) = true := by simp
  go_wp2
  go_ret
  exact PlaysJ.mk HS0.out HJ.out HK.out HDJ.out HS2.out HJ2.out HS3.out HK3.out HAL.out.tick (St.refl _ _)
set_option maxRecDepth 100000 in
set_option maxHeartbeats 1000000 in
theorem plays_forget (pa : Option Addr) (pc : Nat) (L : List (List B8)) (kind frm packet : Int) (id : BitVec 64) (mtu index flip : Int) (ra : Option Addr) (rc : Nat) (raw : List B8) (hfr : 0 ≤ frm ∧ frm ≤ 255) (w : World)
    (jv kv : Value) (sl ag : Nat) (hsl : 1 ≤ sl) (h16 : sl ≤ 16) (hag : 1 ≤ ag) (h64 : ag ≤ 64) (FJ FR : Nat → Prop) (st : Option (List PS)) (rt : Option (List RSl)) (hj : JX w FJ jv sl ag st) (hk : RX w FR kv sl ag rt) (hal : Alike sl ag st rt) (hdj : Dj FJ FR) (hkind : kind = 4) :
    Calls Try.prog 50 #[jv, kv, .slice pa L.length pc, .agg #[.int .i64 kind, .int .u8 frm, .int .i64 packet, .int .u64 (id.toNat : Int), .int .i64 mtu, .int .i64 index, .int .i64 flip, .slice ra raw.length rc]] w (PlaysJ w FJ FR jv kv sl ag) := by
  subst hkind
  have HS0 : Hid (St No w No (w.alloc (.cells #[.int .i64 4, .int .u8 frm, .int .i64 packet, .int .u64 (id.toNat : Int), .int .i64 mtu, .int .i64 index, .int .i64 flip, .slice ra raw.length rc] 85))) := Lib.hid (St.alloc' No w _)
  have HB : Hid (Ob (w.alloc (.cells #[.int .i64 4, .int .u8 frm, .int .i64 packet, .int .u64 (id.toNat : Int), .int .i64 mtu, .int .i64 index, .int .i64 flip, .slice ra raw.length rc] 85)) w.heap.size 85 #[.int .i64 4, .int .u8 frm, .int .i64 packet, .int .u64 (id.toNat : Int), .int .i64 mtu, .int .i64 index, .int .i64 flip, .slice ra raw.length rc]) := Lib.hid (Ob.alloc w _ _)
  have HJ := Lib.hid hj
  have HK := Lib.hid hk
  have HAL := Lib.hid hal
  have HDJ := Lib.hid hdj
  clear hj hk hal hdj
  go_enter Try.func50, Try.ntmps50
  go_wp2_with fail
  refine (jforgetX st jv sl ag h16 HAL.out.sane _ FJ (HJ.out.st HS0.out (Dj.no _)) frm).mono ?_
  rintro e w2 ⟨rfl, FJ2, hj2, hs2⟩
  have HJ2 := Lib.hid hj2
  have HS2 := Lib.hid hs2
  have hb2 := HB.out.move (hs2.block _ HB.out.lt (fun hf => by have := HJ.out.in _ hf; omega))
  have x1 : w2.cell? ⟨w.heap.size, 1, none⟩ = some (.int .u8 frm) := by rw [hb2.cell 1]; rfl
  have w0 : IntKind.i64.wrap frm = frm := IntWalk.i64_in _ (by omega)
  clear hj2 hs2 hb2
  go_wp2_with fail
  refine (rforgetX st rt kv sl ag h16 HAL.out w2 FR ((HK.out.st HS0.out (Dj.no _)).st HS2.out HDJ.out) frm).mono ?_
  rintro e w3 ⟨rfl, FR3, hk3, hs3⟩
  have HK3 := Lib.hid hk3
  have HS3 := Lib.hid hs3
  clear hk3 hs3
  have hne : (forgetNX frm st == forgetNX frm st) = true := by simp
  have hne2 : (forgetEX frm st == forgetEX frm st) = true := by simp
  have HFIN : Hid (PlaysJ w FJ FR jv kv sl ag (.returned (.bool true)) w3) := Lib.hid (PlaysJ.mk HS0.out HJ.out HK.out HDJ.out HS2.out HJ2.out HS3.out HK3.out (HAL.out.forget frm) (St.refl _ _))
  generalize forgetNX frm st = x at *
  generalize forgetEX frm st = y at *
  go_wp2_with (go_at_call 36; refine (num4_calls y _).mono ?_; rintro e w6 ⟨rfl, rfl⟩)
  go_ret
  exact HFIN.out
set_option maxRecDepth 100000 in
set_option maxHeartbeats 1000000 in
theorem plays_slots (pa : Option Addr) (pc : Nat) (L : List (List B8)) (kind frm packet : Int) (id : BitVec 64) (mtu index flip : Int) (ra : Option Addr) (rc : Nat) (raw : List B8) (hfr : 0 ≤ frm ∧ frm ≤ 255) (w : World)
    (jv kv : Value) (sl ag : Nat) (hsl : 1 ≤ sl) (h16 : sl ≤ 16) (hag : 1 ≤ ag) (h64 : ag ≤ 64) (FJ FR : Nat → Prop) (st : Option (List PS)) (rt : Option (List RSl)) (hj : JX w FJ jv sl ag st) (hk : RX w FR kv sl ag rt) (hal : Alike sl ag st rt) (hdj : Dj FJ FR) (hkind : kind = 5) :
    Calls Try.prog 50 #[jv, kv, .slice pa L.length pc, .agg #[.int .i64 kind, .int .u8 frm, .int .i64 packet, .int .u64 (id.toNat : Int), .int .i64 mtu, .int .i64 index, .int .i64 flip, .slice ra raw.length rc]] w (PlaysJ w FJ FR jv kv sl ag) := by
  subst hkind
  have HS0 : Hid (St No w No (w.alloc (.cells #[.int .i64 5, .int .u8 frm, .int .i64 packet, .int .u64 (id.toNat : Int), .int .i64 mtu, .int .i64 index, .int .i64 flip, .slice ra raw.length rc] 85))) := Lib.hid (St.alloc' No w _)
  have HJ := Lib.hid hj
  have HK := Lib.hid hk
  have HAL := Lib.hid hal
  have HDJ := Lib.hid hdj
  clear hj hk hal hdj
  go_enter Try.func50, Try.ntmps50
  go_wp2_with fail
  refine (jslotsX st jv sl ag h16 HAL.out.sane _ FJ (HJ.out.st HS0.out (Dj.no _))).mono ?_
  rintro e w2 ⟨V2, rfl, ho2, hs2⟩
  obtain ⟨a2, c2, rfl, _, _, _, _⟩ := ho2.form
  have HO2 := Lib.hid ho2
  have HS2 := Lib.hid hs2
  clear ho2 hs2
  go_wp2_with fail
  refine (rtellX st rt kv sl ag h16 HAL.out w2 FR ((HK.out.st HS0.out (Dj.no _)).st HS2.out (Dj.no _))).mono ?_
  rintro e w3 ⟨V3, rfl, ho3, hs3⟩
  obtain ⟨a3, c3, rfl, _, _, _, _⟩ := ho3.form
  have HO3 := Lib.hid ho3
  have HS3 := Lib.hid hs3
  have hln := tellX_len h16 HAL.out.sane
  clear ho3 hs3
  go_wp2_with fail
  refine (sameSlots_calls a2 c2 a3 c3 (tellX st) hln (tellX_frm HAL.out.sane) w3 (HO2.out.st HS3.out (Dj.no _)) HO3.out).mono ?_
  rintro e w4 ⟨rfl, hd4⟩
  have HS4 := Lib.hid (hd4.st No)
  clear hd4
  go_wp2_with fail
  refine (spoilSlots_calls _ _ _ (by omega) w4 ((HO2.out.st HS3.out (Dj.no _)).st HS4.out (Dj.no _))).mono ?_
  rintro e w5 ⟨rfl, F5, hs5⟩
  have HS5 := Lib.hid hs5
  clear hs5
  go_wp2
  go_ret
  have h4 : St No w (Nw w) w4 := ((HS0.out.then HS2.out).then HS3.out).then HS4.out
  have h5 : St No w (Nw w) w5 := h4.thenN HS5.out (fun j hj => by
    have := (HS2.out.new j hj).elim (fun h => h.elim) (fun h => h)
    have := HS0.out.size
    omega)
  exact PlaysJ.mk (st' := st) (rt' := rt) (h5.drop (G' := No) (fun _ h => h.elim)) HJ.out HK.out HDJ.out ((St.refl FJ w5)) (HJ.out.st h5 (Dj.no _)) (St.refl FR w5) (HK.out.st h5 (Dj.no _)) HAL.out (St.refl _ _)
set_option maxRecDepth 100000 in
set_option maxHeartbeats 1000000 in
theorem plays_none (pa : Option Addr) (pc : Nat) (L : List (List B8)) (kind frm packet : Int) (id : BitVec 64) (mtu index flip : Int) (ra : Option Addr) (rc : Nat) (raw : List B8) (hfr : 0 ≤ frm ∧ frm ≤ 255) (w : World)
    (jv kv : Value) (sl ag : Nat) (hsl : 1 ≤ sl) (h16 : sl ≤ 16) (hag : 1 ≤ ag) (h64 : ag ≤ 64) (FJ FR : Nat → Prop) (st : Option (List PS)) (rt : Option (List RSl)) (hj : JX w FJ jv sl ag st) (hk : RX w FR kv sl ag rt) (hal : Alike sl ag st rt) (hdj : Dj FJ FR) (hkind : kind ≠ 1 ∧ kind ≠ 2 ∧ kind ≠ 3 ∧ kind ≠ 4 ∧ kind ≠ 5) :
    Calls Try.prog 50 #[jv, kv, .slice pa L.length pc, .agg #[.int .i64 kind, .int .u8 frm, .int .i64 packet, .int .u64 (id.toNat : Int), .int .i64 mtu, .int .i64 index, .int .i64 flip, .slice ra raw.length rc]] w (PlaysJ w FJ FR jv kv sl ag) := by
  obtain ⟨h1, h2, h3, h4, h5⟩ := hkind
  have b1 : (kind == 1) = false := by simpa using h1
  have b2 : (kind == 2) = false := by simpa using h2
  have b3 : (kind == 3) = false := by simpa using h3
  have b4 : (kind == 4) = false := by simpa using h4
  have b5 : (kind == 5) = false := by simpa using h5
  have HFIN : Hid (PlaysJ w FJ FR jv kv sl ag (.returned (.bool true)) (w.alloc (.cells #[.int .i64 kind, .int .u8 frm, .int .i64 packet, .int .u64 (id.toNat : Int), .int .i64 mtu, .int .i64 index, .int .i64 flip, .slice ra raw.length rc] 85))) := Lib.hid (PlaysJ.mk (st' := st) (rt' := rt) (St.alloc' No w _) hj hk hdj (St.refl FJ _) (hj.st (St.alloc' No w _) (Dj.no _)) (St.refl FR _) (hk.st (St.alloc' No w _) (Dj.no _)) hal (St.refl _ _))
  clear hj hk hal hdj h1 h2 h3 h4 h5
  go_enter Try.func50, Try.ntmps50
  go_wp2
  go_ret
  exact HFIN.out
/-- every step of a script -/
theorem plays_calls (pa : Option Addr) (pc : Nat) (L : List (List B8)) (hL : L.length ≤ 140737488351232) (kind frm packet : Int) (id : BitVec 64) (mtu index flip : Int) (ra : Option Addr) (rc : Nat) (raw : List B8)
    (hfl : -9223372036854775808 ≤ flip ∧ flip ≤ 9223372036854775807) (hpk : -9223372036854775808 ≤ packet ∧ packet ≤ 9223372036854775807) (hix : -9223372036854775808 ≤ index ∧ index ≤ 9223372036854775807) (hfr : 0 ≤ frm ∧ frm ≤ 255) (w : World) (hl : Lists w pa L) (hr : Bs w ra raw) (hrl : raw.length ≤ 140737488351232)
    (jv kv : Value) (sl ag : Nat) (hsl : 1 ≤ sl) (h16 : sl ≤ 16) (hag : 1 ≤ ag) (h64 : ag ≤ 64) (FJ FR : Nat → Prop) (st : Option (List PS)) (rt : Option (List RSl)) (hj : JX w FJ jv sl ag st) (hk : RX w FR kv sl ag rt) (hal : Alike sl ag st rt) (hdj : Dj FJ FR) :
    Calls Try.prog 50 #[jv, kv, .slice pa L.length pc, .agg #[.int .i64 kind, .int .u8 frm, .int .i64 packet, .int .u64 (id.toNat : Int), .int .i64 mtu, .int .i64 index, .int .i64 flip, .slice ra raw.length rc]] w (PlaysJ w FJ FR jv kv sl ag) := by
  by_cases h12 : kind = 1 ∨ kind = 2
  · exact plays_take pa pc L hL kind frm packet id mtu index flip ra rc raw hfl hpk hix hfr w hl hr hrl jv kv sl ag hsl h16 hag h64 FJ FR st rt hj hk hal hdj h12
  by_cases h3 : kind = 3
  · exact plays_tick pa pc L kind frm packet id mtu index flip ra rc raw hfr w jv kv sl ag hsl h16 hag h64 FJ FR st rt hj hk hal hdj h3
  by_cases h4 : kind = 4
  · exact plays_forget pa pc L kind frm packet id mtu index flip ra rc raw hfr w jv kv sl ag hsl h16 hag h64 FJ FR st rt hj hk hal hdj h4
  by_cases h5 : kind = 5
  · exact plays_slots pa pc L kind frm packet id mtu index flip ra rc raw hfr w jv kv sl ag hsl h16 hag h64 FJ FR st rt hj hk hal hdj h5
  · exact plays_none pa pc L kind frm packet id mtu index flip ra rc raw hfr w jv kv sl ag hsl h16 hag h64 FJ FR st rt hj hk hal hdj ⟨fun e => h12 (.inl e), fun e => h12 (.inr e), h3, h4, h5⟩
end Go.Proofs.Ytoeafacamapofaa
