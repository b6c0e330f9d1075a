
/-
  The walks over the network's List, the statements' inside, among, same.
-/
import Derived.Test.YtoeafacamapofaaLyDrop
namespace Go.Proofs.Ytoeafacamapofaa
open Go.RowKit
set_option linter.unusedVariables false
set_option linter.unusedSimpArgs false

theorem flat_set3 (rs : List DR) (k : Nat) (r : DR) (h : k < rs.length) : ((((rs.flatMap DR.cells).set (k * 3) (.int .u8 r.src)).set (k * 3 + 1) (.int .u8 r.dst)).set (k * 3 + 2) (.slice r.a r.data.length r.c)) = (rs.set k r).flatMap DR.cells := by
  induction rs generalizing k with
  | nil => simp at h
  | cons x rs ih =>
    cases k with
    | zero => simp [DR.cells]
    | succ k =>
      simp at h
      have e : (k + 1) * 3 = k * 3 + 3 := by omega
      rw [e]
      simp only [List.flatMap_cons, DR.cells, List.cons_append, List.nil_append, List.set_cons_succ]
      rw [ih k (by omega)]
def zeroDR : DR := ⟨0, 0, none, 0, []⟩
theorem made_flat (n : Nat) : (madeCells (Value.agg #[.int .u8 0, .int .u8 0, .slice none 0 0]).cells (n * 3)).toList = (List.replicate n zeroDR).flatMap DR.cells := by
  apply List.ext_getElem?
  intro i
  by_cases hi : i < n * 3
  · have h := flat_get DR.cells 3 DR.cells_len (List.replicate n zeroDR) (i / 3) (i % 3) zeroDR (by rw [List.getElem?_replicate, if_pos (by omega)]) (Nat.mod_lt _ (by omega))
    rw [show i / 3 * 3 + i % 3 = i by omega] at h
    rw [h]
    have h3 : i % 3 = 0 ∨ i % 3 = 1 ∨ i % 3 = 2 := by omega
    have hz : (Value.agg #[Value.int .u8 0, .int .u8 0, .slice none 0 0]).cells = #[Value.int .u8 0, .int .u8 0, .slice none 0 0] := rfl
    rw [hz]
    simp only [madeCells, Array.toList_map, List.getElem?_map]
    have hr : (Array.range (n * 3)).toList[i]? = some i := by simp [hi]
    rw [hr]
    rcases h3 with e | e | e <;> simp [e, zeroDR, DR.cells]
  · rw [List.getElem?_eq_none (by simp [size_madeCells]; omega), List.getElem?_eq_none (by rw [flat_len DR.cells 3 DR.cells_len]; simp; omega)]
def ListPost (w : World) (rs : List DR) (e : Ending) (w' : World) : Prop :=
  ∃ (a : Option Addr) (c : Nat) (rs' : List DR), e = .returned (.slice a rs.length c) ∧ Own w' 38 3 (.slice a rs.length c) rs.length (rs'.flatMap DR.cells) ∧ (∀ r ∈ rs', Bs w' r.a r.data) ∧ rs'.map DR.data = rs.map DR.data ∧ St No w (Nw w) w'
set_option maxRecDepth 100000 in
set_option maxHeartbeats 2000000 in
theorem lyList_calls (w : World) (F : Nat → Prop) (p : Nat) (rs : List DR) (h : Nt w F p rs) : Calls Try.prog 25 #[.pointer (some ⟨p, 0, none⟩)] w (ListPost w rs) := by
  obtain ⟨b, V, D, k0, k1, k2, k3, k4, k5, k6, ho, hm, hd, n1, n2, n3, n4, n5, n6, hF⟩ := h
  obtain ⟨va, vc, rfl, hv1, hv2, hv3, hv4⟩ := hd.1.form
  have HOB := Lib.hid ho
  have HD := Lib.hid hd
  have hpl := ho.lt
  have d1 : w.cell? ⟨p, 1, none⟩ = some (.slice va rs.length vc) := by rw [ho.cell 1]; rfl
  obtain ⟨i, hi, hz, hsz, hby⟩ := info_parts dgInfo
  have HI := Lib.hid hi
  have HZ := Lib.hid hz
  have HSZ := Lib.hid hsz
  have HBY := Lib.hid hby
  clear ho hm hd hv1 hv2 hv3 hv4 hF n1 n2 n3 n4 n5 hi hz hsz hby
  go_enter Try.func25, Try.ntmps25
  go_wp2_with (at_make; refine wpList_makeN rfl 34 (.tmp 12) (.tmp 12) rfl 38 i _ 3 32 Try.underlying34 HI.out HZ.out HSZ.out HBY.out .i64 .i64 (rs.length : Int) (rs.length : Int) rs.length rfl rfl rfl rfl (by omega) (by unfold maxLen; omega) ?_; intro w1 ho1 hs1; rw [made_flat] at ho1; have hd1 : w1.cell? ⟨p, 1, none⟩ = some (.slice va rs.length vc) := by { rw [(HOB.out.move (hs1.block p hpl (fun h => h))).cell 1]; rfl }; have HO1 := Lib.hid ho1; have HS1 := Lib.hid hs1; have hgs : w.heap.size < w1.heap.size := ho1.in _ (by simp [fpV, Value.ownBlock]); clear ho1 hs1)
  go_loopw [19] (fun t wr => ∃ (k : Nat) (rs' : List DR), k ≤ rs.length ∧ t = .int .i64 k ∧ Hid (rs'.length = rs.length) ∧ Hid (Own wr 38 3 (.slice (some ⟨w.heap.size, 0, none⟩) rs.length rs.length) rs.length (rs'.flatMap DR.cells)) ∧ Hid (∀ r ∈ rs', Bs wr r.a r.data ∧ (∀ j, fpA r.a j → w.heap.size < j)) ∧ Hid (∀ j, j < k → (rs'.map DR.data)[j]? = (rs.map DR.data)[j]?) ∧ Hid (St No w (Nw w) wr)) (fun t _ => rs.length - (intOf t).toNat)
  case atStart =>
    refine ⟨0, List.replicate rs.length zeroDR, by omega, rfl, Lib.hid (by simp), HO1, Lib.hid (fun r hr => ?_), Lib.hid (fun j hj => by omega), Lib.hid HS1.out.toNew⟩
    obtain ⟨_, rfl⟩ := List.mem_replicate.1 hr
    exact ⟨Rd.nil _ _, fun j hj => by obtain ⟨y, hy, _⟩ := hj; cases hy⟩
  case round =>
    clear HO1 HS1 hd1 d1
    obtain ⟨k, rs', hk, rfl, HL, HO, HB, HE, HS⟩ := hrel
    by_cases hlt : k < rs.length
    · obtain ⟨r, hr⟩ : ∃ r, rs[k]? = some r := ⟨_, List.getElem?_eq_getElem hlt⟩
      have hown := HD.out.1.st HS.out (Dj.no _)
      obtain ⟨y, rfl⟩ := rows_some DR.cells_len (by decide) hown k hlt
      have hel := fun j v => rows_elem DR.cells_len hown k r hr j v
      have hmem : r ∈ rs := List.mem_of_getElem? hr
      obtain ⟨x1, x2, x3, x4⟩ := HD.out.2.2.2 r hmem
      have HTW : Hid (∀ W, St No wr No W → Calls Try.prog 66 #[.agg #[.int .u8 r.src, .int .u8 r.dst, .slice r.a r.data.length r.c]] W fun e w' => ∃ b k, e = .returned (.agg #[.int .u8 r.src, .int .u8 r.dst, .slice b r.data.length k]) ∧ OwB w' (.slice b r.data.length k) r.data ∧ St No W (fpV (.slice b r.data.length k)) w') := Lib.hid (fun W st =>
        twin_calls r.src r.dst r.a r.c r.data (by omega) x3 W ((x1.st HS.out (Dj.no _)).st st (Dj.no _)))
      have HR := Lib.hid hr
      have hk3 : k * 3 < (rs'.flatMap DR.cells).length ∧ k * 3 + 1 < (rs'.flatMap DR.cells).length ∧ k * 3 + 2 < (rs'.flatMap DR.cells).length := by
        rw [flat_len DR.cells 3 DR.cells_len, HL.out]; omega
      clear hown hmem x1 x2 x3 x4 hr
      obtain ⟨s, d, ra, rc, rb⟩ := r
      have c0 : wr.cell? (y.add (k * 3)) = some (.int .u8 s) := hel 0 _ (by decide) rfl
      have c1 : wr.cell? ⟨(y.add (k * 3)).block, (y.add (k * 3)).off + 1, none⟩ = some (.int .u8 d) := hel 1 _ (by decide) rfl
      have c2 : wr.cell? ⟨(y.add (k * 3)).block, (y.add (k * 3)).off + 2, none⟩ = some (.slice ra rb.length rc) := hel 2 _ (by decide) rfl
      clear hel
      simp only at HTW
      go_wp2_with fail
      refine (HTW.out _ (St.alloc' No wr _)).mono ?_
      rintro e w2 ⟨tb, tk, rfl, ho2, hs2⟩
      have hw2 := (St.alloc' No wr (.cells #[.int .u8 s, .int .u8 d, .slice ra rb.length rc] 38)).trans hs2
      have hO2 := HO.out.st hw2 (Dj.no _)
      have g0 := hO2.cellAt (k * 3) _ (List.getElem?_eq_getElem hk3.1)
      have g1 := hO2.cellAt (k * 3 + 1) _ (List.getElem?_eq_getElem hk3.2.1)
      have g2 := hO2.cellAt (k * 3 + 2) _ (List.getElem?_eq_getElem hk3.2.2)
      have f0 := hO2.freeAt (k * 3)
      have f1 := hO2.freeAt (k * 3 + 1)
      have f2 := hO2.freeAt (k * 3 + 2)
      generalize (rs'.flatMap DR.cells)[k * 3]'hk3.1 = u0 at g0
      generalize (rs'.flatMap DR.cells)[k * 3 + 1]'hk3.2.1 = u1 at g1
      generalize (rs'.flatMap DR.cells)[k * 3 + 2]'hk3.2.2 = u2 at g2
      have HO2 := Lib.hid hO2
      have HW2 := Lib.hid hw2
      have HT2 := Lib.hid ho2
      have hgl : ∀ j, fpV (.slice tb rb.length tk) j → w.heap.size < j := fun j hj => (hs2.new j hj).elim (fun h => h.elim) (fun h => by have := HS.out.size; simp at h; omega)
      have HGL := Lib.hid hgl
      clear hO2 hw2 ho2 hs2 hgl hk3
      go_wp2
      have ht := ((St.setCell (F := fun j => j = w.heap.size) w2 ⟨w.heap.size, k * 3, none⟩ (.int .u8 s) rfl).trans (St.setCell _ ⟨w.heap.size, k * 3 + 1, none⟩ (.int .u8 d) rfl)).trans (St.setCell _ ⟨w.heap.size, k * 3 + 2, none⟩ (.slice tb rb.length tk) rfl)
      refine ⟨⟨k + 1, rs'.set k ⟨s, d, tb, tk, rb⟩, by omega, by simp, Lib.hid (by rw [List.length_set]; exact HL.out), Lib.hid ?_, Lib.hid ?_, Lib.hid ?_, Lib.hid ?_⟩, by simp [intOf]; omega⟩
      · rw [← flat_set3 rs' k ⟨s, d, tb, tk, rb⟩ (by rw [HL.out]; exact hlt)]
        exact ((HO2.out.set (k * 3) _).set (k * 3 + 1) _).set (k * 3 + 2) _
      · intro r hr
        rcases List.mem_or_eq_of_mem_set hr with hr | rfl
        · obtain ⟨z1, z2⟩ := HB.out r hr
          exact ⟨(z1.st HW2.out (Dj.no _)).st ht (fun j hj hf => by obtain rfl : j = w.heap.size := hj; have := z2 _ hf; omega), z2⟩
        · exact ⟨HT2.out.bs.st ht (fun j hj hf => by obtain rfl : j = w.heap.size := hj; have := HGL.out _ ((fpA_own HT2.out _).2 hf); omega), fun j hj => HGL.out j ((fpA_own HT2.out j).2 hj)⟩
      · intro j hj
        rw [List.map_set]
        by_cases hjk : j = k
        · subst hjk
          rw [List.getElem?_set_self (by rw [List.length_map, HL.out]; exact hlt), List.getElem?_map, HR.out]
          rfl
        · rw [List.getElem?_set_ne (Ne.symm hjk)]
          exact HE.out j (by omega)
      · exact (HS.out.then HW2.out).thn2 (ht.wide (fun j hj => by subst hj; exact Nat.le_refl _) (fun j hj => .inl hj))
    · obtain rfl : k = rs.length := by omega
      go_wp2
      go_ret
      refine ⟨_, _, rs', rfl, HO.out, fun r hr => (HB.out r hr).1, ?_, HS.out⟩
      apply List.ext_getElem?
      intro j
      by_cases hj : j < rs.length
      · exact HE.out j hj
      · rw [List.getElem?_eq_none (by rw [List.length_map, HL.out]; omega), List.getElem?_eq_none (by rw [List.length_map]; omega)]
set_option maxRecDepth 100000 in
set_option maxHeartbeats 1000000 in
theorem inside_calls (a : Option Addr) (c : Nat) (ats : List Int) (hna : ats.length ≤ 140737488351232) (n : Nat) (w : World) (h : Is w a ats) :
    Calls Try.prog 23 #[.slice a ats.length c, .int .i64 (n : Int)] w fun e w' => e = .returned (.bool (insideB ats n)) ∧ w = w' := by
  have HIS := Lib.hid h
  clear h
  go_enter Try.func23, Try.ntmps23
  go_wp2
  go_loopw [5] (fun t wr => ∃ k : Nat, k ≤ ats.length ∧ t = .int .i64 k ∧ Hid (insideB (ats.take k) n = true) ∧ wr = w) (fun t _ => ats.length - (intOf t).toNat)
  case atStart => exact ⟨0, by omega, rfl, Lib.hid rfl, rfl⟩
  case round =>
    obtain ⟨k, hk, rfl, HIN, rfl⟩ := hrel
    by_cases hlt : k < ats.length
    · obtain ⟨y, rfl, hc⟩ := HIS.out.at k hlt
      have hsn := insideB_snoc ats n k hlt
      have hfl := insideB_false ats n k hlt
      generalize ats[k] = x at *
      have HSN := Lib.hid hsn
      have HFL := Lib.hid hfl
      clear hsn hfl
      by_cases h0 : x < 0
      · go_wp2
        go_ret
        exact ⟨by rw [HFL.out (by omega)]; rfl, rfl⟩
      · by_cases h1 : x < (n : Int)
        · go_wp2
          exact ⟨⟨k + 1, by omega, by simp, Lib.hid (by rw [HSN.out, HIN.out, decide_eq_true ⟨by omega, h1⟩]; rfl), trivial⟩, by simp [intOf]; omega⟩
        · go_wp2
          go_ret
          exact ⟨by rw [HFL.out (by omega)]; rfl, rfl⟩
    · obtain rfl : k = ats.length := by omega
      have HTT : Hid (ats.take ats.length = ats) := Lib.hid List.take_length
      rw [HTT.out] at HIN
      go_wp2
      go_ret
      exact ⟨by rw [HIN.out]; rfl, rfl⟩
set_option maxRecDepth 100000 in
set_option maxHeartbeats 1000000 in
theorem among_calls (a : Option Addr) (c : Nat) (ats : List Int) (hna : ats.length ≤ 140737488351232) (x : Int) (w : World) (h : Is w a ats) :
    Calls Try.prog 24 #[.slice a ats.length c, .int .i64 x] w fun e w' => e = .returned (.bool (ats.contains x)) ∧ w = w' := by
  have HIS := Lib.hid h
  clear h
  obtain ⟨B, hB⟩ : ∃ B, ats.contains x = B := ⟨_, rfl⟩
  have HBB := Lib.hid hB
  rw [hB]
  clear hB
  go_enter Try.func24, Try.ntmps24
  go_wp2
  go_loopw [5] (fun t wr => ∃ k : Nat, k ≤ ats.length ∧ t = .int .i64 k ∧ Hid (¬ x ∈ ats.take k) ∧ wr = w) (fun t _ => ats.length - (intOf t).toNat)
  case atStart => exact ⟨0, by omega, rfl, Lib.hid (by simp), rfl⟩
  case round =>
    obtain ⟨k, hk, rfl, HIN, rfl⟩ := hrel
    by_cases hlt : k < ats.length
    · obtain ⟨y, rfl, hc⟩ := HIS.out.at k hlt
      by_cases he : ats[k] = x
      · have HM : Hid (B = true) := Lib.hid (by rw [← HBB.out, List.contains_iff_mem, ← he]; exact List.getElem_mem hlt)
        rw [he] at hc
        clear he
        go_wp2
        go_ret
        exact ⟨by rw [HM.out]; rfl, rfl⟩
      · have hb : (ats[k] == x) = false := beq_eq_false_iff_ne.2 he
        have HN2 : Hid (¬ x ∈ ats.take (k + 1)) := Lib.hid (by rw [List.take_succ_eq_append_getElem hlt, List.mem_append, List.mem_singleton]; exact fun h => h.elim HIN.out (fun h => he h.symm))
        generalize ats[k] = z at *
        clear he
        go_wp2
        exact ⟨⟨k + 1, by omega, by simp, HN2, trivial⟩, by simp [intOf]; omega⟩
    · obtain rfl : k = ats.length := by omega
      have HTT : Hid (ats.take ats.length = ats) := Lib.hid List.take_length
      rw [HTT.out] at HIN
      have HM : Hid (B = false) := Lib.hid (by rw [← HBB.out]; cases hc : ats.contains x; rfl; exact absurd (List.contains_iff_mem.1 hc) HIN.out)
      go_wp2
      go_ret
      exact ⟨by rw [HM.out]; rfl, rfl⟩
end Go.Proofs.Ytoeafacamapofaa
