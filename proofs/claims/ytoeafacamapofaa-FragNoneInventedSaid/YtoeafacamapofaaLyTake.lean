
/-
  The walks over the network: take with Drop's test, Drop.
-/
import Derived.Test.YtoeafacamapofaaLySend
import Derived.Deep.Slices
namespace Go.Proofs.Ytoeafacamapofaa
open Go.RowKit
set_option linter.unusedVariables false
set_option linter.unusedSimpArgs false

/-- what of a list stays: by its places -/
def keepI (q : Nat → Bool) : Nat → List DR → List DR
  | _, [] => []
  | i, r :: rs => if q i then keepI q (i + 1) rs else r :: keepI q (i + 1) rs
theorem keepI_snoc (q : Nat → Bool) : ∀ (rs : List DR) (i : Nat) (r : DR), keepI q i (rs ++ [r]) = keepI q i rs ++ (if q (i + rs.length) then [] else [r]) := by
  intro rs
  induction rs with
  | nil => intro i r; simp [keepI]
  | cons x rs ih =>
    intro i r
    simp only [List.cons_append, keepI, List.length_cons]
    rw [ih, show i + 1 + rs.length = i + (rs.length + 1) by omega]
    split
    · rfl
    · simp
theorem keepI_len (q : Nat → Bool) (rs : List DR) (i : Nat) : (keepI q i rs).length ≤ rs.length := by
  induction rs generalizing i with
  | nil => simp [keepI]
  | cons r rs ih => simp only [keepI]; have := ih (i + 1); split <;> simp <;> omega
theorem keepI_mem (q : Nat → Bool) (rs : List DR) (i : Nat) : ∀ r ∈ keepI q i rs, r ∈ rs := by
  induction rs generalizing i with
  | nil => intro r h; simp [keepI] at h
  | cons x rs ih =>
    intro r h
    simp only [keepI] at h
    split at h
    · exact List.mem_cons_of_mem _ (ih _ r h)
    · rcases List.mem_cons.1 h with h | h
      · exact h ▸ List.mem_cons_self
      · exact List.mem_cons_of_mem _ (ih _ r h)
/-- the places that are named, in memory -/
def Named (w : World) (nb g : Nat) (cnt : List Int) : Prop := Ob w nb 22 #[.slice (some ⟨g, 0, none⟩) cnt.length cnt.length] ∧ Ob w g 3 (cnt.map (fun x => Value.int .i64 x)).toArray
theorem Named.st {w w' : World} {nb g : Nat} {cnt : List Int} {F F' : Nat → Prop} (h : Named w nb g cnt) (s : St F w F' w') (h1 : ¬ F nb) (h2 : ¬ F g) : Named w' nb g cnt := ⟨h.1.move (s.block nb h.1.lt h1), h.2.move (s.block g h.2.lt h2)⟩
theorem Named.cell {w : World} {nb g : Nat} {cnt : List Int} (h : Named w nb g cnt) (i : Nat) (hi : i < cnt.length) : w.cell? ⟨g, i, none⟩ = some (.int .i64 cnt[i]) := by
  rw [h.2.cell i]; simp [hi]
set_option maxRecDepth 100000 in
theorem drop1_calls (i : Nat) (s d : Int) (a : Option Addr) (n c : Nat) (w : World) (nb g : Nat) (cnt : List Int) (h : Named w nb g cnt) (hi : i < cnt.length) :
    Calls Try.prog 65 #[.int .i64 (i : Int), .agg #[.int .u8 s, .int .u8 d, .slice a n c], .pointer (some ⟨nb, 0, none⟩)] w fun e w' => e = .returned (.bool (decide (0 < cnt[i]))) ∧ St No w No w' := by
  have n1 : nb < w.heap.size := h.1.lt
  have n2 : g < w.heap.size := h.2.lt
  have q1 : nb ≠ w.heap.size := by omega
  have q2 : g ≠ w.heap.size := by omega
  have c0 : w.cell? ⟨nb, 0, none⟩ = some (.slice (some ⟨g, 0, none⟩) cnt.length cnt.length) := by rw [h.1.cell 0]; rfl
  have c1 := h.cell i hi
  generalize cnt[i] = x at *
  have hii : (i : Int) < (cnt.length : Int) := by omega
  clear h
  go_enter Try.func65, Try.ntmps65
  go_wp2
  go_ret
  exact ⟨rfl, St.alloc' No w _⟩
theorem rows_elem {α : Type} {f : α → List Value} {s : Nat} (hf : ∀ r, (f r).length = s) {w : World} {e : TypeId} {y : Addr} {n c : Nat} {rs : List α} (h : Own w e s (.slice (some y) n c) n (rs.flatMap f)) (i : Nat) (r : α) (hr : rs[i]? = some r) (j : Nat) (v : Value) (hj : j < s) (hv : (f r)[j]? = some v) : w.cell? ((y.add (i * s)).add j) = some v := by
  have h1 := flat_get f s hf rs i j r hr hj
  rw [hv] at h1
  have := h.rd.at_some _ _ h1
  rw [Go.Deep.add_add]
  exact this
theorem rows_some {α : Type} {f : α → List Value} {s : Nat} (hf : ∀ r, (f r).length = s) (hs : 0 < s) {w : World} {e : TypeId} {a : Option Addr} {n c : Nat} {rs : List α} (h : Own w e s (.slice a n c) n (rs.flatMap f)) (i : Nat) (hi : i < rs.length) : ∃ y, a = some y := by
  have h1 := flat_get f s hf rs i 0 _ (List.getElem?_eq_getElem hi) hs
  have h2 : 0 < (f rs[i]).length := by rw [hf]; exact hs
  rw [List.getElem?_eq_getElem h2] at h1
  obtain ⟨y, hy, _⟩ := h.rd _ _ h1
  exact ⟨y, hy⟩
def TakeNPost (w : World) (F : Nat → Prop) (p : Nat) (rs rs' : List DR) (e : Ending) (w' : World) : Prop :=
  e = .returned (.int .i64 ((rs.length : Int) - (rs'.length : Int))) ∧ ∃ F', Nt w' F' p rs' ∧ St F w F' w'
set_option maxRecDepth 100000 in
set_option maxHeartbeats 2000000 in
theorem takeN_calls (w : World) (F : Nat → Prop) (p : Nat) (rs : List DR) (h : Nt w F p rs) (nb g : Nat) (cnt : List Int) (hn : Named w nb g cnt) (hl : cnt.length = rs.length) :
    Calls Try.prog 64 #[.pointer (some ⟨p, 0, none⟩), .func (.func 65) #[] #[.pointer (some ⟨nb, 0, none⟩)]] w (TakeNPost w F p rs (keepI (fun i => decide (0 < cnt.getD i 0)) 0 rs)) := by
  have HN := Lib.hid h
  have HNM := Lib.hid hn
  obtain ⟨b, V, D, k0, k1, k2, k3, k4, k5, k6, ho, hm, hd, n1, n2, n3, n4, n5, n6, hF⟩ := h
  obtain ⟨va, vc, rfl, hv1, hv2, hv3, hv4⟩ := hd.1.form
  have HOB := Lib.hid ho
  have HM := Lib.hid hm
  have HD := Lib.hid hd
  have hpl := ho.lt
  have HX := Lib.hid (And.intro n1 (And.intro n2 (And.intro n3 (And.intro n4 (And.intro n5 hF)))))
  have d1 : w.cell? ⟨p, 1, none⟩ = some (.slice va rs.length vc) := by rw [ho.cell 1]; rfl
  have HQ := Lib.hid hl
  obtain ⟨i, hi, hz, hsz, hby⟩ := info_parts dgInfo
  have HI := Lib.hid hi
  have HZ := Lib.hid hz
  have HSZ := Lib.hid hsz
  have HBY := Lib.hid hby
  clear ho hm hd hv1 hv2 hv3 hv4 hF n1 n2 n3 n4 n5 hn hl hi hz hsz hby
  obtain ⟨q, hq⟩ : ∃ q : Nat → Bool, q = (fun i => decide (0 < cnt.getD i 0)) := ⟨_, rfl⟩
  have HQQ := Lib.hid hq
  rw [← hq]
  clear hq
  go_enter Try.func64, Try.ntmps64
  go_wp2_with (at_make; refine wpList_make0 rfl 34 (.const (.int .i64 0)) (.tmp 13) rfl 38 i _ 3 32 Try.underlying34 HI.out HZ.out HSZ.out HBY.out .i64 .i64 0 (rs.length : Int) rs.length rfl rfl rfl rfl (by omega) (by unfold maxLen; omega) ?_; intro w1 ho1 hs1; have hd1 : w1.cell? ⟨p, 1, none⟩ = some (.slice va rs.length vc) := by { rw [(HOB.out.move (hs1.block p hpl (fun h => h))).cell 1]; rfl }; have HO1 := Lib.hid ho1; have HS1 := Lib.hid hs1; clear ho1 hs1)
  go_loopw [5, 20] (fun x t wr => ∃ (k : Nat) (V' : Value), k ≤ rs.length ∧ t = .int .i64 k ∧ x = V' ∧ Hid (Own wr 38 3 V' (keepI q 0 (rs.take k)).length ((keepI q 0 (rs.take k)).flatMap DR.cells)) ∧ Hid (∀ j, fpV V' j → w.heap.size ≤ j) ∧ Hid (St No w (Nw w) wr)) (fun _ t _ => rs.length - (intOf t).toNat)
  case atStart =>
    refine ⟨0, _, by omega, rfl, rfl, HO1, Lib.hid (fun j hj => (HS1.out.new j hj).elim (fun h => h.elim) id), Lib.hid HS1.out.toNew⟩
  case round =>
    clear HO1 HS1 hd1 d1
    obtain ⟨k, V', hk, rfl, rfl, HO, HV, HS⟩ := hrel
    have hob := HOB.out.move (HS.out.block p hpl (fun h => h))
    by_cases hlt : k < rs.length
    · obtain ⟨r, hr⟩ : ∃ r, rs[k]? = some r := ⟨_, List.getElem?_eq_getElem hlt⟩
      have hsn : keepI q 0 (rs.take (k + 1)) = keepI q 0 (rs.take k) ++ (if q k then [] else [r]) := by
        rw [List.take_add_one, hr]
        show keepI q 0 (rs.take k ++ [r]) = _
        rw [keepI_snoc]
        simp
        rw [Nat.min_eq_left (by omega)]
      have HSN := Lib.hid hsn
      have hkl := keepI_len q (rs.take k) 0
      rw [List.length_take] at hkl
      have hown := HD.out.1.st HS.out (Dj.no _)
      obtain ⟨y, rfl⟩ := rows_some DR.cells_len (by decide) hown k hlt
      have hel := fun j v => rows_elem DR.cells_len hown k r hr j v
      have hnm := HNM.out.st HS.out (fun h => h) (fun h => h)
      have HD1 := Lib.hid (fun (W : World) (st : St No wr No W) s d a n c => drop1_calls k s d a n c W nb g cnt (hnm.st st (fun h => h) (fun h => h)) (by rw [HQ.out]; exact hlt))
      have hqk : decide (0 < cnt[k]'(by rw [HQ.out]; exact hlt)) = q k := by rw [HQQ.out]; simp [HQ.out, hlt]
      have HQK := Lib.hid hqk
      clear hr hsn hown hnm hqk hob
      obtain ⟨s, d, ra, rc, rb⟩ := r
      have c0 : wr.cell? (y.add (k * 3)) = some (.int .u8 s) := hel 0 _ (by decide) rfl
      have c1 : wr.cell? ⟨(y.add (k * 3)).block, (y.add (k * 3)).off + 1, none⟩ = some (.int .u8 d) := hel 1 _ (by decide) rfl
      have c2 : wr.cell? ⟨(y.add (k * 3)).block, (y.add (k * 3)).off + 2, none⟩ = some (.slice ra rb.length rc) := hel 2 _ (by decide) rfl
      clear hel
      go_wp2_with fail
      refine (HD1.out _ (St.alloc' No wr _) s d ra rb.length rc).mono ?_
      rintro e w2 ⟨rfl, hs2⟩
      rw [HQK.out]
      have hT : Ob w2 wr.heap.size 38 #[.int .u8 s, .int .u8 d, .slice ra rb.length rc] := (hs2.block _ (by simp) (fun h => h)).trans (heap_alloc_new wr _)
      obtain ⟨t0, t1, t2, _, _, _⟩ := hT.three
      have hw2 := (St.alloc' No wr (.cells #[.int .u8 s, .int .u8 d, .slice ra rb.length rc] 38)).trans hs2
      have HW2 := Lib.hid hw2
      clear hs2 hT hw2
      cases hqk : q k with
      | true =>
        have HE : Hid (keepI q 0 (rs.take (k + 1)) = keepI q 0 (rs.take k)) := Lib.hid (by rw [HSN.out, hqk]; simp)
        clear hqk
        go_wp2
        refine ⟨⟨k + 1, _, by omega, by simp, rfl, Lib.hid ?_, HV, Lib.hid (HS.out.then HW2.out)⟩, by simp [intOf]; omega⟩
        rw [HE.out]
        exact HO.out.st HW2.out (Dj.no _)
      | false =>
        have HE : Hid (keepI q 0 (rs.take (k + 1)) = keepI q 0 (rs.take k) ++ [⟨s, d, ra, rc, rb⟩]) := Lib.hid (by rw [HSN.out, hqk]; simp)
        clear hqk
        go_wp2_with (at_builtin; refine wpList_app rfl (.tmp 30) (.tmp 32) 34 rfl 38 i _ 3 32 Try.underlying34 HI.out HZ.out HSZ.out HBY.out rfl (by decide) _ _ _ rfl ((HO.out.st HW2.out (Dj.no _)).st (St.alloc' No w2 _) (Dj.no _)) (some ⟨w2.heap.size, 0, none⟩) 1 1 (DR.cells ⟨s, d, ra, rc, rb⟩) rfl (dgOne w2 ⟨s, d, ra, rc, rb⟩) (fun h => by cases h) (by unfold maxLen; omega) (by omega) ?_; intro v4 w4 ho4 hs4 hn4; have HO4 := Lib.hid ho4; have HS4 := Lib.hid hs4; clear ho4 hs4 hn4)
        refine ⟨⟨k + 1, v4, by omega, by simp, rfl, Lib.hid ?_, Lib.hid ?_, Lib.hid ?_⟩, by simp [intOf]; omega⟩
        · rw [HE.out, List.length_append, List.flatMap_append]
          simpa using HO4.out
        · intro j hj
          rcases HS4.out.new j hj with h | h
          · exact HV.out j h
          · have := HW2.out.size; have := HS.out.size; simp at h; omega
        · have h0 := (HS.out.then HW2.out).then (St.alloc' No w2 (.cells #[.int .u8 s, .int .u8 d, .slice ra rb.length rc] 38))
          exact ⟨HS4.out.os.trans h0.os, HS4.out.tape.trans h0.tape, HS4.out.output.trans h0.output, Nat.le_trans h0.size HS4.out.size, fun j hj hn => (HS4.out.block j (Nat.lt_of_lt_of_le hj h0.size) (fun hf => absurd (HV.out j hf) (Nat.not_le.2 hj))).trans (h0.block j hj hn), fun j hj => .inr hj⟩
    · obtain rfl : k = rs.length := by omega
      have e1 : wr.cell? ⟨p, 1, none⟩ = some (.slice va rs.length vc) := by rw [hob.cell 1]; rfl
      have e7 : wr.cell? ⟨p, 7, none⟩ = some (.int .i64 k4) := by rw [hob.cell 7]; rfl
      have g1 := hob.free 1
      have g7 := hob.free 7
      have HTK : Hid (rs.take rs.length = rs) := Lib.hid List.take_length
      rw [HTK.out] at HO
      obtain ⟨L, hL⟩ : ∃ L, keepI q 0 rs = L := ⟨_, rfl⟩
      rw [hL] at HO
      have hLl : L.length ≤ rs.length := by rw [← hL]; exact keepI_len q rs 0
      have HLL := Lib.hid hL
      have HMEM : Hid (∀ r ∈ L, r ∈ rs) := Lib.hid (by rw [← hL]; exact keepI_mem q rs 0)
      obtain ⟨na, nc, rfl, _, _, _, _⟩ := HO.out.form
      have HOB2 := Lib.hid hob
      clear hob hL
      go_wp2
      go_ret
      refine ⟨by rw [HLL.out]; rfl, ?_⟩
      rw [HLL.out]
      obtain ⟨n1, n2, n3, n4, n5, hF⟩ := HX.out
      have hin := HN.out.in
      have bl : b < w.heap.size := hin b ((hF b).2 (.inr (.inl rfl)))
      have st := fun u v => (St.setCell (F := fpP' p) wr ⟨p, 1, none⟩ u rfl).trans (St.setCell _ ⟨p, 7, none⟩ v rfl)
      refine ⟨fun k => k = p ∨ k = b ∨ fpV (.slice na L.length nc) k ∨ D k, ⟨b, .slice na L.length nc, D, k0, k1, k2, k3, _, k5, k6, (HOB2.out.set 1 _).set 7 _, ?_, ⟨HO.out.st (st _ _) ?_, (HD.out.2.1.st HS.out).st (st _ _), ?_, ?_⟩, ?_, n2, n3, ?_, n5, by omega, fun k => Iff.rfl⟩, ?_⟩
      · rw [Below.heap_setCell _ _ _ b (fun h => n3 h.symm), Below.heap_setCell _ _ _ b (fun h => n3 h.symm), HS.out.block b bl (fun h => h)]; exact HM.out
      · intro k hk hf
        obtain rfl : k = p := hk
        have := HV.out _ hf; omega
      · intro k hk hd
        have := HV.out _ hk; have := HD.out.2.1 k hd; omega
      · intro r hr
        obtain ⟨x1, x2, x3⟩ := HD.out.2.2.2 r (HMEM.out r hr)
        exact ⟨(x1.st HS.out (Dj.no _)).st (st _ _) (fun k hk hf => by obtain rfl : k = p := hk; exact n2 (x2 _ hf)), x2, x3⟩
      · intro h; have := HV.out _ h; omega
      · intro h; have := HV.out _ h; omega
      · have hs := HS.out
        have ht := st (.slice na L.length nc) (.int .i64 (wrap64 (k4 + ((rs.length : Int) - (L.length : Int)))))
        refine ⟨ht.os.trans hs.os, ht.tape.trans hs.tape, ht.output.trans hs.output, Nat.le_trans hs.size ht.size, fun k hk hn => ?_, fun k hk => ?_⟩
        · rw [ht.block k (Nat.lt_of_lt_of_le hk hs.size) (fun h => hn ((hF k).2 (.inl h)))]
          exact hs.block k hk (fun h => h)
        · rcases hk with rfl | rfl | hk | hk
          · exact .inl ((hF _).2 (.inl rfl))
          · exact .inl ((hF _).2 (.inr (.inl rfl)))
          · exact .inr (HV.out k hk)
          · exact .inl ((hF k).2 (.inr (.inr (.inr hk))))
end Go.Proofs.Ytoeafacamapofaa
