
/-
  The walks over the network: enter, Send.
-/
import Derived.Test.YtoeafacamapofaaLyNet
namespace Go.Proofs.Ytoeafacamapofaa
open Go.RowKit
set_option linter.unusedVariables false
set_option linter.unusedSimpArgs false

theorem Dgs.snoc {w w' : World} {V : Value} {D D' : Nat → Prop} {rs : List DR} {r : DR} (h : ∀ r ∈ rs, Bs w r.a r.data ∧ (∀ k, fpA r.a k → D k) ∧ (r.a = none → r.c = 0) ∧ r.data.length ≤ 1024) (ho : Own w' 38 3 V (rs.length + 1) (rs.flatMap DR.cells ++ r.cells))
    (hin : In D' w') (hdj : ∀ k, fpV V k → ¬ D' k) (hD : ∀ k, D k → D' k) (hmv : ∀ k, D k → w'.heap[k]? = w.heap[k]?) (hb : Bs w' r.a r.data) (hr : ∀ k, fpA r.a k → D' k) (hn : r.a = none → r.c = 0) (hl : r.data.length ≤ 1024) : Dgs w' V D' (rs ++ [r]) := by
  refine ⟨?_, hin, hdj, fun q hq => ?_⟩
  · rw [List.length_append, List.length_singleton, List.flatMap_append]
    simpa using ho
  · rcases List.mem_append.1 hq with hq | hq
    · obtain ⟨a, b, c⟩ := h q hq
      exact ⟨a.move (fun k hk => hmv k (b k hk)), fun k hk => hD k (b k hk), c⟩
    · rw [List.mem_singleton.1 hq]
      exact ⟨hb, hr, hn, hl⟩
theorem dgOne (W : World) (r : DR) : Src (W.alloc (.cells #[.int .u8 r.src, .int .u8 r.dst, .slice r.a r.data.length r.c] 38)) (some ⟨W.heap.size, 0, none⟩) 1 3 r.cells :=
  ⟨rfl, rd_row (heap_alloc_new W _), fun u hu => by simp [DR.cells] at hu; rcases hu with rfl | rfl | rfl <;> rfl⟩
def fpP' (p : Nat) : Nat → Prop := fun k => k = p
theorem fpA_own {w : World} {a : Option Addr} {n c : Nat} {bs : List B8} (h : OwB w (.slice a n c) bs) (k : Nat) : fpV (.slice a n c) k ↔ fpA a k := by
  obtain ⟨a', c', e, _, _, hf, _⟩ := h.form
  injection e with e1 e2 e3
  rw [hf k, e1]
def EnterPost (w : World) (F : Nat → Prop) (p : Nat) (rs : List DR) (bs : List B8) (e : Ending) (w' : World) : Prop :=
  e = .returned (.int .i64 0) ∧ ∃ F' r, Nt w' F' p (rs ++ [r]) ∧ r.data = bs ∧ St F w F' w'
theorem enter_end {w w3 w4 : World} {F D : Nat → Prop} {p b : Nat} {rs : List DR} {V : Value} {va' : Option Addr} {vc' : Nat} {k0 k1 k2 k3 k4 k5 k6 : Int} {x y : Int} {tb : Option Addr} {tk : Nat} {bs : List B8} {o : Obj} (hin : In F w)
    (hm : w.heap[b]? = some (.map #[] 0)) (hl : Dgs w V D rs) (n1 : ¬ fpV V p) (n2 : ¬ D p) (n3 : p ≠ b) (n4 : ¬ fpV V b) (n5 : ¬ D b) (hr : rs.length < 4096) (hF : ∀ k, F k ↔ k = p ∨ k = b ∨ fpV V k ∨ D k) (h2 : bs.length ≤ 1024)
    (hw3 : St No w (fpV (.slice tb bs.length tk)) w3) (ho3 : OwB w3 (.slice tb bs.length tk) bs) (hs4 : St (fpV V) (w3.alloc o) (fpV (.slice va' (rs.length + 1) vc')) w4)
    (ho4 : Own w4 38 3 (.slice va' (rs.length + 1) vc') (rs.length + 1) (rs.flatMap DR.cells ++ DR.cells ⟨x, y, tb, tk, bs⟩))
    (hob : Ob w4 p 118 #[.int .i64 4096, V, .map (some b), .int .i64 k0, .int .i64 k1, .int .i64 k2, .int .i64 k3, .int .i64 k4, .int .i64 k5, .int .i64 k6]) :
    EnterPost w F p rs bs (.returned (.int .i64 0)) (w4.setCell ⟨p, 1, none⟩ (.slice va' (rs.length + 1) vc')) := by
  have pl : p < w.heap.size := hin p ((hF p).2 (.inl rfl))
  have bl : b < w.heap.size := hin b ((hF b).2 (.inr (.inl rfl)))
  have dl : ∀ k, D k → k < w.heap.size := hl.2.1
  have vl : ∀ k, fpV V k → k < w.heap.size := hl.1.in
  have tl : ∀ k, fpV (.slice tb bs.length tk) k → w.heap.size ≤ k ∧ k < w3.heap.size := fun k hk => ⟨(hw3.new k hk).elim (fun h => h.elim) id, ho3.in k hk⟩
  have s3 := hw3.size
  have hvn : ∀ k, fpV (.slice va' (rs.length + 1) vc') k → fpV V k ∨ w3.heap.size < k := fun k hk => (hs4.new k hk).imp id (fun h => by rw [World.size_alloc] at h; omega)
  have s4 := hs4.size
  rw [World.size_alloc] at s4
  have blk : ∀ k, k < w3.heap.size → ¬ fpV V k → w4.heap[k]? = w3.heap[k]? := fun k hk hn => (hs4.block k (by rw [World.size_alloc]; omega) hn).trans (Below.heap_alloc w3 o k hk)
  have blk0 : ∀ k, k < w.heap.size → ¬ fpV V k → w4.heap[k]? = w.heap[k]? := fun k hk hn => (blk k (by omega) hn).trans (hw3.block k hk (fun h => h))
  have stp : St (fpP' p) w4 (fpP' p) (w4.setCell ⟨p, 1, none⟩ (.slice va' (rs.length + 1) vc')) := St.setCell _ _ _ rfl
  have hpv' : ¬ fpV (.slice va' (rs.length + 1) vc') p := fun h => (hvn p h).elim n1 (fun h => by omega)
  have hbv' : ¬ fpV (.slice va' (rs.length + 1) vc') b := fun h => (hvn b h).elim n4 (fun h => by omega)
  refine ⟨rfl, fun k => k = p ∨ k = b ∨ fpV (.slice va' (rs.length + 1) vc') k ∨ (D k ∨ fpV (.slice tb bs.length tk) k), ⟨x, y, tb, tk, bs⟩, ⟨b, .slice va' (rs.length + 1) vc', fun k => D k ∨ fpV (.slice tb bs.length tk) k, k0, k1, k2, k3, k4, k5, k6, hob.set 1 _, ?_, ?_, hpv', ?_, n3, hbv', ?_, by simp; omega, fun k => Iff.rfl⟩, rfl, ?_⟩
  · rw [Below.heap_setCell _ _ _ b (fun h => n3 h.symm), blk0 b bl n4]; exact hm
  · refine Dgs.snoc (w := w) (D := D) (r := ⟨x, y, tb, tk, bs⟩) hl.2.2.2 (ho4.st stp (fun k hk hf => by obtain rfl : k = p := hk; exact hpv' hf)) ?_ ?_ (fun k hk => .inl hk) ?_ ?_ ?_ ?_ h2
    · rintro k (hk | hk)
      · have := dl k hk; have := stp.size; omega
      · have := (tl k hk).2; have := stp.size; omega
    · rintro k hk (hd | hd)
      · rcases hvn k hk with h | h
        · exact hl.2.2.1 k h hd
        · have := dl k hd; omega
      · rcases hvn k hk with h | h
        · have := vl k h; have := (tl k hd).1; omega
        · have := (tl k hd).2; omega
    · intro k hk
      rw [Below.heap_setCell _ _ _ k (fun h => n2 (by have e : k = p := h; rw [← e]; exact hk)), blk0 k (dl k hk) (fun h => hl.2.2.1 k h hk)]
    · refine (ho3.bs.move (w' := w4) (fun k hk => blk k ?_ ?_)).st stp (fun k hk hf => ?_)
      · have := (tl k ((fpA_own ho3 k).2 hk)).2; exact this
      · intro h; have := vl k h; have := (tl k ((fpA_own ho3 k).2 hk)).1; omega
      · obtain rfl : k = p := hk; have := (tl k ((fpA_own ho3 k).2 hf)).1; omega
    · exact fun k hk => .inr ((fpA_own ho3 k).2 hk)
    · intro h
      have h' : tb = none := h
      obtain ⟨_, _, e, _, _, _, hn⟩ := ho3.form
      injection e with e1 e2 e3
      exact e3 ▸ (hn (e1 ▸ h')).2
  · rintro (h | h)
    · exact n2 h
    · have := (tl p h).1; omega
  · rintro (h | h)
    · exact n5 h
    · have := (tl b h).1; omega
  · have s5 := stp.size
    refine ⟨stp.os.trans (hs4.os.trans hw3.os), stp.tape.trans (hs4.tape.trans hw3.tape), stp.output.trans (hs4.output.trans hw3.output), by omega, fun k hk hn => ?_, fun k hk => ?_⟩
    · rw [stp.block k (by omega) (fun h => hn ((hF k).2 (.inl h))), blk0 k hk (fun h => hn ((hF k).2 (.inr (.inr (.inl h)))))]
    · rcases hk with rfl | rfl | hk | hk | hk
      · exact .inl ((hF _).2 (.inl rfl))
      · exact .inl ((hF _).2 (.inr (.inl rfl)))
      · exact (hvn k hk).imp (fun h => (hF k).2 (.inr (.inr (.inl h)))) (fun h => by omega)
      · exact .inl ((hF k).2 (.inr (.inr (.inr hk))))
      · exact .inr (tl k hk).1
set_option maxRecDepth 100000 in
set_option maxHeartbeats 1000000 in
theorem enter_calls (x y : Int) (a : Option Addr) (c : Nat) (bs : List B8) (h1 : 1 ≤ bs.length) (h2 : bs.length ≤ 1024) (hac : a = none → c = 0) (w : World) (F : Nat → Prop) (p : Nat) (rs : List DR) (hr : rs.length < 4096) (h : Nt w F p rs) (hb : Bs w a bs) :
    Calls Try.prog 62 #[.pointer (some ⟨p, 0, none⟩), .int .u8 x, .int .u8 y, .slice a bs.length c] w (EnterPost w F p rs bs) := by
  have HN := Lib.hid h
  have HBL := Lib.hid (fun x y => blocked_calls x y w F p rs h)
  obtain ⟨b, V, D, k0, k1, k2, k3, k4, k5, k6, ho, hm, hl, n1, n2, n3, n4, n5, n6, hF⟩ := h
  obtain ⟨va, vc, rfl, hv1, hv2, hv3, hv4⟩ := hl.1.form
  have HOB := Lib.hid ho
  have HM := Lib.hid hm
  have HL := Lib.hid hl
  have HB := Lib.hid hb
  have HAC := Lib.hid hac
  have hpl := ho.lt
  have HFF := Lib.hid hF
  have HN1 := Lib.hid n1
  have HN2 := Lib.hid n2
  have HN3 := Lib.hid n3
  have HN4 := Lib.hid n4
  have HN5 := Lib.hid n5
  clear ho hm hl hb hac hv1 hv2 hv3 hv4 hF n1 n2 n3 n4 n5 n6
  go_enter Try.func62, Try.ntmps62
  go_wp2_with fail
  refine (HBL.out _ _).mono ?_
  rintro e w1 ⟨rfl, hs1⟩
  have ho1 := HOB.out.move (hs1.block p hpl (fun h => h))
  have d0 : w1.cell? ⟨p, 0, none⟩ = some (.int .i64 4096) := by rw [ho1.cell 0]; rfl
  have d1 : w1.cell? ⟨p, 1, none⟩ = some (.slice va rs.length vc) := by rw [ho1.cell 1]; rfl
  have f1 := ho1.free 1
  have hrl : (rs.length : Int) < 4096 := by omega
  have HO1 := Lib.hid ho1
  have HS1 := Lib.hid hs1
  clear ho1 hs1
  go_wp2
  go_quiet (fail)
  go_wp2
  have HTW : Hid (∀ W, St No w1 No W → Calls Try.prog 66 #[.agg #[.int .u8 x, .int .u8 y, .slice a bs.length c]] W fun e w' => ∃ b k, e = .returned (.agg #[.int .u8 x, .int .u8 y, .slice b bs.length k]) ∧ OwB w' (.slice b bs.length k) bs ∧ St No W (fpV (.slice b bs.length k)) w') := Lib.hid (fun W st =>
    twin_calls x y a c bs (by omega) HAC.out W ((HB.out.st HS1.out (Dj.no _)).st st (Dj.no _)))
  obtain ⟨i, hi, hz, hsz, hby⟩ := info_parts dgInfo
  have HI := Lib.hid hi
  have HZ := Lib.hid hz
  have HSZ := Lib.hid hsz
  have HBY := Lib.hid hby
  clear hi hz hsz hby
  go_region_law (first
    | (refine step_app rfl (.tmp 53) (.tmp 59) 34 rfl 38 i _ 3 32 Try.underlying34 HI.out HZ.out HSZ.out HBY.out rfl (by decide) _ rs.length (rs.flatMap DR.cells) rfl (HOW.out _) (some ⟨w3.heap.size, 0, none⟩) 1 1 (DR.cells ⟨x, y, tb, tk, bs⟩) rfl (dgOne w3 ⟨x, y, tb, tk, bs⟩) (fun h => by cases h) (by unfold maxLen; omega) (by omega) ?_
       intro v' w4 ho4 hs4 hn4
       have hpl3 := HOB3.out.lt
       have hob4 := (HOB3.out.move (Below.heap_alloc w3 (.cells #[.int .u8 x, .int .u8 y, .slice tb bs.length tk] 38) p hpl3)).move (hs4.block p (Nat.lt_of_lt_of_le hpl3 (by simp)) HN1.out)
       have e1' : w4.cell? ⟨p, 1, none⟩ = some (.slice va rs.length vc) := by rw [hob4.cell 1]; rfl
       have g1' := hob4.free 1
       obtain ⟨va', vc', rfl, _, _, _, _⟩ := ho4.form
       have HO4 := Lib.hid ho4
       have HS4 := Lib.hid hs4
       have HOB4 := Lib.hid hob4
       clear ho4 hs4 hn4 hob4)
    | (go_simp
       go_at_call 66
       refine (HTW.out _ (by first | exact (St.drewN No _ _).trans (St.drew No _) | exact St.drew No _ | exact St.drewN No _ _)).mono ?_
       rintro e w3 ⟨tb, tk, rfl, ho3, hs3⟩
       have hw3 := HS1.out.trans (((St.drewN No w1 _).trans (St.drew No _)).trans hs3)
       have HOW : Hid (∀ o, Own (w3.alloc o) 38 3 (.slice va rs.length vc) rs.length (rs.flatMap DR.cells)) := Lib.hid (fun o => (HL.out.1.st hw3 (Dj.no _)).st (St.alloc' No w3 o) (Dj.no _))
       have hob3 := HOB.out.move (hw3.block p hpl (fun h => h))
       have e1 : w3.cell? ⟨p, 1, none⟩ = some (.slice va rs.length vc) := by rw [hob3.cell 1]; rfl
       have g1 := hob3.free 1
       have hl3 := hob3.lt
       have q3 : p ≠ w3.heap.size := by omega
       have q4 : w3.heap.size ≠ p := by omega
       have HO3 := Lib.hid ho3
       have HW3 := Lib.hid hw3
       have HOB3 := Lib.hid hob3
       clear ho3 hs3 hw3 hob3))
  all_goals go_wp2
  all_goals go_ret
  all_goals exact enter_end HN.out.in HM.out HL.out HN1.out HN2.out HN3.out HN4.out HN5.out hr HFF.out h2 HW3.out HO3.out HS4.out HO4.out HOB4.out
/-- Send, of a datagram that may be sent -/
theorem send_calls (y : Int) (a : Option Addr) (c : Nat) (bs : List B8) (h1 : 1 ≤ bs.length) (h2 : bs.length ≤ 1024) (hac : a = none → c = 0) (w : World) (F : Nat → Prop) (p : Nat) (rs : List DR) (hr : rs.length < 4096) (h : Nt w F p rs) (hb : Bs w a bs) :
    Calls Try.prog 19 #[.pointer (some ⟨p, 0, none⟩), .int .u8 1, .int .u8 y, .slice a bs.length c] w (EnterPost w F p rs bs) := by
  have HE := Lib.hid (enter_calls 1 y a c bs h1 h2 hac w F p rs hr h hb)
  clear h hb hac h1 h2 hr
  go_enter Try.func19, Try.ntmps19
  go_wp2_with fail
  refine HE.out.mono ?_
  rintro e w1 ⟨rfl, F', r, hn, hd, hs⟩
  have HN := Lib.hid hn
  obtain ⟨b, V, D, k0, k1, k2, k3, k4, k5, k6, ho, hm, hl, n1, n2, n3, n4, n5, n6, hF⟩ := hn
  have c3 : w1.cell? ⟨p, 3, none⟩ = some (.int .i64 k0) := by rw [ho.cell 3]; rfl
  have f3 := ho.free 3
  have HS := Lib.hid hs
  have HD := Lib.hid hd
  have HO := Lib.hid ho
  have HM := Lib.hid hm
  have HL := Lib.hid hl
  have HX := Lib.hid (And.intro n1 (And.intro n2 (And.intro n3 (And.intro n4 (And.intro n5 (And.intro n6 hF))))))
  clear ho hm hl n1 n2 n3 n4 n5 n6 hF hs hd
  go_wp2
  go_ret
  obtain ⟨n1, n2, n3, n4, n5, n6, hF⟩ := HX.out
  have st := fun u => St.setCell (F := fpP' p) w1 ⟨p, 3, none⟩ u rfl
  refine ⟨rfl, F', r, ⟨b, V, D, _, k1, k2, k3, k4, k5, k6, HO.out.set 3 _, ?_, HL.out.st (st _) (fun k hk hf => by obtain rfl : k = p := hk; exact n1 hf) (fun k hk hf => by obtain rfl : k = p := hk; exact n2 hf), n1, n2, n3, n4, n5, n6, hF⟩, HD.out, ?_⟩
  · rw [Below.heap_setCell _ _ _ b (fun h => n3 h.symm)]; exact HM.out
  · exact HS.out.trans ((st _).wide (fun k hk => by obtain rfl : k = p := hk; exact (hF _).2 (.inl rfl)) (fun k hk => .inl hk))
end Go.Proofs.Ytoeafacamapofaa
