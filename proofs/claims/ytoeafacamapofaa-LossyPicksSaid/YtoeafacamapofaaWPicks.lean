
/-
  The walk over the statement LossyPicks.
-/
import Derived.Test.YtoeafacamapofaaLyList
import Derived.Test.YtoeafacamapofaaLySame
namespace Go.Proofs.Ytoeafacamapofaa
open Go.RowKit
set_option linter.unusedVariables false
set_option linter.unusedSimpArgs false

theorem keepI_map {q : Nat → Bool} : ∀ (rs rs' : List DR) (i : Nat), rs.map DR.data = rs'.map DR.data → (keepI q i rs).map DR.data = (keepI q i rs').map DR.data := by
  intro rs
  induction rs with
  | nil => intro rs' i h; cases rs' with
    | nil => rfl
    | cons r rs' => simp at h
  | cons r rs ih =>
    intro rs' i h
    cases rs' with
    | nil => simp at h
    | cons r' rs' =>
      simp only [List.map_cons, List.cons.injEq] at h
      simp only [keepI]
      split
      · exact ih rs' (i + 1) h.2
      · simp only [List.map_cons, h.1, ih rs' (i + 1) h.2]
theorem keepI_none {q : Nat → Bool} (rs : List DR) (i : Nat) (h : ∀ j, i ≤ j → j < i + rs.length → q j = false) : keepI q i rs = rs := by
  induction rs generalizing i with
  | nil => rfl
  | cons r rs ih =>
    simp only [List.length_cons] at h
    simp only [keepI]
    rw [h i (Nat.le_refl _) (by omega), ih (i + 1) (fun j h1 h2 => h j (by omega) (by omega))]
    rfl
theorem keepI_append (q : Nat → Bool) (xs ys : List DR) (i : Nat) : keepI q i (xs ++ ys) = keepI q i xs ++ keepI q (i + xs.length) ys := by
  induction xs generalizing i with
  | nil => simp [keepI]
  | cons r xs ih =>
    simp only [List.cons_append, keepI, List.length_cons]
    rw [ih, show i + 1 + xs.length = i + (xs.length + 1) by omega]
    split <;> rfl
/-- one place dropped out of what is left -/
theorem keepI_one (xs : List DR) (r : DR) (ys : List DR) : keepI (fun i => [(xs.length : Int)].contains (i : Int)) 0 (xs ++ r :: ys) = xs ++ ys := by
  rw [keepI_append, keepI_none xs 0 (fun j _ hj => by simp; omega)]
  congr 1
  simp only [keepI, Nat.zero_add]
  rw [if_pos (by simp), keepI_none ys _ (fun j h1 _ => by simp; omega)]
/-- what is left when the places from t on have been gone through -/
def leftT (q : Nat → Bool) (rs : List DR) (t : Nat) : List DR := rs.take t ++ keepI q t (rs.drop t)
theorem leftT_step (q : Nat → Bool) (rs : List DR) (t : Nat) (h : t < rs.length) : leftT q rs (t + 1) = rs.take t ++ rs[t] :: keepI q (t + 1) (rs.drop (t + 1)) ∧ leftT q rs t = if q t then rs.take t ++ keepI q (t + 1) (rs.drop (t + 1)) else leftT q rs (t + 1) := by
  have h1 : leftT q rs (t + 1) = rs.take t ++ rs[t] :: keepI q (t + 1) (rs.drop (t + 1)) := by
    unfold leftT
    rw [List.take_succ_eq_append_getElem h, List.append_assoc]
    rfl
  refine ⟨h1, ?_⟩
  rw [h1]
  unfold leftT
  rw [List.drop_eq_getElem_cons h]
  simp only [keepI]
  split <;> rfl
/-- both networks -/
structure Two (w0 wr : World) (pn pm : Nat) (rn rm : List DR) where
  F : Nat → Prop
  G : Nat → Prop
  n : Nt wr F pn rn
  m : Nt wr G pm rm
  dj : Dj F G
  lf : Lo w0.heap.size F
  lg : Lo w0.heap.size G
  st : St No w0 (Nw w0) wr
def TwoIn (w0 wr : World) (pn pm : Nat) (rn rm : List DR) : Prop := Nonempty (Two w0 wr pn pm rn rm)
def Two.still {w0 wr w1 : World} {pn pm : Nat} {rn rm : List DR} {X : Nat → Prop} (b : Two w0 wr pn pm rn rm) (s : St No wr X w1) : Two w0 w1 pn pm rn rm := ⟨b.F, b.G, b.n.st s (Dj.no _), b.m.st s (Dj.no _), b.dj, b.lf, b.lg, b.st.then s⟩
theorem TwoIn.still {w0 wr w1 : World} {pn pm : Nat} {rn rm : List DR} {X : Nat → Prop} (h : TwoIn w0 wr pn pm rn rm) (s : St No wr X w1) : TwoIn w0 w1 pn pm rn rm := by
  obtain ⟨b⟩ := h
  exact ⟨⟨b.F, b.G, b.n.st s (Dj.no _), b.m.st s (Dj.no _), b.dj, b.lf, b.lg, b.st.then s⟩⟩
theorem St.lowp {w0 wr w1 : World} {F X : Nat → Prop} (h : St No w0 (Nw w0) wr) (t : St F wr X w1) (hF : Lo w0.heap.size F) : St No w0 (Nw w0) w1 :=
  ⟨t.os.trans h.os, t.tape.trans h.tape, t.output.trans h.output, Nat.le_trans h.size t.size, fun k hk hn => (t.block k (Nat.lt_of_lt_of_le hk h.size) (fun hf => absurd (hF k hf) (Nat.not_le.2 hk))).trans (h.block k hk hn), fun k hk => .inr hk⟩
theorem Two.left {w0 wr w1 : World} {pn pm : Nat} {rn rm rn' : List DR} {F' : Nat → Prop} (b : Two w0 wr pn pm rn rm) (h : Nt w1 F' pn rn') (s : St b.F wr F' w1) : TwoIn w0 w1 pn pm rn' rm :=
  ⟨⟨F', b.G, h, b.m.st s b.dj, b.dj.st b.m.in s, b.lf.st b.st.size s, b.lg, b.st.lowp s b.lf⟩⟩
theorem Two.right {w0 wr w1 : World} {pn pm : Nat} {rn rm rm' : List DR} {G' : Nat → Prop} (b : Two w0 wr pn pm rn rm) (h : Nt w1 G' pm rm') (s : St b.G wr G' w1) : TwoIn w0 w1 pn pm rn rm' :=
  ⟨⟨b.F, G', b.n.st s b.dj.symm, h, (b.dj.symm.st b.n.in s).symm, b.lf, b.lg.st b.st.size s, b.st.lowp s b.lg⟩⟩
set_option maxRecDepth 100000 in
set_option maxHeartbeats 8000000 in
theorem picks_walk (count : Int) (hcw : -9223372036854775808 ≤ count ∧ count ≤ 9223372036854775807) (a : Option Addr) (c : Nat) (ats : List Int) (hna : ats.length ≤ 35184372088832) (hwf : ∀ i ∈ ats, -9223372036854775808 ≤ i ∧ i ≤ 9223372036854775807) (w : World) (hi : Is w a ats) :
    Calls Try.prog 3 #[.int .i64 count, .slice a ats.length c] w fun e w' => e = .returned (.bool true) ∧ Below w.heap.size w w' := by
  have HIS := Lib.hid hi
  have HWF := Lib.hid hwf
  clear hi hwf
  by_cases h0 : count < 0
  · go_enter Try.func3, Try.ntmps3
    go_wp2
    go_ret
    exact ⟨rfl, (St.refl No w).below⟩
  by_cases h1 : 4096 < count
  · go_enter Try.func3, Try.ntmps3
    go_wp2
    go_ret
    exact ⟨rfl, (St.refl No w).below⟩
  obtain ⟨N, rfl⟩ := Int.eq_ofNat_of_zero_le (Int.not_lt.1 h0)
  have hN : N ≤ 4096 := by omega
  clear h0 h1 hcw
  go_enter Try.func3, Try.ntmps3
  go_wp2_with fail
  refine (opened_calls w).mono ?_
  rintro e w1 ⟨pn, F1, rfl, hn1, hs1⟩
  have HN1 := Lib.hid hn1
  have HS1 := Lib.hid hs1
  clear hn1 hs1
  go_wp2_with fail
  refine (opened_calls w1).mono ?_
  rintro e w2 ⟨pm, G1, rfl, hm2, hs2⟩
  have HT2 : Hid (TwoIn w w2 pn pm [] []) := Lib.hid ⟨⟨F1, G1, HN1.out.st hs2 (Dj.no _), hm2, (fun k hk hg => (hs2.new k hg).elim (fun h => h) (fun h => absurd (HN1.out.in k hk) (Nat.not_lt.2 h))), (fun k hk => (HS1.out.new k hk).elim (fun h => h.elim) id), (fun k hk => (hs2.new k hk).elim (fun h => h.elim) (fun h => Nat.le_trans HS1.out.size h)), HS1.out.then hs2⟩⟩
  clear hm2 hs2 HN1 HS1
  go_wp2
  go_loopw [7] (fun i wr => ∃ (k : Nat) (rn rm : List DR), k ≤ N ∧ i = .int .i64 k ∧ Hid (rn.length = k ∧ rm.length = k ∧ rn.map DR.data = rm.map DR.data) ∧ Hid (TwoIn w wr pn pm rn rm)) (fun i _ => N - (intOf i).toNat)
  case atStart => exact ⟨0, [], [], by omega, rfl, Lib.hid ⟨rfl, rfl, rfl⟩, HT2⟩
  case round =>
    clear HT2
    obtain ⟨k, rn, rm, hk, rfl, HEQ, HT⟩ := hrel
    obtain ⟨hln, hlm, heq⟩ := HEQ.out
    by_cases hlt : k < N
    · obtain ⟨bb, hbb⟩ : ∃ bb : List B8, bb = [BitVec.ofNat 8 k, BitVec.ofNat 8 (k / 256)] := ⟨_, rfl⟩
      have hbl : bb.length = 2 := by rw [hbb]; rfl
      have HBS : Hid (∀ X Y, (X = (k : Int) % 256 ∨ X = IntKind.u8.wrap (k : Int)) → (Y = (k : Int) / 256 % 256 ∨ Y = IntKind.u8.wrap ((k : Int) / 256) ∨ Y = (k : Int) / 256) → Bs (wr.alloc (.cells #[.int .u8 X, .int .u8 Y] 5)) (some ⟨wr.heap.size, 0, none⟩) bb) := Lib.hid (by
        intro X Y hX hY
        have e1 : X = ((BitVec.ofNat 8 k).toNat : Int) := by rw [BitVec.toNat_ofNat]; rcases hX with rfl | rfl; omega; rw [IntKind.wrap_u8]; omega
        have e2 : Y = ((BitVec.ofNat 8 (k / 256)).toNat : Int) := by rw [BitVec.toNat_ofNat]; rcases hY with rfl | rfl | rfl; omega; rw [IntKind.wrap_u8]; omega; omega
        rw [hbb, e1, e2]
        exact rd_row (heap_alloc_new wr _))
      have HSD : Hid (∀ W F p rs, rs.length < 4096 → Nt W F p rs → Bs W (some ⟨wr.heap.size, 0, none⟩) bb → Calls Try.prog 19 #[.pointer (some ⟨p, 0, none⟩), .int .u8 1, .int .u8 2, .slice (some ⟨wr.heap.size, 0, none⟩) 2 2] W (EnterPost W F p rs bb)) := Lib.hid (fun W F p rs hr hnt hb => by
        have := send_calls 2 (some ⟨wr.heap.size, 0, none⟩) 2 bb (by omega) (by omega) (fun h => by cases h) W F p rs hr hnt hb
        rw [hbl] at this
        exact this)
      clear hbb hbl
      go_wp2_with (first
        | fail)
      obtain ⟨b0⟩ := HT.out
      have hbs := HBS.out ((k : Int) % 256) ((k : Int) / 256) (.inl rfl) (.inr (.inr rfl))
      refine (HSD.out _ b0.F pn rn (by omega) (b0.still (St.alloc' No wr _)).n hbs).mono ?_
      rintro e w3 ⟨rfl, F', r1, hn3, hd3, hs3⟩
      have hbs3 := hbs.st hs3 (fun q hq hf => by
        obtain ⟨y, hy, rfl⟩ := hf
        cases hy
        exact Nat.lt_irrefl _ (b0.n.in _ hq))
      have HB3 := Lib.hid hbs3
      have HT3 := Lib.hid ((b0.still (St.alloc' No wr _)).left hn3 hs3)
      have HD3 := Lib.hid hd3
      clear hn3 hd3 hs3 hbs hbs3
      go_wp2_with fail
      obtain ⟨b3⟩ := HT3.out
      refine (HSD.out _ b3.G pm rm (by omega) b3.m HB3.out).mono ?_
      rintro e w4 ⟨rfl, G', r2, hn4, hd4, hs4⟩
      have HT4 := Lib.hid (b3.right hn4 hs4)
      have HD4 := Lib.hid hd4
      clear hn4 hd4 hs4
      go_wp2_with (go_at_call 20; refine (lnum_calls _ _).mono ?_; rintro e w5 ⟨rfl, rfl⟩)
      go_roundw
      case rel => exact ⟨k + 1, rn ++ [r1], rm ++ [r2], by omega, by go_num, Lib.hid ⟨by simp; omega, by simp; omega, by rw [List.map_append, List.map_append, heq]; simp [HD3.out, HD4.out]⟩, HT4⟩
      case measure => simp [intOf]; omega
    · obtain rfl : k = N := by omega
      obtain ⟨b⟩ := HT.out
      have HLN := Lib.hid (lyLen_calls wr b.F pn rn b.n)
      rw [hln] at HLN
      have HDR := Lib.hid (drop_calls a c ats hna HWF.out wr b.F pn rn b.n (HIS.out.st b.st))
      unfold DropPost at HDR
      rw [hln] at HDR
      have HIC := Lib.hid (inside_calls a c ats (by omega) k)
      by_cases hins : insideB ats k = true
      · go_wp2_with (first
          | (go_at_call 21; refine HLN.out.mono ?_; rintro e w5 ⟨rfl, rfl⟩)
          | fail)
        refine HDR.out.mono ?_
        rintro e w6 (⟨_, rfl, F', hn6, hs6⟩ | ⟨hf, _⟩)
        rotate_left
        · exact absurd hins (by rw [hf]; simp)
        have HIT := Lib.hid hins
        clear hins
        have HT6 := Lib.hid (b.left hn6 hs6)
        have HI6 : Hid (Is w6 a ats) := Lib.hid (HIS.out.st (b.st.lowp hs6 b.lf))
        clear hn6 hs6
        obtain ⟨Q, hQ⟩ : ∃ Q : Nat → Bool, Q = (fun (i : Nat) => ats.contains (i : Int)) := ⟨_, rfl⟩
        rw [← hQ] at HT6
        obtain ⟨kn, hkn⟩ : ∃ kn, keepI Q 0 rn = kn := ⟨_, rfl⟩
        have hkl : kn.length ≤ k := by rw [← hkn, ← hln]; exact keepI_len Q rn 0
        have HKM : Hid ((keepI Q 0 rm).map DR.data = kn.map DR.data) := Lib.hid (by rw [← hkn]; exact (keepI_map rn rm 0 heq).symm)
        have HQ := Lib.hid hQ
        have HKN := Lib.hid hkn
        have HLM := Lib.hid hlm
        rw [hkn] at HT6
        rw [← hQ, hkn]
        have HAM : Hid (∀ (i : Nat) W, Is W a ats → Calls Try.prog 24 #[.slice a ats.length c, .int .i64 (i : Int)] W fun e w' => e = .returned (.bool (Q i)) ∧ W = w') := Lib.hid (fun i W h => by rw [hQ]; exact among_calls a c ats (by omega) i W h)
        clear hQ hkn HDR HLN b hlm
        go_wp2_with (first
          | (go_at_call 23; refine (HIC.out w6 HI6.out).mono ?_; rintro e w7 ⟨rfl, rfl⟩; rw [HIT.out])
          | (go_at_call 20; refine (lnum_calls _ _).mono ?_; rintro e w5 ⟨rfl, rfl⟩))
        go_loopw [14, 15] (fun j i wr => ∃ (t : Nat) (cur : List DR), t ≤ k ∧ (∃ q : Int, i = .int .i64 q ∧ Hid (q = (t : Int) - 1)) ∧ (∃ z : Int, j = .int .i64 z ∧ Hid (z = (k : Int) - (cur.length : Int)) ∧ 0 ≤ z ∧ z ≤ 4096) ∧ Hid (cur = leftT Q rm t) ∧ Hid (TwoIn w wr pn pm kn cur)) (fun _ i _ => (intOf i + 1).toNat)
        case atStart =>
          refine ⟨k, rm, Nat.le_refl _, ⟨_, rfl, Lib.hid rfl⟩, ⟨0, rfl, Lib.hid (by rw [HLM.out]; omega), by omega, by omega⟩, Lib.hid ?_, HT6⟩
          unfold leftT
          rw [← HLM.out, List.take_length, List.drop_length]
          simp [keepI]
        case round =>
          clear HT6
          obtain ⟨t, cur, ht, ⟨q, rfl, HQE⟩, ⟨z, rfl, HZE, hz0, hz1⟩, HCU, HTW⟩ := hrel
          have HST : Hid (St No w (Nw w) wr) := Lib.hid (by obtain ⟨b⟩ := HTW.out; exact b.st)
          cases t with
          | zero =>
            have hq1 : q = -1 := by have := HQE.out; omega
            subst hq1
            have hcur : cur.map DR.data = kn.map DR.data := by
              rw [← HKM.out, HCU.out]
              unfold leftT
              simp
            have hcl : cur.length = kn.length := by have := congrArg List.length hcur; simpa using this
            have hz : z = (k : Int) - (kn.length : Int) := by rw [HZE.out, hcl]
            subst hz
            have HCUR := Lib.hid hcur
            have hq2 : ((kn.length : Int) != (k : Int) - ((k : Int) - (kn.length : Int))) = false := by rw [bne_eq_false_iff_eq]; omega
            obtain ⟨bz⟩ := HTW.out
            have HLZ := Lib.hid (lyLen_calls wr bz.F pn kn bz.n)
            have HLA := Lib.hid (lyList_calls wr bz.F pn kn bz.n)
            have HLB : Hid (∀ W, St No wr (Nw wr) W → Calls Try.prog 25 #[.pointer (some ⟨pm, 0, none⟩)] W (ListPost W cur)) := Lib.hid (fun W st => lyList_calls W bz.G pm cur (bz.m.st st (Dj.no _)))
            unfold ListPost at HLA HLB
            rw [hcl] at HLB
            have HDL : Hid (∀ r ∈ kn.map DR.data, r.length ≤ 1024) := Lib.hid (by
              intro r hr
              obtain ⟨x, hx, rfl⟩ := List.mem_map.1 hr
              obtain ⟨_, _, _, _, _, _, _, _, _, _, _, _, hd, _⟩ := bz.n
              exact (hd.2.2.2 x hx).2.2.2)
            clear hcur hcl bz
            go_wp2_with (first
              | (go_at_call 20; refine (lnum_calls _ _).mono ?_; rintro e w5 ⟨rfl, rfl⟩)
              | (go_at_call 21; refine HLZ.out.mono ?_; rintro e w5 ⟨rfl, rfl⟩)
              | fail)
            refine HLA.out.mono ?_
            rintro e w10 ⟨la, lc, rl, rfl, hol, hbl, hml, hsl⟩
            have HOL := Lib.hid hol
            have HBL := Lib.hid hbl
            have HML := Lib.hid hml
            have HSL := Lib.hid hsl
            clear hol hbl hml hsl
            go_wp2_with fail
            refine (HLB.out w10 HSL.out).mono ?_
            rintro e w11 ⟨ra, rc, rr, rfl, hor, hbr, hmr, hsr⟩
            have HOL2 := Lib.hid (HOL.out.st hsr (Dj.no _))
            have HOR := Lib.hid hor
            have HBL2 : Hid (∀ r ∈ rl, Bs w11 r.a r.data) := Lib.hid (fun r hr => (HBL.out r hr).st hsr (Dj.no _))
            have HBR := Lib.hid hbr
            have HMR := Lib.hid (hmr.trans HCUR.out)
            have HST2 := Lib.hid ((HST.out.then HSL.out).then hsr)
            clear hor hbr hmr hsr
            go_wp2
            go_loopw [20] (fun i wq => ∃ j : Nat, j ≤ kn.length ∧ i = .int .i64 j ∧ Hid (Dr w11 wq)) (fun i _ => kn.length - (intOf i).toNat)
            case atStart => exact ⟨0, by omega, rfl, Lib.hid (Dr.refl _)⟩
            case round =>
              obtain ⟨j, hj, rfl, HDR⟩ := hrel
              have HOQ := Lib.hid (HOL2.out.st (HDR.out.st No) (Dj.no _))
              have HRQ := Lib.hid (HOR.out.st (HDR.out.st No) (Dj.no _))
              by_cases hjl : j < kn.length
              · have hll : rl.length = kn.length := by have := congrArg List.length HML.out; simpa using this
                have hrl : rr.length = kn.length := by have := congrArg List.length HMR.out; simpa using this
                obtain ⟨x, hx⟩ : ∃ x, rl[j]? = some x := ⟨_, List.getElem?_eq_getElem (by omega)⟩
                obtain ⟨y, hy⟩ : ∃ y, rr[j]? = some y := ⟨_, List.getElem?_eq_getElem (by omega)⟩
                have hxy : x.data = y.data := by
                  have h1 := congrArg (fun l => l[j]?) (HML.out.trans HMR.out.symm)
                  simp only [List.getElem?_map, hx, hy] at h1
                  simpa using h1
                have hxl : x.data.length ≤ 1024 := HDL.out _ (by rw [← HML.out]; exact List.mem_map_of_mem (List.mem_of_getElem? hx))
                obtain ⟨la', rfl⟩ := rows_some DR.cells_len (by decide) (by rw [← hll] at HOQ; exact HOQ.out) j (by omega)
                obtain ⟨ra', rfl⟩ := rows_some DR.cells_len (by decide) (by rw [← hrl] at HRQ; exact HRQ.out) j (by omega)
                have d1 : wr.cell? ⟨(la'.add (j * 3)).block, (la'.add (j * 3)).off + 2, none⟩ = some (.slice x.a x.data.length x.c) := rows_elem DR.cells_len HOQ.out j x hx 2 _ (by decide) rfl
                have d2 : wr.cell? ⟨(ra'.add (j * 3)).block, (ra'.add (j * 3)).off + 2, none⟩ = some (.slice y.a y.data.length y.c) := rows_elem DR.cells_len HRQ.out j y hy 2 _ (by decide) rfl
                have hbx := (HBL2.out x (List.mem_of_getElem? hx)).st (HDR.out.st No) (Dj.no _)
                have hby := (HBR.out y (List.mem_of_getElem? hy)).st (HDR.out.st No) (Dj.no _)
                have HSM : ∀ n, Calls Try.prog 26 #[.slice x.a x.data.length x.c, .slice y.a y.data.length y.c] (wr.drewN n) fun e w'' => e = .returned (.bool true) ∧ ∃ m, w'' = wr.drewN m := fun n =>
                  (lsame_calls x.a x.c x.data y.a y.c y.data (by unfold maxLen; omega) (by rw [← hxy]; unfold maxLen; omega) _ (hbx.drewN n) (hby.drewN n)).mono fun e w' h => by rw [decide_eq_true hxy] at h; exact ⟨h.1, ((Dr.one n).trans h.2).out⟩
                have HSMH := Lib.hid HSM
                obtain ⟨xs, xd, xa, xc, xb⟩ := x
                obtain ⟨ys, yd, ya, yc, yb⟩ := y
                simp only at d1 d2 HSMH
                clear hxy hxl hbx hby HSM hx hy hll hrl
                go_wp2
                go_quiet ((go_at_call 26; exact HSMH.out _))
                go_wp2
                exact ⟨⟨j + 1, by omega, by go_num, Lib.hid (HDR.out.drewN nq)⟩, by simp [intOf]; omega⟩
              · obtain rfl : j = kn.length := by omega
                go_wp2
                go_ret
                exact ⟨rfl, (HST2.out.then (HDR.out.st No)).below⟩
          | succ s =>
            have hqs : q = (s : Int) := by have := HQE.out; omega
            subst hqs
            have hsl : s < rm.length := by rw [HLM.out]; omega
            obtain ⟨e1, e2⟩ := leftT_step Q rm s hsl
            have hA := HAM.out s wr (HIS.out.st HST.out)
            cases hqb : Q s with
            | false =>
              rw [hqb] at e2 hA
              simp only [Bool.false_eq_true, if_false] at e2
              have HA := Lib.hid hA
              have HE2 := Lib.hid e2
              clear e1 e2 hA hqb
              go_wp2_with (go_at_call 24; refine HA.out.mono ?_; rintro e w8 ⟨rfl, rfl⟩)
              refine ⟨⟨s, cur, by omega, ⟨_, rfl, Lib.hid rfl⟩, ⟨z, rfl, HZE, hz0, hz1⟩, Lib.hid (by rw [HE2.out]; exact HCU.out), HTW⟩, by simp [intOf] <;> omega⟩
            | true =>
              rw [hqb] at e2 hA
              simp only [if_true] at e2
              have hcu := HCU.out
              rw [e1] at hcu
              obtain ⟨nx, hnx⟩ : ∃ nx, leftT Q rm s = nx := ⟨_, rfl⟩
              have hnx2 : keepI (fun i => [(s : Int)].contains (i : Int)) 0 cur = nx := by
                have h := keepI_one (rm.take s) rm[s] (keepI Q (s + 1) (rm.drop (s + 1)))
                rw [List.length_take, Nat.min_eq_left (by omega)] at h
                rw [hcu, h, ← hnx, e2]
              have hcl : cur.length = nx.length + 1 := by
                rw [hcu, ← hnx, e2, List.length_append, List.length_append, List.length_cons]; omega
              have hsc : s < cur.length := by rw [hcu, List.length_append, List.length_cons, List.length_take, Nat.min_eq_left (by omega)]; try omega
              have HA := Lib.hid hA
              have HNX := Lib.hid hnx
              have HIO : Hid (∀ W : World, Is (W.alloc (.cells #[.int .i64 (s : Int)] 3)) (some ⟨W.heap.size, 0, none⟩) [(s : Int)]) := Lib.hid (fun W => rd_row (heap_alloc_new W _))
              have HDM : Hid (∀ W G, Nt W G pm cur → Is W (some ⟨wr.heap.size, 0, none⟩) [(s : Int)] → Calls Try.prog 22 #[.pointer (some ⟨pm, 0, none⟩), .slice (some ⟨wr.heap.size, 0, none⟩) 1 1] W fun e w' => e = .returned (.tuple #[.int .i64 1, .int .i64 0]) ∧ ∃ F', Nt w' F' pm nx ∧ St G W F' w') := Lib.hid (fun W G hnt his =>
                (drop_calls (some ⟨wr.heap.size, 0, none⟩) 1 [(s : Int)] (by simp) (fun i hi => by simp at hi; subst hi; omega) W G pm cur hnt his).mono (by
                  rintro e w' (⟨_, rfl, F', h1, h2⟩ | ⟨hf, _⟩)
                  · rw [hnx2] at h1 ⊢
                    exact ⟨by rw [show (cur.length : Int) - (nx.length : Int) = 1 by omega], F', h1, h2⟩
                  · simp [insideB] at hf
                    omega))
              have hnl : nx.length ≤ 4096 := by
                have := HZE.out; omega
              have HCL := Lib.hid hcl
              clear e1 e2 hA hqb hcu hnx hnx2 hcl hsc
              go_wp2_with (first
                | (go_at_call 24; refine HA.out.mono ?_; rintro e w8 ⟨rfl, rfl⟩)
                | fail)
              obtain ⟨b8⟩ := HTW.out
              refine (HDM.out _ _ (b8.still (St.alloc' No _ _)).m (HIO.out _)).mono ?_
              rintro e w9 ⟨rfl, F', hm9, hs9⟩
              have HT9 := Lib.hid ((b8.still (St.alloc' No _ _)).right hm9 hs9)
              clear hm9 hs9
              go_wp2_with (go_at_call 20; refine (lnum_calls _ _).mono ?_; rintro e w5 ⟨rfl, rfl⟩)
              refine ⟨⟨s, nx, by omega, ⟨_, rfl, Lib.hid rfl⟩, ⟨z + 1, rfl, Lib.hid (by rw [HZE.out, HCL.out]; omega), by omega, by have := HZE.out; have := HCL.out; omega⟩, Lib.hid HNX.out.symm, HT9⟩, by simp [intOf] <;> omega⟩
      · have hinf : insideB ats k = false := by simpa using hins
        have HIF := Lib.hid hinf
        clear hins hinf
        go_wp2_with (first
          | (go_at_call 21; refine HLN.out.mono ?_; rintro e w5 ⟨rfl, rfl⟩)
          | fail)
        refine HDR.out.mono ?_
        rintro e w6 (⟨ht, _⟩ | ⟨_, rfl, hn6, hs6⟩)
        · exact absurd ht (by rw [HIF.out]; simp)
        have HI6 : Hid (Is w6 a ats) := Lib.hid (HIS.out.st (b.st.lowp hs6 b.lf))
        have HL6 := Lib.hid (lyLen_calls w6 b.F pn rn hn6)
        rw [hln] at HL6
        have HS6 := Lib.hid (b.st.lowp hs6 b.lf)
        clear hn6 hs6
        go_wp2_with (first
          | (go_at_call 23; refine (HIC.out w6 HI6.out).mono ?_; rintro e w7 ⟨rfl, rfl⟩; rw [HIF.out])
          | (go_at_call 20; refine (lnum_calls _ _).mono ?_; rintro e w5 ⟨rfl, rfl⟩)
          | (go_at_call 21; refine HL6.out.mono ?_; rintro e w5 ⟨rfl, rfl⟩))
        go_ret
        exact ⟨by simp, HS6.out.below⟩
end Go.Proofs.Ytoeafacamapofaa
