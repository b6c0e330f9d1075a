
/-
  The reference's Joiner in memory; its find.
  The reference's Joiner behind a new list of slots.
  The reference's without.
  The reference's whole.
  The reference's New.
  The reference's Forget.
  The reference's Tick.
-/
import Derived.Test.YtoeafacamapofaaRjRest
import Derived.Test.YtoeafacamapofaaStRows2
import Derived.Test.YtoeafacamapofaaJnNew
namespace Go.Proofs.Ytoeafacamapofaa
open Go.RowKit
set_option linter.unusedVariables false
set_option linter.unusedSimpArgs false

/-- a fragment in memory -/
structure FR where
  f : Fg
  a : Option Addr
  c : Nat
def FR.cells (r : FR) : List Value := [.int .u64 (r.f.id.toNat : Int), .int .i64 r.f.index, .int .i64 r.f.count, .int .i64 r.f.total, .slice r.a r.f.part.length r.c]
theorem FR.cells_len (r : FR) : r.cells.length = 5 := rfl
/-- a slot in memory -/
structure SR where
  key : Nm
  age : Nat
  V : Value
  l : List FR
def SR.cells (s : SR) : List Value := [.int .i64 s.key.1, .int .u64 s.key.2, .int .i64 s.age, s.V]
theorem SR.cells_len (s : SR) : s.cells.length = 4 := rfl
def SR.pl (s : SR) : RSl := ⟨s.key, s.age, s.l.map (·.f)⟩
structure Rj (w : World) (pr : Nat) (V : Value) (D : Nat → Prop) (sl ag : Nat) (ss : List SR) : Prop where
  ob : Ob w pr 167 #[.int .i64 sl, .int .i64 ag, V]
  own : Own w 182 4 V ss.length (ss.flatMap SR.cells)
  lst : ∀ s ∈ ss, Own w 73 5 s.V s.l.length (s.l.flatMap FR.cells)
  prt : ∀ s ∈ ss, ∀ g ∈ s.l, Bs w g.a g.f.part ∧ (∀ k, fpA g.a k → D k) ∧ (g.a = none → g.c = 0) ∧ g.f.part.length ≤ 1024
  inD : In D w
  vp : ¬ fpV V pr
  vD : Dj (fpV V) D
  pD : ¬ D pr
  lV : ∀ s ∈ ss, Dj (fpV s.V) (fpV V)
  lp : ∀ s ∈ ss, ¬ fpV s.V pr
  lD : ∀ s ∈ ss, Dj (fpV s.V) D
  apart : ∀ (i j : Nat) (s t : SR), i ≠ j → ss[i]? = some s → ss[j]? = some t → Dj (fpV s.V) (fpV t.V)
def fpRj (pr : Nat) (V : Value) (D : Nat → Prop) (ss : List SR) : Nat → Prop := fun k => k = pr ∨ fpV V k ∨ D k ∨ ∃ s ∈ ss, fpV s.V k
theorem Rj.in {w : World} {pr : Nat} {V : Value} {D : Nat → Prop} {sl ag : Nat} {ss : List SR} (h : Rj w pr V D sl ag ss) : In (fpRj pr V D ss) w := by
  rintro k (rfl | hk | hk | ⟨s, hs, hk⟩)
  · exact h.ob.lt
  · exact h.own.in k hk
  · exact h.inD k hk
  · exact (h.lst s hs).in k hk
theorem Rj.st {w w' : World} {pr : Nat} {V : Value} {D : Nat → Prop} {sl ag : Nat} {ss : List SR} {F F' : Nat → Prop} (h : Rj w pr V D sl ag ss) (t : St F w F' w') (hd : Dj F (fpRj pr V D ss)) : Rj w' pr V D sl ag ss where
  ob := h.ob.move (t.block _ h.ob.lt (fun hf => hd _ hf (.inl rfl)))
  own := h.own.st t (fun k hf hv => hd k hf (.inr (.inl hv)))
  lst s hs := (h.lst s hs).st t (fun k hf hv => hd k hf (.inr (.inr (.inr ⟨s, hs, hv⟩))))
  prt s hs g hg := by
    obtain ⟨h1, h2, h3, h4⟩ := h.prt s hs g hg
    exact ⟨h1.st t (fun k hf ha => hd k hf (.inr (.inr (.inl (h2 k ha))))), h2, h3, h4⟩
  inD := h.inD.st t
  vp := h.vp
  vD := h.vD
  pD := h.pD
  lV := h.lV
  lp := h.lp
  lD := h.lD
  apart := h.apart
/-- the reference's Joiner, its places told -/
def RJ (w : World) (F : Nat → Prop) (pr sl ag : Nat) (rs : List RSl) : Prop :=
  ∃ V D ss, Rj w pr V D sl ag ss ∧ ss.map SR.pl = rs ∧ ∀ k, F k ↔ fpRj pr V D ss k
theorem RJ.in {w : World} {F : Nat → Prop} {pr sl ag : Nat} {rs : List RSl} (h : RJ w F pr sl ag rs) : In F w := by
  obtain ⟨V, D, ss, h1, _, h2⟩ := h
  intro k hk
  exact h1.in k ((h2 k).1 hk)
theorem RJ.st {w w' : World} {F G G' : Nat → Prop} {pr sl ag : Nat} {rs : List RSl} (h : RJ w F pr sl ag rs) (t : St G w G' w') (hd : Dj G F) : RJ w' F pr sl ag rs := by
  obtain ⟨V, D, ss, h1, h2, h3⟩ := h
  exact ⟨V, D, ss, h1.st t (fun k hg hf => hd k hg ((h3 k).2 hf)), h2, h3⟩
theorem rjZero : (Try.prog.info? 182).map (fun i => (i.zero, i.size, i.bytes)) = some (some (.agg #[.int .i64 0, .int .u64 0, .int .i64 0, .slice none 0 0]), 4, 48) := by kernel_rfl
theorem rfZero : (Try.prog.info? 73).map (fun i => (i.zero, i.size, i.bytes)) = some (some (.agg #[.int .u64 0, .int .i64 0, .int .i64 0, .int .i64 0, .slice none 0 0]), 5, 56) := by kernel_rfl
theorem firstT_lt (a : Int) (rs : List RSl) : ∀ n, -1 ≤ firstT a rs n ∧ firstT a rs n < n
  | 0 => by simp [firstT]
  | n + 1 => by
    have := firstT_lt a rs n
    unfold firstT
    split <;> omega
theorem atT_lt (k : Nm) (rs : List RSl) : ∀ n, -1 ≤ atT k rs n ∧ atT k rs n < n
  | 0 => by simp [atT]
  | n + 1 => by
    have := atT_lt k rs n
    unfold atT
    split <;> omega
theorem hadT_le (a : Int) (rs : List RSl) : ∀ n, hadT a rs n ≤ n
  | 0 => by simp [hadT]
  | n + 1 => by
    have := hadT_le a rs n
    unfold hadT
    split <;> omega
set_option maxRecDepth 100000 in
set_option maxHeartbeats 1000000 in
theorem rfind_calls (w : World) (pr : Nat) (V : Value) (D : Nat → Prop) (sl ag : Nat) (ss : List SR) (hlen : ss.length ≤ 65536) (h : Rj w pr V D sl ag ss) (frm idv : Int) :
    Calls Try.prog 121 #[.pointer (some ⟨pr, 0, none⟩), .int .i64 frm, .int .u64 idv] w fun e w' =>
      e = .returned (.tuple #[.int .i64 (atT (frm, idv) (ss.map SR.pl) ss.length), .int .i64 (hadT frm (ss.map SR.pl) ss.length), .int .i64 (firstT frm (ss.map SR.pl) ss.length)]) ∧ w = w' := by
  obtain ⟨va, vc, rfl, _, _, _, _⟩ := h.own.form
  have d2 : w.cell? ⟨pr, 2, none⟩ = some (.slice va ss.length vc) := by rw [h.ob.cell 2]; rfl
  have HR := Lib.hid h
  clear h
  go_enter Try.func121, Try.ntmps121
  go_wp2_with fail
  go_loopw [9, 10, 11, 12] (fun x9 x10 x11 t wr => ∃ i : Nat, i ≤ ss.length ∧ t = .int .i64 i ∧ x9 = .int .i64 (atT (frm, idv) (ss.map SR.pl) i) ∧ x10 = .int .i64 (hadT frm (ss.map SR.pl) i) ∧ x11 = .int .i64 (firstT frm (ss.map SR.pl) i) ∧ w = wr) (fun _ _ _ t _ => ss.length - (intOf t).toNat)
  case atStart => exact ⟨0, by omega, rfl, rfl, rfl, rfl, rfl⟩
  case round =>
    obtain ⟨i, hi, rfl, rfl, rfl, rfl, rfl⟩ := hrel
    have b1 := atT_lt (frm, idv) (ss.map SR.pl) i
    have b2 := hadT_le frm (ss.map SR.pl) i
    have b3 := firstT_lt frm (ss.map SR.pl) i
    by_cases hlt : i < ss.length
    · have hii : (i : Int) < (ss.length : Int) := by omega
      obtain ⟨y, rfl⟩ := rowL_some SR.cells_len (by decide) HR.out.own i hlt
      have hel := fun j v => rowL_elem SR.cells_len HR.out.own i ss[i] (List.getElem?_eq_getElem hlt) j v
      have hpl : (ss.map SR.pl)[i]? = some (SR.pl ss[i]) := by rw [List.getElem?_map, List.getElem?_eq_getElem hlt]; rfl
      have e1 : atT (frm, idv) (ss.map SR.pl) (i + 1) = if (some ss[i].key) = some (frm, idv) then (i : Int) else atT (frm, idv) (ss.map SR.pl) i := by
        conv => lhs; unfold atT
        rw [hpl]; rfl
      have e2 : hadT frm (ss.map SR.pl) (i + 1) = if (some ss[i].key.1) = some frm then hadT frm (ss.map SR.pl) i + 1 else hadT frm (ss.map SR.pl) i := by
        conv => lhs; unfold hadT
        rw [hpl]; rfl
      have e3 : firstT frm (ss.map SR.pl) (i + 1) = if (some ss[i].key.1) = some frm ∧ firstT frm (ss.map SR.pl) i < 0 then (i : Int) else firstT frm (ss.map SR.pl) i := by
        conv => lhs; unfold firstT
        rw [hpl]; rfl
      have E1 := Lib.hid e1
      have E2 := Lib.hid e2
      have E3 := Lib.hid e3
      clear e1 e2 e3 hpl
      generalize ss[i] = s at *
      obtain ⟨⟨k1, k2⟩, age, sv, l⟩ := s
      have c0 : w.cell? (y.add (i * 4)) = some (.int .i64 k1) := hel 0 _ (by decide) rfl
      have c1 : w.cell? ⟨(y.add (i * 4)).block, (y.add (i * 4)).off + 1, none⟩ = some (.int .u64 k2) := hel 1 _ (by decide) rfl
      clear hel
      generalize hA : atT (frm, idv) (ss.map SR.pl) i = A at *
      generalize hB : hadT frm (ss.map SR.pl) i = B at *
      generalize hG : firstT frm (ss.map SR.pl) i = G at *
      by_cases h1 : k1 = frm
      · subst h1
        by_cases h2 : k2 = idv
        · subst h2
          by_cases h3 : G < 0
          · go_wp2
            exact ⟨⟨i + 1, by omega, by simp, by rw [E1.out, if_pos rfl], by rw [E2.out, if_pos rfl]; simp, by rw [E3.out, if_pos ⟨rfl, h3⟩], trivial⟩, by simp [intOf]; omega⟩
          · go_wp2
            exact ⟨⟨i + 1, by omega, by simp, by rw [E1.out, if_pos rfl], by rw [E2.out, if_pos rfl]; simp, by rw [E3.out, if_neg (fun h => h3 h.2)], trivial⟩, by simp [intOf]; omega⟩
        · have h2b : (k2 == idv) = false := by simpa using h2
          by_cases h3 : G < 0
          · go_wp2
            exact ⟨⟨i + 1, by omega, by simp, by rw [E1.out, if_neg (by simp [h2])], by rw [E2.out, if_pos rfl]; simp, by rw [E3.out, if_pos ⟨rfl, h3⟩], trivial⟩, by simp [intOf]; omega⟩
          · go_wp2
            exact ⟨⟨i + 1, by omega, by simp, by rw [E1.out, if_neg (by simp [h2])], by rw [E2.out, if_pos rfl]; simp, by rw [E3.out, if_neg (fun h => h3 h.2)], trivial⟩, by simp [intOf]; omega⟩
      · have h1b : (k1 != frm) = true := by simpa using h1
        go_wp2
        exact ⟨⟨i + 1, by omega, by simp, by rw [E1.out, if_neg (by simp [h1])], by rw [E2.out, if_neg (by simp [h1])], by rw [E3.out, if_neg (by simp [h1])], trivial⟩, by simp [intOf]; omega⟩
    · obtain rfl : i = ss.length := by omega
      go_wp2
      go_ret3
      exact ⟨rfl, rfl⟩
end Go.Proofs.Ytoeafacamapofaa
namespace Go.Proofs.Ytoeafacamapofaa
open Go.RowKit
set_option linter.unusedVariables false
set_option linter.unusedSimpArgs false

def SR.vl (s : SR) : Value × List FR := (s.V, s.l)
def DjV (x y : Value × List FR) : Prop := Dj (fpV x.1) (fpV y.1)
theorem apart_pw {ss : List SR} (h : ∀ (i j : Nat) (s t : SR), i ≠ j → ss[i]? = some s → ss[j]? = some t → Dj (fpV s.V) (fpV t.V)) : (ss.map SR.vl).Pairwise DjV := by
  rw [List.pairwise_iff_getElem]
  intro i j hi hj hij
  rw [List.length_map] at hi hj
  rw [List.getElem_map, List.getElem_map]
  exact h i j ss[i] ss[j] (by omega) (List.getElem?_eq_getElem hi) (List.getElem?_eq_getElem hj)
theorem pw_apart {ss : List SR} (h : (ss.map SR.vl).Pairwise DjV) (i j : Nat) (s t : SR) (hij : i ≠ j) (hi : ss[i]? = some s) (hj : ss[j]? = some t) : Dj (fpV s.V) (fpV t.V) := by
  rw [List.pairwise_iff_getElem] at h
  obtain ⟨hil, rfl⟩ := List.getElem?_eq_some_iff.1 hi
  obtain ⟨hjl, rfl⟩ := List.getElem?_eq_some_iff.1 hj
  rcases Nat.lt_or_gt_of_ne hij with hlt | hlt
  · have := h i j (by simpa using hil) (by simpa using hjl) hlt
    rw [List.getElem_map, List.getElem_map] at this
    exact this
  · have := h j i (by simpa using hjl) (by simpa using hil) hlt
    rw [List.getElem_map, List.getElem_map] at this
    exact this.symm
/-- a new list of slots, stored -/
theorem Rj.relist {w w' : World} {pr : Nat} {V V' : Value} {D : Nat → Prop} {sl ag : Nat} {ss ss' : List SR} (h : Rj w pr V D sl ag ss) (hsub : (ss'.map SR.vl).Sublist (ss.map SR.vl)) (s : St No w (fpV V') w') (ho : Own w' 182 4 V' ss'.length (ss'.flatMap SR.cells)) :
    Rj (w'.setCell ⟨pr, 2, none⟩ V') pr V' D sl ag ss' ∧ St (fpRj pr V D ss) w (fpRj pr V' D ss') (w'.setCell ⟨pr, 2, none⟩ V') := by
  have hin := h.in
  have hpl := h.ob.lt
  have hmem : ∀ t ∈ ss', ∃ u ∈ ss, u.V = t.V ∧ u.l = t.l := fun t ht => by
    have h1 := hsub.subset (List.mem_map.2 ⟨t, ht, rfl⟩)
    obtain ⟨u, hu, e⟩ := List.mem_map.1 h1
    exact ⟨u, hu, congrArg Prod.fst e, congrArg Prod.snd e⟩
  have hVn : ∀ k, fpV V' k → w.heap.size ≤ k := fun k hk => (s.new k hk).elim (fun h => h.elim) (fun h => h)
  have hst := St.setCell (F := fpB pr) w' ⟨pr, 2, none⟩ V' rfl
  have hfB : ∀ k, fpB pr k → k = pr := fun k hk => hk
  refine ⟨⟨?_, ?_, ?_, ?_, ?_, ?_, ?_, h.pD, ?_, ?_, ?_, ?_⟩, ?_⟩
  · exact (h.ob.move (s.block pr hpl (fun e => e))).set 2 V'
  · exact ho.st hst (fun k hk hv => by have := hVn k hv; have := hfB k hk; omega)
  · intro t ht
    obtain ⟨u, hu, e1, e2⟩ := hmem t ht
    have := ((h.lst u hu).st s (Dj.no _)).st hst (fun k hk hv => h.lp u hu (by rw [← hfB k hk]; exact hv))
    rw [e1, e2] at this
    exact this
  · intro t ht g hg
    obtain ⟨u, hu, e1, e2⟩ := hmem t ht
    obtain ⟨p1, p2, p3, p4⟩ := h.prt u hu g (by rw [e2]; exact hg)
    exact ⟨(p1.st s (Dj.no _)).st hst (fun k hk ha => h.pD (by rw [← hfB k hk]; exact p2 k ha)), p2, p3, p4⟩
  · exact (h.inD.st s).st hst
  · intro hv
    have := hVn pr hv
    omega
  · intro k hv hd
    have := hVn k hv
    have := h.inD k hd
    omega
  · intro t ht k hk hv
    obtain ⟨u, hu, e1, e2⟩ := hmem t ht
    rw [← e1] at hk
    have := (h.lst u hu).in k hk
    have := hVn k hv
    omega
  · intro t ht
    obtain ⟨u, hu, e1, e2⟩ := hmem t ht
    rw [← e1]
    exact h.lp u hu
  · intro t ht
    obtain ⟨u, hu, e1, e2⟩ := hmem t ht
    rw [← e1]
    exact h.lD u hu
  · exact pw_apart ((apart_pw h.apart).sublist hsub)
  · refine ⟨hst.os.trans s.os, hst.tape.trans s.tape, hst.output.trans s.output, Nat.le_trans s.size hst.size, fun k hk hn => ?_, fun k hk => ?_⟩
    · rw [hst.block k (Nat.lt_of_lt_of_le hk s.size) (fun e => hn (.inl (hfB k e)))]
      exact s.block k hk (fun e => e)
    · rcases hk with hk | hk | hk | ⟨t, ht, hk⟩
      · exact .inl (.inl hk)
      · exact .inr (hVn k hk)
      · exact .inl (.inr (.inr (.inl hk)))
      · obtain ⟨u, hu, e1, e2⟩ := hmem t ht
        exact .inl (.inr (.inr (.inr ⟨u, hu, by rw [e1]; exact hk⟩)))
end Go.Proofs.Ytoeafacamapofaa
namespace Go.Proofs.Ytoeafacamapofaa
open Go.RowKit
set_option linter.unusedVariables false
set_option linter.unusedSimpArgs false

theorem erase_take {α : Type} (L : List α) (i k : Nat) (h : k < L.length) : (L.take (k + 1)).eraseIdx i = if k = i then (L.take k).eraseIdx i else (L.take k).eraseIdx i ++ [L[k]] := by
  have hl : (L.take k).length = k := by rw [List.length_take]; omega
  rw [List.take_succ_eq_append_getElem h]
  by_cases e : k = i
  · subst e
    have hr : (L.take k).eraseIdx k = L.take k := List.eraseIdx_of_length_le (by omega)
    rw [if_pos rfl, hr, List.eraseIdx_append_of_length_le (by omega), hl, Nat.sub_self]
    exact List.append_nil _
  · rw [if_neg e]
    by_cases e2 : i < k
    · rw [List.eraseIdx_append_of_lt_length (by omega)]
    · rw [List.eraseIdx_append_of_length_le (by omega), hl, List.eraseIdx_of_length_le (l := [L[k]]) (by simp; omega), List.eraseIdx_of_length_le (by omega)]
theorem srOne (w : World) (a b c : Value) (V : Value) (ha : a.oneCell' = true) (hb : b.oneCell' = true) (hc : c.oneCell' = true) (hV : V.oneCell' = true) : Src (w.alloc (.cells #[a, b, c, V] 182)) (some ⟨w.heap.size, 0, none⟩) 1 4 [a, b, c, V] := by
  refine ⟨rfl, rd_row (heap_alloc_new w _), fun u hu => ?_⟩
  simp at hu
  rcases hu with rfl | rfl | rfl | rfl <;> assumption
set_option maxRecDepth 100000 in
set_option maxHeartbeats 1000000 in
theorem without_calls (V : Value) (L : List SR) (hlen : L.length ≤ 65536) (i : Nat) (hV : ∀ s ∈ L, ∃ a n c, s.V = .slice a n c) (w : World) (ho : Own w 182 4 V L.length (L.flatMap SR.cells)) :
    Calls Try.prog 122 #[V, .int .i64 (i : Int)] w fun e w' => ∃ V', e = .returned V' ∧ Own w' 182 4 V' (L.eraseIdx i).length ((L.eraseIdx i).flatMap SR.cells) ∧ St No w (fpV V') w' := by
  obtain ⟨a, c, rfl, _, _, _, _⟩ := ho.form
  obtain ⟨ti, hti, hz, hsz, hby⟩ := info_parts rjZero
  have HTI := Lib.hid hti
  have HZ := Lib.hid hz
  have HSZ := Lib.hid hsz
  have HBY := Lib.hid hby
  have HO := Lib.hid ho
  have HV := Lib.hid hV
  clear ho hV hti hz hsz hby
  go_enter Try.func122, Try.ntmps122
  go_wp2_with fail
  go_loopw [5, 6] (fun x t wr => ∃ (k : Nat) (V' : Value), k ≤ L.length ∧ t = .int .i64 k ∧ x = V' ∧ Hid (Own wr 182 4 V' ((L.take k).eraseIdx i).length (((L.take k).eraseIdx i).flatMap SR.cells)) ∧ Hid (∀ q, fpV V' q → w.heap.size ≤ q) ∧ Hid (St No w (Nw w) wr)) (fun _ t _ => L.length - (intOf t).toNat)
  case atStart => exact ⟨0, _, by omega, rfl, rfl, Lib.hid (by simpa using Own.nil w _ 4), Lib.hid (fun q hq => by simp [fpV, Value.ownBlock] at hq), Lib.hid (St.refl No w).toNew⟩
  case round =>
    obtain ⟨k, V2, hk, rfl, hxv, HO2, HV2, HS⟩ := hrel
    have hxv' := hxv.symm
    subst hxv'
    clear hxv
    by_cases hlt : k < L.length
    · have hki : (k : Int) < (L.length : Int) := by omega
      have hown := HO.out.st HS.out (Dj.no _)
      obtain ⟨y, rfl⟩ := rowL_some SR.cells_len (by decide) hown k hlt
      have hel := fun j v => rowL_elem SR.cells_len hown k L[k] (List.getElem?_eq_getElem hlt) j v
      have het := erase_take L i k hlt
      have hvv := HV.out L[k] (List.getElem_mem hlt)
      have HET := Lib.hid het
      have hll : ((L.take k).eraseIdx i).length ≤ 65536 := by
        have := List.length_eraseIdx_le (L.take k) i
        rw [List.length_take] at this
        omega
      clear hown het
      generalize L[k] = s at *
      obtain ⟨⟨k1, k2⟩, age, sv, l⟩ := s
      obtain ⟨sa, sn, sc, rfl⟩ := hvv
      have c0 : wr.cell? (y.add (k * 4)) = some (.int .i64 k1) := hel 0 _ (by decide) rfl
      have c1 : wr.cell? ⟨(y.add (k * 4)).block, (y.add (k * 4)).off + 1, none⟩ = some (.int .u64 k2) := hel 1 _ (by decide) rfl
      have c2 : wr.cell? ⟨(y.add (k * 4)).block, (y.add (k * 4)).off + 2, none⟩ = some (.int .i64 (age : Int)) := hel 2 _ (by decide) rfl
      have c3 : wr.cell? ⟨(y.add (k * 4)).block, (y.add (k * 4)).off + 3, none⟩ = some (.slice sa sn sc) := hel 3 _ (by decide) rfl
      clear hel
      by_cases h1 : k = i
      · subst h1
        go_wp2
        exact ⟨⟨k + 1, V2, by omega, by simp, rfl, by rw [HET.out, if_pos rfl]; exact HO2, HV2, HS⟩, by simp [intOf]; omega⟩
      · have h1i : ¬ (k : Int) = (i : Int) := by omega
        have h1b : ((k : Int) != (i : Int)) = true := bne_iff_ne.2 h1i
        generalize hR : (L.take k).eraseIdx i = R at *
        have HR := Lib.hid hR
        clear hR
        go_wp2_with (at_builtin; refine wpList_app rfl (.tmp 16) (.tmp 21) 165 rfl 182 ti _ 4 48 Try.underlying165 HTI.out HZ.out HSZ.out HBY.out rfl (by decide) _ R.length (R.flatMap SR.cells) rfl (HO2.out.st (St.alloc' No wr _) (Dj.no _)) (some ⟨wr.heap.size, 0, none⟩) 1 1 (SR.cells ⟨(k1, k2), age, .slice sa sn sc, l⟩) rfl (srOne wr _ _ _ _ rfl rfl rfl rfl) (fun h => by cases h) (by unfold maxLen; omega) (by omega) ?_; intro v4 w4 ho4 hs4 hn4; have HO4 := Lib.hid ho4; have HS4 := Lib.hid hs4; clear ho4 hs4 hn4)
        refine ⟨⟨k + 1, v4, by omega, by simp, rfl, Lib.hid ?_, Lib.hid ?_, Lib.hid ?_⟩, by simp [intOf]; omega⟩
        · rw [HET.out, if_neg h1, List.length_append, List.flatMap_append]
          simpa using HO4.out
        · intro q hq
          rcases HS4.out.new q hq with h | h
          · exact HV2.out q h
          · have := HS.out.size; simp at h; omega
        · exact (HS.out.then (new1 wr _)).thenN HS4.out (fun q hq => HV2.out q hq)
    · obtain rfl : k = L.length := by omega
      rw [List.take_length] at HO2
      go_wp2
      go_ret
      have h1 := HS.out
      exact ⟨V2, rfl, HO2.out, h1.os, h1.tape, h1.output, h1.size, fun q hq hn => h1.block q hq (fun e => e), fun q hq => .inr (HV2.out q hq)⟩
end Go.Proofs.Ytoeafacamapofaa
namespace Go.Proofs.Ytoeafacamapofaa
open Go.RowKit
set_option linter.unusedVariables false
set_option linter.unusedSimpArgs false

def oneI (l : List Fg) (i : Nat) : List B8 := ((l.filter (fun g => decide (g.index = i))).map (·.part)).flatten
def wholeTo (l : List Fg) (n : Nat) : List B8 := ((List.range n).map (oneI l)).flatten
theorem wholeTo_succ (l : List Fg) (n : Nat) : wholeTo l (n + 1) = wholeTo l n ++ oneI l n := by
  unfold wholeTo
  rw [List.range_succ, List.map_append, List.flatten_append]
  simp
theorem oneI_take (l : List Fg) (i k : Nat) (h : k < l.length) : oneI (l.take (k + 1)) i = oneI (l.take k) i ++ if l[k].index = i then l[k].part else [] := by
  unfold oneI
  rw [List.take_succ_eq_append_getElem h, List.filter_append, List.map_append, List.flatten_append]
  congr 1
  by_cases e : l[k].index = i <;> simp [e]
theorem oneI_len (l : List Fg) (i : Nat) (hp : ∀ g ∈ l, g.part.length ≤ 1024) : (oneI l i).length ≤ l.length * 1024 := by
  induction l with
  | nil => simp [oneI]
  | cons g l ih =>
    have h1 := ih (fun x hx => hp x (List.mem_cons_of_mem _ hx))
    have h2 := hp g (by simp)
    unfold oneI at h1 ⊢
    rw [List.filter_cons, List.length_cons, Nat.succ_mul]
    generalize l.length * 1024 = z at *
    split
    · rw [List.map_cons, List.flatten_cons, List.length_append]
      exact Nat.le_trans (Nat.add_le_add h2 h1) (Nat.le_of_eq (Nat.add_comm _ _))
    · exact Nat.le_trans h1 (Nat.le_add_right _ _)
theorem wholeTo_len (l : List Fg) (hp : ∀ g ∈ l, g.part.length ≤ 1024) : ∀ n, (wholeTo l n).length ≤ n * (l.length * 1024)
  | 0 => by simp [wholeTo]
  | n + 1 => by
    rw [wholeTo_succ, List.length_append, Nat.succ_mul]
    have := wholeTo_len l hp n
    have := oneI_len l n hp
    omega
set_option maxRecDepth 100000 in
set_option maxHeartbeats 1000000 in
theorem whole_calls (k1 : Int) (k2 : Int) (age : Nat) (V : Value) (L : List FR) (hlen : L.length ≤ 128) (w : World) (ho : Own w 73 5 V L.length (L.flatMap FR.cells)) (hp : ∀ g ∈ L, Bs w g.a g.f.part ∧ (g.a = none → g.c = 0) ∧ g.f.part.length ≤ 1024) :
    Calls Try.prog 123 #[.agg #[.int .i64 k1, .int .u64 k2, .int .i64 age, V]] w fun e w' => ∃ V', e = .returned V' ∧ OwB w' V' (wholeR (L.map (·.f))) ∧ St No w (fpV V') w' := by
  obtain ⟨a, c, rfl, _, _, _, _⟩ := ho.form
  have HO := Lib.hid ho
  have HP := Lib.hid hp
  have hpp : ∀ g ∈ L.map (·.f), g.part.length ≤ 1024 := fun g hg => by
    obtain ⟨r, hr, rfl⟩ := List.mem_map.1 hg
    exact (hp r hr).2.2
  have HPP := Lib.hid hpp
  have HBX : Hid (Ob (w.alloc (.cells #[.int .i64 k1, .int .u64 k2, .int .i64 age, .slice a L.length c] 182)) w.heap.size 182 #[.int .i64 k1, .int .u64 k2, .int .i64 age, .slice a L.length c]) := Lib.hid (Ob.alloc w _ _)
  have HSX : Hid (St No w (Nw w) (w.alloc (.cells #[.int .i64 k1, .int .u64 k2, .int .i64 age, .slice a L.length c] 182))) := Lib.hid (new1 w _)
  have hzx : (w.alloc (.cells #[.int .i64 k1, .int .u64 k2, .int .i64 age, .slice a L.length c] 182)).heap.size = w.heap.size + 1 := by simp
  clear ho hp hpp
  go_enter Try.func123, Try.ntmps123
  go_upto_region 3 with fail
  generalize (w.alloc (.cells #[.int .i64 k1, .int .u64 k2, .int .i64 age, .slice a L.length c] 182)) = wx at *
  go_loopw [3, 4] (fun x t wr => ∃ (i : Nat) (V' : Value), i ≤ L.length ∧ t = .int .i64 i ∧ x = V' ∧ Hid (OwB wr V' (wholeTo (L.map (·.f)) i)) ∧ Hid (∀ q, fpV V' q → wx.heap.size ≤ q) ∧ Hid (St No wx (Nw wx) wr)) (fun _ t _ => L.length - (intOf t).toNat)
  case atStart => exact ⟨0, _, by omega, rfl, rfl, Lib.hid (OwB.nil _), Lib.hid (fun q hq => by simp [fpV, Value.ownBlock] at hq), Lib.hid (St.refl No wx).toNew⟩
  case round =>
    obtain ⟨i, V1, hi, rfl, hxv, HO1, HV1, HS1⟩ := hrel
    have hxv' := hxv.symm
    subst hxv'
    clear hxv
    have hb1 := HBX.out.move (HS1.out.block _ HBX.out.lt (fun e => e))
    have x3 : wr.cell? ⟨w.heap.size, 3, none⟩ = some (.slice a L.length c) := by rw [hb1.cell 3]; rfl
    clear hb1
    by_cases hlt : i < L.length
    · have hii : (i : Int) < (L.length : Int) := by omega
      go_upto_region 6 with fail
      go_loopw [3, 5] (fun x t wq => ∃ (k : Nat) (V' : Value), k ≤ L.length ∧ t = .int .i64 k ∧ x = V' ∧ Hid (OwB wq V' (wholeTo (L.map (·.f)) i ++ oneI ((L.map (·.f)).take k) i)) ∧ Hid (∀ q, fpV V' q → wx.heap.size ≤ q) ∧ Hid (St No wx (Nw wx) wq)) (fun _ t _ => L.length - (intOf t).toNat)
      case atStart => exact ⟨0, V1, by omega, rfl, rfl, by simpa [oneI] using HO1, HV1, HS1⟩
      case round =>
        obtain ⟨k, V2, hk, rfl, hxv, HO2, HV2, HS2⟩ := hrel
        have hxv' := hxv.symm
        subst hxv'
        clear hxv
        have hb2 := HBX.out.move (HS2.out.block _ HBX.out.lt (fun e => e))
        have x32 : wr.cell? ⟨w.heap.size, 3, none⟩ = some (.slice a L.length c) := by rw [hb2.cell 3]; rfl
        clear hb2
        by_cases hlt2 : k < L.length
        · have hki : (k : Int) < (L.length : Int) := by omega
          have hst : St No w (Nw w) wr := HSX.out.then HS2.out
          have hown := HO.out.st hst (Dj.no _)
          obtain ⟨y, rfl⟩ := rowL_some FR.cells_len (by decide) hown k hlt2
          have hel := fun j v => rowL_elem FR.cells_len hown k L[k] (List.getElem?_eq_getElem hlt2) j v
          obtain ⟨p1, p2, p3⟩ := HP.out L[k] (List.getElem_mem hlt2)
          have hot := oneI_take (L.map (·.f)) i k (by simpa using hlt2)
          have hgk : (L.map (·.f))[k]'(by simpa using hlt2) = L[k].f := by simp
          rw [hgk] at hot
          have p1' := p1.st hst (Dj.no _)
          have hll : (wholeTo (L.map (·.f)) i ++ oneI ((L.map (·.f)).take k) i).length ≤ 33554432 := by
            rw [List.length_append]
            have h1 := wholeTo_len _ HPP.out i
            have h2 := oneI_len ((L.map (·.f)).take k) i (fun g hg => HPP.out g (List.mem_of_mem_take hg))
            rw [List.length_take, List.length_map] at h2
            rw [List.length_map] at h1
            have h3 : i * (L.length * 1024) ≤ 128 * (128 * 1024) := Nat.mul_le_mul (by omega) (Nat.mul_le_mul_right _ hlen)
            have h4 : min k L.length * 1024 ≤ 128 * 1024 := Nat.mul_le_mul_right _ (by omega)
            omega
          have HOT := Lib.hid hot
          have HB := Lib.hid p1'
          have HN := Lib.hid p2
          clear hst hown hot hgk p1 p1' p2
          generalize L[k] = g at *
          obtain ⟨⟨fid, fix, fct, ftt, fpt⟩, ga, gc⟩ := g
          simp only at p3
          have c1 : wr.cell? ⟨(y.add (k * 5)).block, (y.add (k * 5)).off + 1, none⟩ = some (.int .i64 (fix : Int)) := hel 1 _ (by decide) rfl
          have c4 : wr.cell? ⟨(y.add (k * 5)).block, (y.add (k * 5)).off + 4, none⟩ = some (.slice ga fpt.length gc) := hel 4 _ (by decide) rfl
          clear hel
          generalize hR : wholeTo (L.map (·.f)) i ++ oneI ((L.map (·.f)).take k) i = R at *
          have HR := Lib.hid hR
          clear hR
          by_cases h1 : fix = i
          · subst h1
            go_wp2_with (at_builtin; refine wpList_appB rfl (.tmp 28) (.tmp 34) rfl _ R rfl HO2.out ga fpt.length gc fpt rfl rfl HB.out HN.out (by omega) ?_; intro v4 w4 ho4 hs4 hn4; have HO4 := Lib.hid ho4; have HS4 := Lib.hid hs4; clear ho4 hs4 hn4)
            refine ⟨⟨k + 1, v4, by omega, by simp, rfl, Lib.hid ?_, Lib.hid ?_, Lib.hid (HS2.out.thenN HS4.out (fun q hq => HV2.out q hq))⟩, by simp [intOf]; omega⟩
            · rw [HOT.out, if_pos rfl, ← List.append_assoc, HR.out]
              exact HO4.out
            · intro q hq
              rcases HS4.out.new q hq with h | h
              · exact HV2.out q h
              · have := HS2.out.size; omega
          · have h1b : ((fix : Int) == (i : Int)) = false := beq_eq_false_iff_ne.2 (by omega)
            go_wp2
            refine ⟨⟨k + 1, V2, by omega, by simp, rfl, Lib.hid ?_, HV2, HS2⟩, by simp [intOf]; omega⟩
            rw [HOT.out, if_neg h1, List.append_nil, HR.out]
            exact HO2.out
        · obtain rfl : k = L.length := by omega
          have e : wholeTo (L.map (·.f)) i ++ oneI ((L.map (·.f)).take L.length) i = wholeTo (L.map (·.f)) (i + 1) := by
            rw [wholeTo_succ, show L.length = (L.map (·.f)).length by simp, List.take_length]
          rw [e] at HO2
          clear e
          go_wp2
          exact ⟨⟨i + 1, V2, by omega, by simp, rfl, HO2, HV2, HS2⟩, by simp [intOf]; omega⟩
    · obtain rfl : i = L.length := by omega
      go_wp2
      go_ret
      have h1 := HSX.out.then HS1.out
      have e : wholeR (L.map (·.f)) = wholeTo (L.map (·.f)) L.length := by
        unfold wholeR wholeTo oneI
        rw [List.length_map]
      rw [e]
      have hzx2 := HSX.out.size
      exact ⟨V1, rfl, HO1.out, h1.os, h1.tape, h1.output, h1.size, fun q hq hn => h1.block q hq (fun e => e), fun q hq => .inr (by have := HV1.out q hq; omega)⟩
end Go.Proofs.Ytoeafacamapofaa
namespace Go.Proofs.Ytoeafacamapofaa
open Go.RowKit
set_option linter.unusedVariables false
set_option linter.unusedSimpArgs false

def RNewPost (w : World) (sl ag : Int) (e : Ending) (w' : World) : Prop :=
  (newOk sl ag = true ∧ ∃ pr F, e = .returned (.tuple #[.pointer (some ⟨pr, 0, none⟩), .int .i64 0]) ∧ RJ w' F pr sl.toNat ag.toNat [] ∧ St No w F w') ∨
  (newOk sl ag = false ∧ e = .returned (.tuple #[.pointer none, .int .i64 2]) ∧ w' = w)
set_option maxRecDepth 100000 in
theorem rnew_calls (sl ag : Int) (w : World) : Calls Try.prog 49 #[.int .i64 sl, .int .i64 ag] w (RNewPost w sl ag) := by
  by_cases h1 : sl < 1
  · have HB : newOk sl ag = false := decide_eq_false (by omega)
    go_enter Try.func49, Try.ntmps49
    go_wp2
    go_ret2
    exact .inr ⟨HB, rfl, rfl⟩
  by_cases h2 : 16 < sl
  · have HB : newOk sl ag = false := decide_eq_false (by omega)
    go_enter Try.func49, Try.ntmps49
    go_wp2
    go_ret2
    exact .inr ⟨HB, rfl, rfl⟩
  by_cases h3 : ag < 1
  · have HB : newOk sl ag = false := decide_eq_false (by omega)
    go_enter Try.func49, Try.ntmps49
    go_wp2
    go_ret2
    exact .inr ⟨HB, rfl, rfl⟩
  by_cases h4 : 64 < ag
  · have HB : newOk sl ag = false := decide_eq_false (by omega)
    go_enter Try.func49, Try.ntmps49
    go_wp2
    go_ret2
    exact .inr ⟨HB, rfl, rfl⟩
  have HB : newOk sl ag = true := decide_eq_true (by omega)
  go_enter Try.func49, Try.ntmps49
  go_wp2
  go_ret2
  obtain ⟨n, rfl⟩ := Int.eq_ofNat_of_zero_le (show 0 ≤ sl by omega)
  obtain ⟨m, rfl⟩ := Int.eq_ofNat_of_zero_le (show 0 ≤ ag by omega)
  refine .inl ⟨HB, _, fun k => k = w.heap.size, rfl, ⟨.slice none 0 0, No, [], ?_, rfl, ?_⟩, ?_⟩
  · refine ⟨Ob.alloc w _ _, Own.nil _ _ _, by simp, by simp, fun k hk => hk.elim, ?_, ?_, fun h => h, by simp, by simp, by simp, fun i j s t _ hi => by simp at hi⟩
    · intro hk; simp [fpV, Value.ownBlock] at hk
    · intro k hk; simp [fpV, Value.ownBlock] at hk
  · intro k
    simp [fpRj, fpV, Value.ownBlock, No]
  · exact (St.alloc No w _).drop (fun k hk => .inr (.inr hk))
end Go.Proofs.Ytoeafacamapofaa
namespace Go.Proofs.Ytoeafacamapofaa
open Go.RowKit
set_option linter.unusedVariables false
set_option linter.unusedSimpArgs false

def RForgetJ (w : World) (F : Nat → Prop) (pr sl ag : Nat) (rs : List RSl) (frm : Int) (e : Ending) (w' : World) : Prop :=
  (frm = 255 ∧ e = .returned (.tuple #[.int .i64 0, .int .i64 45]) ∧ w = w') ∨
  (frm ≠ 255 ∧ e = .returned (.tuple #[.int .i64 ((rs.length : Int) - ((rForget frm rs).length : Int)), .int .i64 0]) ∧ ∃ F', RJ w' F' pr sl ag (rForget frm rs) ∧ St F w F' w')
theorem filt_take (frm : Int) (L : List SR) (k : Nat) (h : k < L.length) : (L.take (k + 1)).filter (fun s => !decide (s.key.1 = frm)) = (L.take k).filter (fun s => !decide (s.key.1 = frm)) ++ if L[k].key.1 = frm then [] else [L[k]] := by
  rw [List.take_succ_eq_append_getElem h, List.filter_append]
  congr 1
  by_cases e : L[k].key.1 = frm <;> simp [e]
set_option maxRecDepth 100000 in
set_option maxHeartbeats 1000000 in
theorem rforget_calls (w : World) (frm : Int) (F : Nat → Prop) (pr sl ag : Nat) (rs : List RSl) (hlen : rs.length ≤ 65536) (h : RJ w F pr sl ag rs) :
    Calls Try.prog 93 #[.pointer (some ⟨pr, 0, none⟩), .int .i64 frm] w (RForgetJ w F pr sl ag rs frm) := by
  by_cases h255 : frm = 255
  · subst h255
    go_enter Try.func93, Try.ntmps93
    go_wp2
    go_ret2
    exact .inl ⟨rfl, rfl, rfl⟩
  have h255b : (frm == 255) = false := by simpa using h255
  obtain ⟨V, D, L, hj, hpl, hF⟩ := h
  have hll : L.length ≤ 65536 := by rw [← hpl] at hlen; simpa using hlen
  obtain ⟨a, c, rfl, _, _, _, _⟩ := hj.own.form
  obtain ⟨ti, hti, hz, hsz, hby⟩ := info_parts rjZero
  have HTI := Lib.hid hti
  have HZ := Lib.hid hz
  have HSZ := Lib.hid hsz
  have HBY := Lib.hid hby
  have HJ := Lib.hid hj
  have HPL := Lib.hid hpl
  have HF := Lib.hid hF
  have hprl := hj.ob.lt
  clear hj hpl hF hti hz hsz hby hlen
  have d2 : w.cell? ⟨pr, 2, none⟩ = some (.slice a L.length c) := by rw [HJ.out.ob.cell 2]; rfl
  go_enter Try.func93, Try.ntmps93
  go_wp2_with fail
  go_loopw [6, 7] (fun x t wr => ∃ (k : Nat) (V' : Value), k ≤ L.length ∧ t = .int .i64 k ∧ x = V' ∧ Hid (Own wr 182 4 V' ((L.take k).filter (fun s => !decide (s.key.1 = frm))).length (((L.take k).filter (fun s => !decide (s.key.1 = frm))).flatMap SR.cells)) ∧ Hid (∀ q, fpV V' q → w.heap.size ≤ q) ∧ Hid (St No w (Nw w) wr)) (fun _ t _ => L.length - (intOf t).toNat)
  case atStart => exact ⟨0, _, by omega, rfl, rfl, Lib.hid (by simpa using Own.nil w _ 4), Lib.hid (fun q hq => by simp [fpV, Value.ownBlock] at hq), Lib.hid (St.refl No w).toNew⟩
  case round =>
    obtain ⟨k, V2, hk, rfl, hxv, HO2, HV2, HS⟩ := hrel
    have hxv' := hxv.symm
    subst hxv'
    clear hxv
    have d2r : wr.cell? ⟨pr, 2, none⟩ = some (.slice a L.length c) := (World.cell?_of_block (HS.out.block pr hprl (fun e => e))).trans d2
    by_cases hlt : k < L.length
    · have hki : (k : Int) < (L.length : Int) := by omega
      have hown := HJ.out.own.st HS.out (Dj.no _)
      obtain ⟨y, rfl⟩ := rowL_some SR.cells_len (by decide) hown k hlt
      have hel := fun j v => rowL_elem SR.cells_len hown k L[k] (List.getElem?_eq_getElem hlt) j v
      have het := filt_take frm L k hlt
      obtain ⟨sa, sc, hvv, _, _, _, _⟩ := (HJ.out.lst L[k] (List.getElem_mem hlt)).form
      have HET := Lib.hid het
      have hfl : ((L.take k).filter (fun s => !decide (s.key.1 = frm))).length ≤ 65536 := by
        have := List.length_filter_le (fun s : SR => !decide (s.key.1 = frm)) (L.take k)
        rw [List.length_take] at this
        omega
      clear hown het
      generalize L[k] = s at *
      obtain ⟨⟨k1, k2⟩, age, sv, l⟩ := s
      simp only at hvv
      subst hvv
      have c0 : wr.cell? (y.add (k * 4)) = some (.int .i64 k1) := hel 0 _ (by decide) rfl
      have c1 : wr.cell? ⟨(y.add (k * 4)).block, (y.add (k * 4)).off + 1, none⟩ = some (.int .u64 k2) := hel 1 _ (by decide) rfl
      have c2 : wr.cell? ⟨(y.add (k * 4)).block, (y.add (k * 4)).off + 2, none⟩ = some (.int .i64 (age : Int)) := hel 2 _ (by decide) rfl
      have c3 : wr.cell? ⟨(y.add (k * 4)).block, (y.add (k * 4)).off + 3, none⟩ = some (.slice sa l.length sc) := hel 3 _ (by decide) rfl
      clear hel
      generalize hR : (L.take k).filter (fun s => !decide (s.key.1 = frm)) = R at *
      have HR := Lib.hid hR
      clear hR
      by_cases h1 : k1 = frm
      · subst h1
        go_wp2
        exact ⟨⟨k + 1, V2, by omega, by simp, rfl, by rw [HET.out, if_pos rfl, List.append_nil]; exact HO2, HV2, HS⟩, by simp [intOf]; omega⟩
      · have h1b : (k1 != frm) = true := bne_iff_ne.2 h1
        go_wp2_with (at_builtin; refine wpList_app rfl (.tmp 32) (.tmp 40) 165 rfl 182 ti _ 4 48 Try.underlying165 HTI.out HZ.out HSZ.out HBY.out rfl (by decide) _ R.length (R.flatMap SR.cells) rfl (HO2.out.st (St.alloc' No wr _) (Dj.no _)) (some ⟨wr.heap.size, 0, none⟩) 1 1 (SR.cells ⟨(k1, k2), age, .slice sa l.length sc, l⟩) rfl (srOne wr _ _ _ _ rfl rfl rfl rfl) (fun h => by cases h) (by unfold maxLen; omega) (by omega) ?_; intro v4 w4 ho4 hs4 hn4; have HO4 := Lib.hid ho4; have HS4 := Lib.hid hs4; clear ho4 hs4 hn4)
        refine ⟨⟨k + 1, v4, by omega, by simp, rfl, Lib.hid ?_, Lib.hid ?_, Lib.hid ?_⟩, by simp [intOf]; omega⟩
        · rw [HET.out, if_neg h1, List.length_append, List.flatMap_append]
          simpa using HO4.out
        · intro q hq
          rcases HS4.out.new q hq with h | h
          · exact HV2.out q h
          · have := HS.out.size; simp at h; omega
        · exact (HS.out.then (new1 wr _)).thenN HS4.out (fun q hq => HV2.out q hq)
    · obtain rfl : k = L.length := by omega
      rw [List.take_length] at HO2
      have hs1 : St No w (fpV V2) wr := by
        have h1 := HS.out
        exact ⟨h1.os, h1.tape, h1.output, h1.size, fun q hq hn => h1.block q hq (fun e => e), fun q hq => .inr (HV2.out q hq)⟩
      have HRL := Lib.hid (HJ.out.relist (ss' := L.filter (fun s => !decide (s.key.1 = frm))) (List.filter_sublist.map _) hs1 HO2.out)
      have hfz := (HJ.out.ob.move (hs1.block pr hprl (fun e => e))).free 2
      obtain ⟨na, nc, rfl, _, _, _, _⟩ := HO2.out.form
      have hlf := List.length_filter_le (fun s : SR => !decide (s.key.1 = frm)) L
      have hw64 : wrap64 ((L.length : Int) - ((L.filter (fun s => !decide (s.key.1 = frm))).length : Int)) = (L.length : Int) - ((L.filter (fun s => !decide (s.key.1 = frm))).length : Int) := by unfold wrap64; omega
      clear hs1
      go_wp2
      go_ret2
      have hrf : (L.filter (fun s => !decide (s.key.1 = frm))).map SR.pl = rForget frm rs := by
        unfold rForget
        rw [← HPL.out, List.filter_map]
        rfl
      have hl1 : (rForget frm rs).length = (L.filter (fun s => !decide (s.key.1 = frm))).length := by rw [← hrf, List.length_map]
      have hl2 : rs.length = L.length := by rw [← HPL.out, List.length_map]
      refine .inr ⟨h255, by rw [hl1, hl2]; first | rfl | simp, _, ⟨_, D, _, HRL.out.1, hrf, fun _ => Iff.rfl⟩, ?_⟩
      have hs := HRL.out.2
      exact ⟨hs.os, hs.tape, hs.output, hs.size, fun q hq hn => hs.block q hq (fun hf => hn ((HF.out q).2 hf)), fun q hq => (hs.new q hq).imp (fun hf => (HF.out q).2 hf) (fun h => h)⟩
end Go.Proofs.Ytoeafacamapofaa
namespace Go.Proofs.Ytoeafacamapofaa
open Go.RowKit
set_option linter.unusedVariables false
set_option linter.unusedSimpArgs false

def SR.older (s : SR) : SR := { s with age := s.age + 1 }
def tickL (ag : Nat) (L : List SR) : List SR := (L.map SR.older).filter (fun s => decide (s.age < ag))
theorem tick_take (ag : Nat) (L : List SR) (k : Nat) (h : k < L.length) : tickL ag (L.take (k + 1)) = tickL ag (L.take k) ++ if L[k].age + 1 < ag then [L[k].older] else [] := by
  unfold tickL
  rw [List.take_succ_eq_append_getElem h, List.map_append, List.filter_append]
  congr 1
  by_cases e : L[k].age + 1 < ag <;> simp [e, SR.older]
theorem tickL_len (ag : Nat) (L : List SR) : (tickL ag L).length ≤ L.length := by
  unfold tickL
  have := List.length_filter_le (fun s : SR => decide (s.age < ag)) (L.map SR.older)
  rw [List.length_map] at this
  exact this
theorem tickL_sub (ag : Nat) (L : List SR) : ((tickL ag L).map SR.vl).Sublist (L.map SR.vl) := by
  unfold tickL
  have h := (List.filter_sublist (p := fun s : SR => decide (s.age < ag)) (l := L.map SR.older)).map SR.vl
  rw [List.map_map] at h
  exact h
theorem tickL_pl (ag : Nat) (L : List SR) : (tickL ag L).map SR.pl = rTick ag (L.map SR.pl) := by
  unfold tickL rTick
  rw [List.map_map, List.filter_map, List.filter_map, List.map_map]
  rfl
def RTickJ (w : World) (F : Nat → Prop) (pr sl ag : Nat) (rs : List RSl) (e : Ending) (w' : World) : Prop :=
  e = .returned (.int .i64 ((rs.length : Int) - ((rTick ag rs).length : Int))) ∧ ∃ F', RJ w' F' pr sl ag (rTick ag rs) ∧ St F w F' w'
set_option maxRecDepth 100000 in
set_option maxHeartbeats 1000000 in
theorem rtick_calls (w : World) (F : Nat → Prop) (pr sl ag : Nat) (hag : ag ≤ 64) (rs : List RSl) (hlen : rs.length ≤ 65536) (hage : ∀ s ∈ rs, s.age < ag) (h : RJ w F pr sl ag rs) :
    Calls Try.prog 92 #[.pointer (some ⟨pr, 0, none⟩)] w (RTickJ w F pr sl ag rs) := by
  obtain ⟨V, D, L, hj, hpl, hF⟩ := h
  have hll : L.length ≤ 65536 := by rw [← hpl] at hlen; simpa using hlen
  have hla : ∀ s ∈ L, s.age < ag := fun s hs => by
    have := hage s.pl (by rw [← hpl]; exact List.mem_map.2 ⟨s, hs, rfl⟩)
    exact this
  have HLA := Lib.hid hla
  obtain ⟨a, c, rfl, _, _, _, _⟩ := hj.own.form
  obtain ⟨ti, hti, hz, hsz, hby⟩ := info_parts rjZero
  have HTI := Lib.hid hti
  have HZ := Lib.hid hz
  have HSZ := Lib.hid hsz
  have HBY := Lib.hid hby
  have HJ := Lib.hid hj
  have HPL := Lib.hid hpl
  have HF := Lib.hid hF
  have hprl := hj.ob.lt
  clear hj hpl hF hti hz hsz hby hlen hage hla
  have d2 : w.cell? ⟨pr, 2, none⟩ = some (.slice a L.length c) := by rw [HJ.out.ob.cell 2]; rfl
  have d1 : w.cell? ⟨pr, 1, none⟩ = some (.int .i64 (ag : Int)) := by rw [HJ.out.ob.cell 1]; rfl
  go_enter Try.func92, Try.ntmps92
  go_wp2_with fail
  go_loopw [3, 4] (fun x t wr => ∃ (k : Nat) (V' : Value), k ≤ L.length ∧ t = .int .i64 k ∧ x = V' ∧ Hid (Own wr 182 4 V' (tickL ag (L.take k)).length ((tickL ag (L.take k)).flatMap SR.cells)) ∧ Hid (∀ q, fpV V' q → w.heap.size ≤ q) ∧ Hid (St No w (Nw w) wr)) (fun _ t _ => L.length - (intOf t).toNat)
  case atStart => exact ⟨0, _, by omega, rfl, rfl, Lib.hid (by simpa [tickL] using Own.nil w _ 4), Lib.hid (fun q hq => by simp [fpV, Value.ownBlock] at hq), Lib.hid (St.refl No w).toNew⟩
  case round =>
    obtain ⟨k, V2, hk, rfl, hxv, HO2, HV2, HS⟩ := hrel
    have hxv' := hxv.symm
    subst hxv'
    clear hxv
    have d2r : wr.cell? ⟨pr, 2, none⟩ = some (.slice a L.length c) := (World.cell?_of_block (HS.out.block pr hprl (fun e => e))).trans d2
    have d1r : wr.cell? ⟨pr, 1, none⟩ = some (.int .i64 (ag : Int)) := (World.cell?_of_block (HS.out.block pr hprl (fun e => e))).trans d1
    by_cases hlt : k < L.length
    · have hki : (k : Int) < (L.length : Int) := by omega
      have hown := HJ.out.own.st HS.out (Dj.no _)
      obtain ⟨y, rfl⟩ := rowL_some SR.cells_len (by decide) hown k hlt
      have hel := fun j v => rowL_elem SR.cells_len hown k L[k] (List.getElem?_eq_getElem hlt) j v
      have het := tick_take ag L k hlt
      obtain ⟨sa, sc, hvv, _, _, _, _⟩ := (HJ.out.lst L[k] (List.getElem_mem hlt)).form
      have hage := HLA.out L[k] (List.getElem_mem hlt)
      have HET := Lib.hid het
      have hfl : (tickL ag (L.take k)).length ≤ 65536 := by
        have := tickL_len ag (L.take k)
        rw [List.length_take] at this
        omega
      clear hown het
      generalize L[k] = s at *
      obtain ⟨⟨k1, k2⟩, age, sv, l⟩ := s
      simp only at hvv hage
      subst hvv
      have c0 : wr.cell? (y.add (k * 4)) = some (.int .i64 k1) := hel 0 _ (by decide) rfl
      have c1 : wr.cell? ⟨(y.add (k * 4)).block, (y.add (k * 4)).off + 1, none⟩ = some (.int .u64 k2) := hel 1 _ (by decide) rfl
      have c2 : wr.cell? ⟨(y.add (k * 4)).block, (y.add (k * 4)).off + 2, none⟩ = some (.int .i64 (age : Int)) := hel 2 _ (by decide) rfl
      have c3 : wr.cell? ⟨(y.add (k * 4)).block, (y.add (k * 4)).off + 3, none⟩ = some (.slice sa l.length sc) := hel 3 _ (by decide) rfl
      clear hel
      generalize hR : tickL ag (L.take k) = R at *
      have HR := Lib.hid hR
      clear hR
      have hprw : pr < wr.heap.size := Nat.lt_of_lt_of_le hprl HS.out.size
      by_cases h1 : age + 1 < ag
      · have h1i : (age : Int) + 1 < (ag : Int) := by omega
        go_wp2_with fail
        go_quiet (fail)
        rename Nat => nqa
        have HST := Lib.hid ((new1 wr (.cells #[.int .i64 k1, .int .u64 k2, .int .i64 ((age : Int) + 1), .slice sa l.length sc] 182)).trans (St.drewN (Nw wr) _ nqa))
        have hox : Ob ((wr.alloc (.cells #[.int .i64 k1, .int .u64 k2, .int .i64 ((age : Int) + 1), .slice sa l.length sc] 182)).drewN nqa) wr.heap.size 182 #[.int .i64 k1, .int .u64 k2, .int .i64 ((age : Int) + 1), .slice sa l.length sc] := (Ob.alloc wr _ _).drewN nqa
        have hzx : ((wr.alloc (.cells #[.int .i64 k1, .int .u64 k2, .int .i64 ((age : Int) + 1), .slice sa l.length sc] 182)).drewN nqa).heap.size = wr.heap.size + 1 := by simp [World.drewN]
        generalize ((wr.alloc (.cells #[.int .i64 k1, .int .u64 k2, .int .i64 ((age : Int) + 1), .slice sa l.length sc] 182)).drewN nqa) = wx at *
        have x0 : wx.cell? ⟨wr.heap.size, 0, none⟩ = some (.int .i64 k1) := by rw [hox.cell 0]; rfl
        have x1 : wx.cell? ⟨wr.heap.size, 1, none⟩ = some (.int .u64 k2) := by rw [hox.cell 1]; rfl
        have x2 : wx.cell? ⟨wr.heap.size, 2, none⟩ = some (.int .i64 ((age : Int) + 1)) := by rw [hox.cell 2]; rfl
        have x3 : wx.cell? ⟨wr.heap.size, 3, none⟩ = some (.slice sa l.length sc) := by rw [hox.cell 3]; rfl
        have HZX := Lib.hid hzx
        clear hox hzx
        go_wp2_with (at_builtin; refine wpList_app rfl (.tmp 36) (.tmp 38) 165 rfl 182 ti _ 4 48 Try.underlying165 HTI.out HZ.out HSZ.out HBY.out rfl (by decide) _ R.length (R.flatMap SR.cells) rfl ((HO2.out.st HST.out (Dj.no _)).st (St.alloc' No wx _) (Dj.no _)) (some ⟨wx.heap.size, 0, none⟩) 1 1 (SR.cells ⟨(k1, k2), age + 1, .slice sa l.length sc, l⟩) rfl (srOne wx _ _ _ _ rfl rfl rfl rfl) (fun h => by cases h) (by unfold maxLen; omega) (by omega) ?_; intro v4 w4 ho4 hs4 hn4; have HO4 := Lib.hid ho4; have HS4 := Lib.hid hs4; clear ho4 hs4 hn4)
        refine ⟨⟨k + 1, v4, by omega, by simp, rfl, Lib.hid ?_, Lib.hid ?_, Lib.hid ?_⟩, by simp [intOf]; omega⟩
        · rw [HET.out, if_pos h1, List.length_append, List.flatMap_append]
          simpa [SR.older] using HO4.out
        · intro q hq
          rcases HS4.out.new q hq with h | h
          · exact HV2.out q h
          · have := HS.out.size
            have := HZX.out
            simp at h
            omega
        · exact ((HS.out.then HST.out).then (new1 wx _)).thenN HS4.out (fun q hq => HV2.out q hq)
      · have h1i : ¬ (age : Int) + 1 < (ag : Int) := by omega
        go_wp2_with fail
        go_quiet (fail)
        rename Nat => nqa
        have HST := Lib.hid ((new1 wr (.cells #[.int .i64 k1, .int .u64 k2, .int .i64 ((age : Int) + 1), .slice sa l.length sc] 182)).trans (St.drewN (Nw wr) _ nqa))
        generalize ((wr.alloc (.cells #[.int .i64 k1, .int .u64 k2, .int .i64 ((age : Int) + 1), .slice sa l.length sc] 182)).drewN nqa) = wx at *
        go_wp2
        refine ⟨⟨k + 1, V2, by omega, by simp, rfl, Lib.hid ?_, HV2, Lib.hid (HS.out.then HST.out)⟩, by simp [intOf]; omega⟩
        rw [HET.out, if_neg h1, List.append_nil]
        exact HO2.out.st HST.out (Dj.no _)
    · obtain rfl : k = L.length := by omega
      rw [List.take_length] at HO2
      have hs1 : St No w (fpV V2) wr := by
        have h1 := HS.out
        exact ⟨h1.os, h1.tape, h1.output, h1.size, fun q hq hn => h1.block q hq (fun e => e), fun q hq => .inr (HV2.out q hq)⟩
      have HRL := Lib.hid (HJ.out.relist (ss' := tickL ag L) (tickL_sub ag L) hs1 HO2.out)
      have hfz := (HJ.out.ob.move (hs1.block pr hprl (fun e => e))).free 2
      obtain ⟨na, nc, rfl, _, _, _, _⟩ := HO2.out.form
      have hlf := tickL_len ag L
      have hw64 : wrap64 ((L.length : Int) - ((tickL ag L).length : Int)) = (L.length : Int) - ((tickL ag L).length : Int) := IntWalk.wrap64_in _ ⟨by omega, by omega⟩
      clear hs1
      go_wp2
      go_ret
      have hrf : (tickL ag L).map SR.pl = rTick ag rs := by rw [tickL_pl, HPL.out]
      have hl1 : (rTick ag rs).length = (tickL ag L).length := by rw [← hrf, List.length_map]
      have hl2 : rs.length = L.length := by rw [← HPL.out, List.length_map]
      refine ⟨by rw [hl1, hl2]; first | rfl | simp, _, ⟨_, D, _, HRL.out.1, hrf, fun _ => Iff.rfl⟩, ?_⟩
      have hs := HRL.out.2
      exact ⟨hs.os, hs.tape, hs.output, hs.size, fun q hq hn => hs.block q hq (fun hf => hn ((HF.out q).2 hf)), fun q hq => (hs.new q hq).imp (fun hf => (HF.out q).2 hf) (fun h => h)⟩
end Go.Proofs.Ytoeafacamapofaa
