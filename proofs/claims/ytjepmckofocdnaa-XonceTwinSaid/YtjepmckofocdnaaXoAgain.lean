
/-
  again: what a tick sends to a peer.
-/
import Derived.Test.YtjepmckofocdnaaXoPush
namespace Go.Proofs.Ytjepmckofocdnaa
open Go.RowKit
set_option linter.unusedVariables false
set_option linter.unusedSimpArgs false

/-- is the payload at a place sent again? -/
def askB (mask : BitVec 64) (k : Nat) : Bool := k == 0 || !mask.getLsbD (k - 1)
def againL (adr : Int) (acked : Nat) (mask : BitVec 64) (q : List (List B8)) : Nat → List XM
  | 0 => []
  | k + 1 => againL adr acked mask q k ++ if askB mask k then [xdata adr (acked + 1 + k) (q.getD k [])] else []
def againM (c : PC) (x : XP) : List XM := againL c.adr x.acked x.mask x.queue (min x.queue.length c.win)
/-- mails of the program's own; nothing else turned -/
def MailJ (w : World) (ms : List XM) (e : Ending) (w' : World) : Prop := ∃ V os, e = .returned V ∧ LsO w' V os ∧ os.map OB.pl = ms ∧ St No w (fpL OB.v V os) w'
theorem againL_len (adr : Int) (acked : Nat) (mask : BitVec 64) (q : List (List B8)) : ∀ k, (againL adr acked mask q k).length ≤ k
  | 0 => Nat.le_refl _
  | k + 1 => by
    have := againL_len adr acked mask q k
    unfold againL
    split <;> simp <;> omega
theorem shr_bit (mask : BitVec 64) (k : Nat) : bits .and .u64 ((mask.toNat : Int) / 2 ^ k) 1 = if mask.getLsbD k then 1 else 0 := by
  have e : ((mask.toNat : Int) / 2 ^ k) = ((mask.toNat / 2 ^ k : Nat) : Int) := by simp
  have hm := mask.isLt
  have hl : mask.toNat / 2 ^ k < 18446744073709551616 := Nat.lt_of_le_of_lt (Nat.div_le_self _ _) hm
  rw [e, and1_u64 _ hl, BitVec.getLsbD, Nat.testBit_eq_decide_div_mod_eq]
  by_cases h : mask.toNat / 2 ^ k % 2 = 1
  · simp [h]
  · have h0 : mask.toNat / 2 ^ k % 2 = 0 := by omega
    simp [h0]
theorem outOne (o : OB) (ha : o.v.oneCell' = true) : ∀ u ∈ o.cells, u.oneCell' = true := by
  intro u hu
  simp only [OB.cells, outC, List.mem_cons, List.not_mem_nil, or_false] at hu
  rcases hu with rfl | rfl | rfl | rfl | rfl | rfl | rfl | rfl | rfl | rfl | rfl | rfl | rfl | rfl | rfl | rfl | rfl | rfl <;> first | rfl | exact ha
theorem OB.cells_len (o : OB) : o.cells.length = 18 := rfl
theorem outOb (w : World) (o : OB) : Ob (w.alloc (.cells (outC o.adr o.kind o.seq o.mask o.v) 62)) w.heap.size 62 o.cells.toArray := Ob.alloc w (outC o.adr o.kind o.seq o.mask o.v) _
/-- append of one mail -/
theorem wpList_appO {w : World} {ops : Array Oper} {rest : List Oper} {o : Oper} {ac : Act} {Q : Exit → Act → World → Prop} (hgd : o.guard = none) (a b : Operand)
    (ho : o.op = .call { callee := .builtin .append, args := #[a, b], argTypes := #[49, 49] })
    (V : Value) (os : List OB) (hs : ac.eval a = V) (hown : LsO w V os) (x : OB) (hx : ac.eval b = .slice (some ⟨w.heap.size, 0, none⟩) 1 1) (hv : OwB w x.v x.b) (hd : Dj (fpV x.v) (fpL OB.v V os))
    (hlen : os.length ≤ 4294967296)
    (h : ∀ V' w', LsO w' V' (os ++ [x]) → St (fpV V) (w.alloc (.cells (outC x.adr x.kind x.seq x.mask x.v) 62)) (fpV V') w' → wpList Try.prog ops Q rest (ac.put o.dst V') w') :
    wpList Try.prog ops Q (o :: rest) ac (w.alloc (.cells (outC x.adr x.kind x.seq x.mask x.v) 62)) :=
  wpList_appL 49 infO Try.underlying49 (by decide) hgd a b ho V os hs (hown.st (St.alloc' No w _) (Dj.no _)) x _ hx (outOb w x) (OB.cells_len x) (outOne x hv.one) (hv.st (St.alloc' No w _) (Dj.no _)) hd hlen h
/-- the same, the mail's block as the walk spells it -/
theorem wpList_appO2 {w : World} {ops : Array Oper} {rest : List Oper} {o : Oper} {ac : Act} {Q : Exit → Act → World → Prop} (x : OB) (hgd : o.guard = none) (a b : Operand)
    (ho : o.op = .call { callee := .builtin .append, args := #[a, b], argTypes := #[49, 49] })
    (V : Value) (os : List OB) (hs : ac.eval a = V) (hown : LsO w V os) (hx : ac.eval b = .slice (some ⟨w.heap.size, 0, none⟩) 1 1) (hv : OwB w x.v x.b) (hd : Dj (fpV x.v) (fpL OB.v V os))
    (hlen : os.length ≤ 4294967296)
    (h : ∀ V' w', LsO w' V' (os ++ [x]) → St (fpV V) (w.alloc (.cells (outC x.adr x.kind x.seq x.mask x.v) 62)) (fpV V') w' → wpList Try.prog ops Q rest (ac.put o.dst V') w') :
    wpList Try.prog ops Q (o :: rest) ac (w.alloc (.cells (Array.foldl (fun (cs : Array Value) x => cs.setIfInBounds x.snd x.fst) #[.int .u8 0, .int .u8 0, .int .u64 0, .int .u64 0, .int .u64 0, .slice none 0 0, .slice none 0 0, .bool false, .int .u8 0, .int .u8 0, .int .u8 0, .int .u32 0, .int .u32 0, .int .u64 0, .int .u8 0, .slice none 0 0, .slice none 0 0, .slice none 0 0] (outC x.adr x.kind x.seq x.mask x.v).zipIdx 0 18) 62)) := by
  rw [outFold]
  exact wpList_appO hgd a b ho V os hs hown x hx hv hd hlen h
set_option maxRecDepth 100000 in
set_option maxHeartbeats 2000000 in
theorem again_calls (w : World) (F : Nat → Prop) (p : Nat) (c : PC) (x : XP) (h : Pr w F p c x) (hok : x.Ok c) :
    Calls Try.prog 57 #[.pointer (some ⟨p, 0, none⟩)] w (MailJ w (againM c x)) := by
  obtain ⟨Vq, Ve, qs, es, hm, hq, he, rfl⟩ := h
  have hqlen : x.queue.length = qs.length := by rw [hq, List.length_map]
  have hql := hok.ql
  have hrm := hok.rm
  have hwn := hok.wn
  have hse := hok.se
  have hqs := hok.qs
  have hqb := hok.qb
  obtain ⟨qa, qc, rfl, _, _, _, _⟩ := hm.lq.own.form
  have H := Lib.hid hm
  have HM : Hid (againM c x = againL c.adr x.acked x.mask (qs.map (·.b)) (min qs.length c.win)) := Lib.hid (by unfold againM; rw [hq, List.length_map])
  have HQB : Hid (∀ b ∈ qs, b.b.length ≤ 3072) := Lib.hid (fun b hb => (of_decide_eq_true (hqb b.b (by rw [hq]; exact List.mem_map.2 ⟨b, hb, rfl⟩)) : 1 ≤ b.b.length ∧ b.b.length ≤ 3072).2)
  generalize againM c x = ms at *
  rw [hqlen] at hql hqs
  clear hm hq he hok hqb
  go_enter Try.func57, Try.ntmps57
  go_wp2
  go_loopw [3, 4] (fun V i wr => ∃ (k : Nat) (os : List OB), k ≤ min qs.length c.win ∧ i = .int .i64 k ∧ Hid (LsO wr V os) ∧ Hid (os.map OB.pl = againL c.adr x.acked x.mask (qs.map (·.b)) k) ∧ Hid (St No w (fpL OB.v V os) wr)) (fun _ i _ => min qs.length c.win - (intOf i).toNat)
  case atStart => exact ⟨0, [], by omega, rfl, Lib.hid (LsG.nil _), Lib.hid rfl, Lib.hid ((St.refl No _).drop (fun k hk => (fpL_nil hk).elim))⟩
  case round =>
    obtain ⟨k, os, hk, rfl, HO, HE, HS⟩ := hrel
    have HR := Lib.hid (H.out.st HS.out (Dj.no _))
    obtain ⟨d0, d1, d2, d3, d4, d5, d6, d7, d8, d9, d10, -⟩ := HR.out.ob.n11
    by_cases hlt : k < min qs.length c.win
    · have hmi : (k : Int) < min (qs.length : Int) (c.win : Int) := by omega
      have hkl : (k : Int) < (qs.length : Int) := by omega
      have hnm : k < qs.length := by omega
      have hqk := List.getElem?_eq_getElem hnm
      obtain ⟨sq, HSQ⟩ : ∃ sq, Hid (sq = x.acked + 1 + k) := ⟨_, Lib.hid rfl⟩
      have HDT : ∀ W, Hid (PrM W p c x.sent x.acked x.mask x.delivered (.slice qa qs.length qc) Ve qs es) → Calls Try.prog 85 #[.pointer (some ⟨p, 0, none⟩), .int .i64 k] W (DataJ W c.adr sq qs[k].b) := fun W HW => by
        rw [HSQ.out]
        exact data_calls W p c x.sent x.acked x.mask x.delivered _ Ve qs es HW.out k qs[k] hqk (HQB.out _ (List.getElem_mem hnm)) (by omega)
      have HGD : Hid ((qs.map (·.b)).getD k [] = qs[k].b) := Lib.hid (by rw [List.getD_eq_getElem?_getD, List.getElem?_map, hqk]; rfl)
      generalize qs[k] = bk at *
      have HOL : Hid (os.length ≤ 4294967296) := Lib.hid (by have h1 := congrArg List.length HE.out; rw [List.length_map] at h1; have h2 := againL_len c.adr x.acked x.mask (qs.map (·.b)) k; omega)
      by_cases ha : askB x.mask k = true
      · have HEN : Hid (∀ v, (os ++ [(⟨c.adr, 10, sq, 0, v, bk.b⟩ : OB)]).map OB.pl = againL c.adr x.acked x.mask (qs.map (·.b)) (k + 1)) := Lib.hid (fun v => by rw [List.map_append, HE.out, HSQ.out]; show _ = againL _ _ _ _ k ++ _; rw [if_pos ha, HGD.out]; rfl)
        cases k with
        | zero =>
          go_wp2_with fail
          go_quiet (fail)
          go_wp2_with fail
          refine (HDT _ (Lib.hid (HR.out.st (St.drewN No wr _) (Dj.no _)))).mono ?_
          rintro e w1 ⟨v1, rfl, ho1, hs1⟩
          have hs1' := (St.drewN No wr nq).trans hs1
          obtain ⟨a1, c1, rfl, _, _, _, _⟩ := ho1.form
          have hsz : (outC c.adr 10 (sq) (0#64) (.slice a1 bk.b.length c1)).size = 18 := rfl
          have HO1 := Lib.hid ho1
          have HS1 := Lib.hid hs1'
          have HL1 := Lib.hid (HO.out.st hs1' (Dj.no _))
          have HDJ : Hid (Dj (fpV (.slice a1 bk.b.length c1)) (fpL OB.v u3 os)) := Lib.hid (fun k a b => absurd (HO.out.in k b) (Nat.not_lt.2 (hs1'.news k a)))
          clear ho1 hs1 hs1'
          go_wp2_with (at_builtin; refine wpList_appO2 (⟨c.adr, 10, sq, 0, .slice a1 bk.b.length c1, bk.b⟩ : OB) rfl (.tmp 32) (.tmp 36) rfl u3 os rfl HL1.out rfl HO1.out HDJ.out HOL.out ?_; intro V3 w3 hg3 hs3; have HG3 := Lib.hid hg3; have HS3 := Lib.hid hs3; clear hg3 hs3)
          go_roundw
          case rel => exact ⟨1, os ++ [⟨c.adr, 10, sq, 0, .slice a1 bk.b.length c1, bk.b⟩], by omega, by go_num, HG3, Lib.hid (HEN.out _), Lib.hid (HS.out.trans (fpL_app (x := (⟨c.adr, 10, sq, 0, .slice a1 bk.b.length c1, bk.b⟩ : OB)) (St.refl No _) (HS1.out.trans (St.alloc' (fpV (.slice a1 bk.b.length c1)) _ _)) HS3.out))⟩
          case measure => simp [intOf]; omega
        | succ j =>
          have wj : IntKind.i64.wrap (((j + 1 : Nat) : Int) - 1) = (j : Int) := by rw [IntWalk.i64_in _ (by omega)]; omega
          have wj2 : IntKind.i64.wrap ((j : Int) + 1 - 1) = (j : Int) := by rw [IntWalk.i64_in _ (by omega)]; omega
          have hbit : bits .and .u64 ((x.mask.toNat : Int) / 2 ^ j) 1 = 0 := by
            have hg : x.mask.getLsbD j = false := by simpa [askB] using ha
            rw [shr_bit, hg]; rfl
          clear ha
          go_wp2_with fail
          go_quiet (fail)
          go_wp2_with fail
          refine (HDT _ (Lib.hid (HR.out.st (St.drewN No wr _) (Dj.no _)))).mono ?_
          rintro e w1 ⟨v1, rfl, ho1, hs1⟩
          have hs1' := (St.drewN No wr nq).trans hs1
          obtain ⟨a1, c1, rfl, _, _, _, _⟩ := ho1.form
          have hsz : (outC c.adr 10 (sq) (0#64) (.slice a1 bk.b.length c1)).size = 18 := rfl
          have HO1 := Lib.hid ho1
          have HS1 := Lib.hid hs1'
          have HL1 := Lib.hid (HO.out.st hs1' (Dj.no _))
          have HDJ : Hid (Dj (fpV (.slice a1 bk.b.length c1)) (fpL OB.v u3 os)) := Lib.hid (fun k a b => absurd (HO.out.in k b) (Nat.not_lt.2 (hs1'.news k a)))
          clear ho1 hs1 hs1'
          go_wp2_with (at_builtin; refine wpList_appO2 (⟨c.adr, 10, sq, 0, .slice a1 bk.b.length c1, bk.b⟩ : OB) rfl (.tmp 32) (.tmp 36) rfl u3 os rfl HL1.out rfl HO1.out HDJ.out HOL.out ?_; intro V3 w3 hg3 hs3; have HG3 := Lib.hid hg3; have HS3 := Lib.hid hs3; clear hg3 hs3)
          go_roundw
          case rel => exact ⟨j + 1 + 1, os ++ [⟨c.adr, 10, sq, 0, .slice a1 bk.b.length c1, bk.b⟩], by omega, by go_num, HG3, Lib.hid (HEN.out _), Lib.hid (HS.out.trans (fpL_app (x := (⟨c.adr, 10, sq, 0, .slice a1 bk.b.length c1, bk.b⟩ : OB)) (St.refl No _) (HS1.out.trans (St.alloc' (fpV (.slice a1 bk.b.length c1)) _ _)) HS3.out))⟩
          case measure => simp [intOf]; omega
      · obtain ⟨j, rfl⟩ : ∃ j, k = j + 1 := ⟨k - 1, by
          cases k with
          | zero => exact absurd rfl ha
          | succ j => rfl⟩
        have HEN : Hid (os.map OB.pl = againL c.adr x.acked x.mask (qs.map (·.b)) (j + 1 + 1)) := Lib.hid (by rw [HE.out]; show _ = againL _ _ _ _ (j + 1) ++ _; rw [if_neg ha, List.append_nil])
        have wj : IntKind.i64.wrap (((j + 1 : Nat) : Int) - 1) = (j : Int) := by rw [IntWalk.i64_in _ (by omega)]; omega
        have wj2 : IntKind.i64.wrap ((j : Int) + 1 - 1) = (j : Int) := by rw [IntWalk.i64_in _ (by omega)]; omega
        have hbit : bits .and .u64 ((x.mask.toNat : Int) / 2 ^ j) 1 = 1 := by
          have hg : x.mask.getLsbD j = true := by simpa [askB] using ha
          rw [shr_bit, hg]; rfl
        clear ha
        go_wp2_with fail
        go_quiet (fail)
        go_wp2
        exact ⟨⟨j + 1 + 1, os, by omega, by go_num, HO.out.st (St.drewN No wr _) (Dj.no _) |> Lib.hid, HEN, Lib.hid (HS.out.trans (St.drewN _ _ _))⟩, by simp [intOf]; omega⟩
    · have hmi : ¬ (k : Int) < min (qs.length : Int) (c.win : Int) := by omega
      obtain rfl : k = min qs.length c.win := by omega
      go_wp2_with fail
      go_quiet (fail)
      go_wp2
      go_ret
      exact ⟨_, os, rfl, HO.out.st (St.drewN No wr _) (Dj.no _), by rw [HE.out, HM.out], HS.out.trans (St.drewN _ _ _)⟩
end Go.Proofs.Ytjepmckofocdnaa
