
/-
  Things: their values, their bytes; the walk over the reference's Bytes.
-/
import Derived.Test.YtfhoekcmkbeabaaCwRefB
namespace Go.Proofs.Ytfhoekcmkbeabaa
open Go.RowKit
set_option linter.unusedVariables false
set_option linter.unusedSimpArgs false

/-- a thing, or a step -/
structure Th where
  kind : Int
  n : BitVec 64
  i : Int
  f : Bool
  a : Option Addr
  c : Nat
  bs : List B8
def Th.cells (t : Th) : Array Value := #[.int .i64 t.kind, .int .u64 (t.n.toNat : Int), .int .i64 t.i, .bool t.f, .slice t.a t.bs.length t.c]
structure Th.ok (w : World) (t : Th) : Prop where
  ilo : -9223372036854775808 ≤ t.i
  ihi : t.i ≤ 9223372036854775807
  len : t.bs.length ≤ 140737488351232
  nil : t.a = none → t.c = 0
  rd : Bs w t.a t.bs
theorem Th.ok.st {w w' : World} {t : Th} {F F' : Nat → Prop} (h : t.ok w) (s : St F w F' w') (hd : Apart F t.a t.bs) : t.ok w' := ⟨h.ilo, h.ihi, h.len, h.nil, h.rd.stA s hd⟩
/-- what a thing is laid down as -/
def Th.bytes (t : Th) : List B8 :=
  if t.kind = 1 then beTo t.n 1 1 else if t.kind = 2 then beTo t.n 2 2 else if t.kind = 3 then beTo t.n 4 4 else if t.kind = 4 then beTo t.n 8 8
  else if t.kind = 5 then groupsB t.n.toNat else if t.kind = 6 then groupsB (zig t.i) else if t.kind = 7 then [flagB t.f] else if t.kind = 8 then t.bs
  else groupsB t.bs.length ++ t.bs
/-- a value's bytes in new memory -/
def BPost (w : World) (bs : List B8) (e : Ending) (w' : World) : Prop := ∃ v, e = .returned v ∧ OwB w' v bs ∧ St No w (fpV v) w'
theorem BPost.after {w W w' : World} {G : Nat → Prop} {bs : List B8} {e : Ending} (st : St No w G W) (h : BPost W bs e w') : BPost w bs e w' := by
  obtain ⟨v, he, ho, hs⟩ := h
  exact ⟨v, he, ho, (st.then hs).drop (fun k hk => .inr ((hs.new k hk).elim (fun h => h.elim) (fun h => Nat.le_trans st.size h)))⟩

set_option maxRecDepth 100000 in
set_option maxHeartbeats 400000 in
theorem bytes_def (kind : Int) (n : BitVec 64) (i : Int) (f : Bool) (a : Option Addr) (c : Nat) (bs : List B8) (w : World) (HS0 : Hid (St No w No (w.alloc (.cells (Th.cells ⟨kind, n, i, f, a, c, bs⟩) 51))))
    (HB : Hid (Bs (w.alloc (.cells (Th.cells ⟨kind, n, i, f, a, c, bs⟩) 51)) a bs)) (hlen : bs.length ≤ 140737488351232)
    (h1 : ¬ kind = 1) (h2 : ¬ kind = 2) (h3 : ¬ kind = 3) (h4 : ¬ kind = 4) (h5 : ¬ kind = 5) (h6 : ¬ kind = 6) (h7 : ¬ kind = 7) (h8 : ¬ kind = 8) :
    Calls Try.prog 68 #[.agg #[.int .i64 kind, .int .u64 (n.toNat : Int), .int .i64 i, .bool f, .slice a bs.length c]] w (BPost w (groupsB bs.length ++ bs)) := by
  have e1 : (kind == 1) = false := beq_eq_false_iff_ne.2 h1
  have e2 : (kind == 2) = false := beq_eq_false_iff_ne.2 h2
  have e3 : (kind == 3) = false := beq_eq_false_iff_ne.2 h3
  have e4 : (kind == 4) = false := beq_eq_false_iff_ne.2 h4
  have e5 : (kind == 5) = false := beq_eq_false_iff_ne.2 h5
  have e6 : (kind == 6) = false := beq_eq_false_iff_ne.2 h6
  have e7 : (kind == 7) = false := beq_eq_false_iff_ne.2 h7
  have e8 : (kind == 8) = false := beq_eq_false_iff_ne.2 h8
  clear h1 h2 h3 h4 h5 h6 h7 h8
  have hX : IntKind.u64.wrap ((bs.length : Nat) : Int) = ((BitVec.ofNat 64 bs.length).toNat : Int) := by rw [BitVec.toNat_ofNat, Nat.mod_eq_of_lt (by omega), wrap_u64]; omega
  have hXn : (BitVec.ofNat 64 bs.length).toNat = bs.length := by rw [BitVec.toNat_ofNat, Nat.mod_eq_of_lt (by omega)]
  have HX := Lib.hid hX
  have HXN := Lib.hid hXn
  have hgl := groupsB_len bs.length
  have HGL := Lib.hid hgl
  generalize hgs : groupsB bs.length = gs at *
  have HGS := Lib.hid hgs
  clear hX hXn hgl hgs
  go_enter Try.func68, Try.ntmps68
  go_wp2
  go_region_held3 (fun w' => w'.cell? ⟨w.heap.size, 4, none⟩ = some (.slice a bs.length c)) (go_keep)
    (first
      | (go_at_call 103; refine (refGroups_calls (BitVec.ofNat 64 bs.length) _ HX.out _).mono ?_; rintro e w1 ⟨v1, rfl, ho1, hs1⟩; rw [HXN.out, HGS.out] at ho1; obtain ⟨a1, c1, rfl, hc1, hc2, hfp, hn1⟩ := ho1.form; have HO1 := Lib.hid ho1; have HS1 := Lib.hid hs1; have hk1 : w1.cell? ⟨w.heap.size, 4, none⟩ = some (.slice a bs.length c) := (World.cell?_of_block (hs1.block w.heap.size (by simp) (fun h => h))).trans (by simp); clear ho1 hs1 hc1 hc2 hfp hn1)
      | (go_at_call 82; refine (join2_calls a1 c1 gs a c bs (by have := HGL.out; omega) w1 HO1.out.bs (HB.out.drew.st HS1.out (Dj.no _))).mono ?_; rintro e w2 ⟨v2, rfl, ho2, hs2⟩; have HO2 := Lib.hid ho2; have HS2 := Lib.hid hs2; have hk2 : w2.cell? ⟨w.heap.size, 4, none⟩ = some (.slice a bs.length c) := (World.cell?_of_block (hs2.block w.heap.size (by have := HS1.out.size; simp at this; omega) (fun h => h))).trans hk1; clear ho2 hs2))
  all_goals go_wp2
  all_goals go_ret
  all_goals exact BPost.after ((HS0.out.trans (St.drew No _)).then HS1.out) ⟨_, rfl, HO2.out, HS2.out⟩

set_option maxRecDepth 100000 in
set_option maxHeartbeats 4000000 in
theorem bytes_calls (t : Th) (w : World) (ht : t.ok w) :
    Calls Try.prog 68 #[.agg t.cells] w (BPost w t.bytes) := by
  obtain ⟨kind, n, i, f, a, c, bs⟩ := t
  have hs0 := St.alloc' No w (.cells (Th.cells ⟨kind, n, i, f, a, c, bs⟩) 51)
  have HS0 := Lib.hid hs0
  have HB := Lib.hid (ht.rd.st hs0 (Dj.no _))
  have hlen := ht.len
  have hilo := ht.ilo
  have hihi := ht.ihi
  simp only at hlen hilo hihi
  clear hs0 ht
  unfold Th.bytes Th.cells
  simp only
  by_cases h1 : kind = 1
  · subst h1
    show Calls _ _ _ _ (BPost w (beTo n 1 1))
    go_enter Try.func68, Try.ntmps68
    go_wp2_with fail
    refine (digits_calls n 1 (by omega) _).mono ?_
    rintro e w1 ⟨v, rfl, ho, hs⟩
    have HQ : Hid (BPost w (beTo n 1 1) (.returned v) w1) := Lib.hid (BPost.after HS0.out ⟨v, rfl, ho, hs⟩)
    clear ho hs
    go_wp2
    go_ret
    exact HQ.out
  by_cases h2 : kind = 2
  · subst h2
    clear h1
    show Calls _ _ _ _ (BPost w (beTo n 2 2))
    go_enter Try.func68, Try.ntmps68
    go_wp2_with fail
    refine (digits_calls n 2 (by omega) _).mono ?_
    rintro e w1 ⟨v, rfl, ho, hs⟩
    have HQ : Hid (BPost w (beTo n 2 2) (.returned v) w1) := Lib.hid (BPost.after HS0.out ⟨v, rfl, ho, hs⟩)
    clear ho hs
    go_wp2
    go_ret
    exact HQ.out
  by_cases h3 : kind = 3
  · subst h3
    clear h1 h2
    show Calls _ _ _ _ (BPost w (beTo n 4 4))
    go_enter Try.func68, Try.ntmps68
    go_wp2_with fail
    refine (digits_calls n 4 (by omega) _).mono ?_
    rintro e w1 ⟨v, rfl, ho, hs⟩
    have HQ : Hid (BPost w (beTo n 4 4) (.returned v) w1) := Lib.hid (BPost.after HS0.out ⟨v, rfl, ho, hs⟩)
    clear ho hs
    go_wp2
    go_ret
    exact HQ.out
  by_cases h4 : kind = 4
  · subst h4
    clear h1 h2 h3
    show Calls _ _ _ _ (BPost w (beTo n 8 8))
    go_enter Try.func68, Try.ntmps68
    go_wp2_with fail
    refine (digits_calls n 8 (by omega) _).mono ?_
    rintro e w1 ⟨v, rfl, ho, hs⟩
    have HQ : Hid (BPost w (beTo n 8 8) (.returned v) w1) := Lib.hid (BPost.after HS0.out ⟨v, rfl, ho, hs⟩)
    clear ho hs
    go_wp2
    go_ret
    exact HQ.out
  by_cases h5 : kind = 5
  · subst h5
    clear h1 h2 h3 h4
    show Calls _ _ _ _ (BPost w (groupsB n.toNat))
    go_enter Try.func68, Try.ntmps68
    go_wp2_with fail
    refine (refGroups_calls n _ rfl _).mono ?_
    rintro e w1 ⟨v, rfl, ho, hs⟩
    have HQ : Hid (BPost w (groupsB n.toNat) (.returned v) w1) := Lib.hid (BPost.after HS0.out ⟨v, rfl, ho, hs⟩)
    clear ho hs
    go_wp2
    go_ret
    exact HQ.out
  by_cases h6 : kind = 6
  · subst h6
    clear h1 h2 h3 h4 h5
    show Calls _ _ _ _ (BPost w (groupsB (zig i)))
    have hzl := zig_lt i hilo hihi
    have hz : (zig i : Int) = ((BitVec.ofNat 64 (zig i)).toNat : Int) := by rw [BitVec.toNat_ofNat, Nat.mod_eq_of_lt (by omega)]
    have hz2 : (BitVec.ofNat 64 (zig i)).toNat = zig i := by rw [BitVec.toNat_ofNat, Nat.mod_eq_of_lt (by omega)]
    have HZ := Lib.hid hz
    have HZ2 := Lib.hid hz2
    have HF := Lib.hid (fold_calls i hilo hihi)
    clear hz hz2 hzl
    generalize zig i = z at *
    go_enter Try.func68, Try.ntmps68
    go_wp2_with fail
    refine (HF.out _).mono ?_
    rintro e w1 ⟨rfl, rfl⟩
    go_wp2_with fail
    refine (refGroups_calls (BitVec.ofNat 64 z) _ HZ.out _).mono ?_
    rintro e w1 ⟨v, rfl, ho, hs⟩
    rw [HZ2.out] at ho
    have HQ : Hid (BPost w (groupsB z) (.returned v) w1) := Lib.hid (BPost.after HS0.out ⟨v, rfl, ho, hs⟩)
    clear ho hs
    go_wp2
    go_ret
    exact HQ.out
  by_cases h7 : kind = 7
  · subst h7
    clear h1 h2 h3 h4 h5 h6
    show Calls _ _ _ _ (BPost w ([flagB f]))
    cases f
    · go_enter Try.func68, Try.ntmps68
      go_wp2
      go_ret
      refine BPost.after HS0.out ⟨_, rfl, ?_, (St.alloc No _ _).drop (fun k hk => .inr (.inr (by simpa [fpV, Value.ownBlock] using hk.symm)))⟩
      exact ⟨by simp [bv, flagB], .inr ⟨_, 1, #[.int .u8 0], rfl, Nat.zero_le _, heap_alloc2_new w _ _, by simp, by unfold maxLen; omega, rfl, rfl⟩⟩
    · go_enter Try.func68, Try.ntmps68
      go_wp2
      go_ret
      refine BPost.after HS0.out ⟨_, rfl, ?_, (St.alloc No _ _).drop (fun k hk => .inr (.inr (by simpa [fpV, Value.ownBlock] using hk.symm)))⟩
      exact ⟨by simp [bv, flagB], .inr ⟨_, 1, #[.int .u8 1], rfl, Nat.zero_le _, heap_alloc2_new w _ _, by simp, by unfold maxLen; omega, rfl, rfl⟩⟩
  by_cases h8 : kind = 8
  · subst h8
    clear h1 h2 h3 h4 h5 h6 h7
    show Calls _ _ _ _ (BPost w (bs))
    go_enter Try.func68, Try.ntmps68
    go_wp2_with fail
    refine (join2_calls none 0 [] a c bs (by simp; omega) _ (Rd.nil _ _) HB.out).mono ?_
    rintro e w1 ⟨v, rfl, ho, hs⟩
    rw [List.nil_append] at ho
    have HQ : Hid (BPost w bs (.returned v) w1) := Lib.hid (BPost.after HS0.out ⟨v, rfl, ho, hs⟩)
    clear ho hs
    go_wp2
    go_ret
    exact HQ.out
  rw [if_neg h1]
  rw [if_neg h2]
  rw [if_neg h3]
  rw [if_neg h4]
  rw [if_neg h5]
  rw [if_neg h6]
  rw [if_neg h7]
  rw [if_neg h8]
  exact bytes_def kind n i f a c bs w HS0 HB hlen h1 h2 h3 h4 h5 h6 h7 h8

end Go.Proofs.Ytfhoekcmkbeabaa
