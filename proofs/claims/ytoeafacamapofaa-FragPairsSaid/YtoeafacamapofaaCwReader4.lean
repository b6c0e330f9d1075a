
/-
  The walks over the program's Reader: NewReader, Err, Left, Done, Fail, Raw.
  The walks over the program's Reader: NewReader, Raw, Flag.
-/
import Derived.Test.YtoeafacamapofaaCwReader2
import Derived.Test.YtoeafacamapofaaCwWriter4
namespace Go.Proofs.Ytoeafacamapofaa
open Go.RowKit
set_option linter.unusedVariables false
set_option linter.unusedSimpArgs false

theorem Rr.open {w : World} {p : Nat} {D : Nat → Prop} {s : RS} (h : Rr w p D s) : ∃ a c, w.cell? ⟨p, 0, none⟩ = some (.slice a s.rest.length c) ∧ w.cell? ⟨p, 1, none⟩ = some (.int .i64 s.err) ∧ w.frozen? ⟨p, 0, none⟩ = false ∧ w.frozen? ⟨p, 1, none⟩ = false ∧
    Bs w a s.rest ∧ s.rest.length ≤ c ∧ c ≤ 9223372036854775807 ∧ (a = none → c = 0) ∧ (∀ k, fpA a k → D k) ∧ Ob w p 203 #[.slice a s.rest.length c, .int .i64 s.err] := by
  obtain ⟨a, c, ho, hb, h1, h2, h3, h4⟩ := h
  exact ⟨a, c, by rw [ho.cell 0]; rfl, by rw [ho.cell 1]; rfl, ho.free 0, ho.free 1, hb, h1, by unfold maxLen at h2; omega, h3, h4, ho⟩
theorem Rr.setErr {w : World} {p : Nat} {D : Nat → Prop} {s : RS} (h : Rr w p D s) (hd : ¬ D p) (e : Int) : Rr (w.setCell ⟨p, 1, none⟩ (.int .i64 e)) p D ⟨s.rest, e⟩ := by
  obtain ⟨a, c, ho, hb, h1, h2, h3, h4⟩ := h
  exact ⟨a, c, ho.set 1 _, hb.st (St.setCell (F := fpP p) _ _ _ rfl) (fun k hk hf => hd (by have e : k = p := hk; rw [← e]; exact h4 k hf)), h1, h2, h3, h4⟩
/-- the error that is told -/
def errR (th : Bool) (s : RS) : Int := if th then s.err else 1
/-- how many bytes are left -/
def leftR (th : Bool) (s : RS) : Nat := if th then s.rest.length else 0
def doneR (th : Bool) (s : RS) : Int := if errR th s = 0 then (if s.rest.length = 0 then 0 else 26) else errR th s
/-- an error that stands from now on -/
def RS.fail (s : RS) (n : Int) : RS := if s.err = 0 then ⟨s.rest, n⟩ else s
def FailPost (w : World) (v : Value) (th : Bool) (p : Nat) (D : Nat → Prop) (s : RS) (n : Int) (e : Ending) (w' : World) : Prop := e = .returned (.tuple #[]) ∧ Rh w' v th p D (s.fail n) ∧ St (fpP p) w (fpP p) w'
set_option maxRecDepth 100000 in
theorem rFail2_calls (n : Int) (w : World) (v : Value) (th : Bool) (p : Nat) (D : Nat → Prop) (s : RS) (h : Rh w v th p D s) :
    Calls Try.prog 117 #[v, .int .i64 n] w (FailPost w v th p D s n) := by
  rcases h with ⟨rfl, rfl⟩ | ⟨rfl, rfl, hr, hdp⟩
  · go_enter Try.func117, Try.ntmps117
    go_wp2
    go_end0
    exact ⟨rfl, .inl ⟨rfl, rfl⟩, St.refl _ _⟩
  · obtain ⟨a, c, k0, k1, f0, f1, _⟩ := hr.open
    have HR := Lib.hid hr
    have HDP := Lib.hid hdp
    clear hr hdp
    by_cases he : s.err = 0
    · have HE := Lib.hid he
      rw [he] at k1
      clear he
      go_enter Try.func117, Try.ntmps117
      go_wp2
      go_end0
      exact ⟨rfl, .inr ⟨rfl, rfl, (by unfold RS.fail; rw [if_pos HE.out]; exact HR.out.setErr HDP.out n), HDP.out⟩, St.setCell _ _ _ rfl⟩
    · have hb : (s.err == 0) = false := beq_eq_false_iff_ne.2 he
      have HE := Lib.hid he
      clear he
      go_enter Try.func117, Try.ntmps117
      go_wp2
      go_end0
      exact ⟨rfl, .inr ⟨rfl, rfl, (by unfold RS.fail; rw [if_neg HE.out]; exact HR.out), HDP.out⟩, St.refl _ _⟩
end Go.Proofs.Ytoeafacamapofaa
namespace Go.Proofs.Ytoeafacamapofaa
open Go.RowKit
set_option linter.unusedVariables false
set_option linter.unusedSimpArgs false

def NewRdPost (w : World) (bs : List B8) (e : Ending) (w' : World) : Prop :=
  ∃ v p D, e = .returned (.tuple #[v, .int .i64 (if bs.length ≤ 16777216 then 0 else 28)]) ∧ Rh w' v (decide (bs.length ≤ 16777216)) p D ⟨bs, 0⟩ ∧ Lo w.heap.size D ∧ In D w' ∧ w.heap.size ≤ p ∧ St No w No w'
set_option maxRecDepth 100000 in
set_option maxHeartbeats 1000000 in
theorem newReader_calls (a : Option Addr) (c : Nat) (bs : List B8) (w : World) (hb : Bs w a bs) :
    Calls Try.prog 80 #[.slice a bs.length c] w (NewRdPost w bs) := by
  have HB := Lib.hid hb
  clear hb
  by_cases hle : bs.length ≤ 16777216
  · have HLE := Lib.hid hle
    go_enter Try.func80, Try.ntmps80
    go_wp2_with (first
      | (at_make; refine wpList_makeB rfl (.tmp 9) (.tmp 9) rfl .i64 .i64 (bs.length : Int) (bs.length : Int) bs.length bs.length rfl rfl rfl rfl (Nat.le_refl _) (by omega) ?_; intro w1 ho1 hob1 hs1; have HO1 := Lib.hid ho1; have HS1 := Lib.hid hs1; clear ho1 hob1 hs1)
      | (refine wpList_copyB rfl (.tmp 11) (.tmp 12) rfl w.heap.size bs.length bs.length (List.replicate bs.length 0#8) rfl HO1.out (by simp) a bs.length c bs rfl rfl (HB.out.st HS1.out (Dj.no _)) (by simp) ?_; intro w2 ho2 hs2; have HO2 := Lib.hid ho2; have HS2 := Lib.hid hs2; clear ho2 hs2))
    go_ret2
    have hbb : Bs w2 (some ⟨w.heap.size, 0, none⟩) bs := by
      have := HO2.out
      rw [List.drop_eq_nil_of_le (by simp), List.append_nil] at this
      exact this.bs
    have hst : St No w No w2 := ((HS1.out.trans (HS2.out.wide (F' := fpV (.slice (some ⟨w.heap.size, 0, none⟩) bs.length bs.length)) (fun k hk => by subst hk; simp [fpV, Value.ownBlock]) (fun _ h => .inr h)))).drop (fun _ h => h.elim)
    have hsz : w.heap.size < w2.heap.size := HO2.out.in _ (by simp [fpV, Value.ownBlock])
    refine ⟨.pointer (some ⟨w2.heap.size, 0, none⟩), w2.heap.size, fun k => k = w.heap.size, by rw [if_pos HLE.out]; rfl, ?_, ?_, ?_, by omega, hst.trans (St.alloc' No w2 _)⟩
    · refine .inr ⟨decide_eq_true HLE.out, rfl, ⟨some ⟨w.heap.size, 0, none⟩, bs.length, Ob.alloc w2 _ _, hbb.st (St.alloc' No w2 _) (Dj.no _), Nat.le_refl _, by unfold maxLen; have := HLE.out; omega, (fun h => by cases h), ?_⟩, ?_⟩
      · rintro k ⟨x, hx, rfl⟩; cases hx; rfl
      · show ¬ w2.heap.size = w.heap.size; omega
    · rintro k rfl; exact Nat.le_refl _
    · rintro k rfl; simp; omega
  · have HLE := Lib.hid hle
    go_enter Try.func80, Try.ntmps80
    go_wp2
    go_ret2
    exact ⟨.pointer none, w.heap.size, No, by rw [if_neg HLE.out]; rfl, .inl ⟨decide_eq_false HLE.out, rfl⟩, fun _ h => h.elim, fun _ h => h.elim, Nat.le_refl _, St.refl _ _⟩

/-- the bytes that are taken, and the reader behind it -/
def rawB (th : Bool) (s : RS) (n : Int) : List B8 := if n < 0 then [] else if takes th s n.toNat then s.rest.take n.toNat else []
def RS.raw (s : RS) (n : Int) : RS := if n < 0 then s.fail 2 else s.took n.toNat
def RawPost (w : World) (v : Value) (th : Bool) (p : Nat) (D : Nat → Prop) (s : RS) (n : Int) (e : Ending) (w' : World) : Prop :=
  ∃ V, e = .returned V ∧ OwB w' V (rawB th s n) ∧ Rh w' v th p D (s.raw n) ∧ St (fpP p) w (fun k => fpP p k ∨ fpV V k) w' ∧ (∀ k, fpV V k → w.heap.size ≤ k)
set_option maxRecDepth 100000 in
set_option maxHeartbeats 1000000 in
theorem rRaw2_calls (n : Int) (hn : n ≤ 9223372036854775807) (w : World) (v : Value) (th : Bool) (p : Nat) (D : Nat → Prop) (hD : In D w) (hp : th = true → p < w.heap.size) (s : RS) (hl : s.rest.length ≤ 140737488351232) (h : Rh w v th p D s) :
    Calls Try.prog 81 #[v, .int .i64 n] w (RawPost w v th p D s n) := by
  have HH := Lib.hid h
  clear h
  by_cases hneg : n < 0
  · have HNEG := Lib.hid hneg
    go_enter Try.func81, Try.ntmps81
    go_wp2_with fail
    refine (rFail2_calls 2 w v th p D s HH.out).mono ?_
    rintro e w1 ⟨rfl, h1, h2⟩
    have H1 := Lib.hid h1
    have H2 := Lib.hid h2
    clear h1 h2
    go_wp2
    go_ret
    refine ⟨.slice none 0 0, rfl, ?_, ?_, H2.out.drop (fun k hk => ?_), fun k hk => by simp [fpV, Value.ownBlock] at hk⟩
    · unfold rawB; rw [if_pos HNEG.out]; exact Own.nil _ _ _
    · unfold RS.raw; rw [if_pos HNEG.out]; exact H1.out
    · rcases hk with hk | hk
      · exact .inl hk
      · simp [fpV, Value.ownBlock] at hk
  · obtain ⟨m, rfl⟩ := Int.eq_ofNat_of_zero_le (Int.not_lt.1 hneg)
    have HNEG := Lib.hid hneg
    have HD := Lib.hid hD
    have HP := Lib.hid hp
    clear hneg hD hp
    go_enter Try.func81, Try.ntmps81
    go_wp2_with fail
    refine (take_calls m (by omega) w v th p D s HH.out).mono ?_
    rintro e w1 ⟨hr, hs, hc⟩
    have HR := Lib.hid hr
    have HS := Lib.hid hs
    obtain ⟨b, xs, rfl, hbs, hxs, hbn, hxl⟩ : ∃ b xs, e = .returned (.tuple #[.slice b xs.length xs.length, .bool (takes th s m)]) ∧ Bs w1 b xs ∧ rawB th s (m : Int) = xs ∧ (b = none → xs.length = 0) ∧ xs.length ≤ 140737488351232 := by
      rcases hc with ⟨ht, b, rfl, hb, _, hn0⟩ | ⟨ht, rfl⟩
      · have hlen : (s.rest.take m).length = m := by
          have := ht; simp [takes] at this; simp; omega
        refine ⟨b, s.rest.take m, by rw [hlen, ht], hb, ?_, fun h => by rw [hlen]; exact hn0 h, by simp; omega⟩
        unfold rawB
        rw [if_neg (by omega : ¬ (m : Int) < 0), Int.toNat_natCast, if_pos ht]
      · refine ⟨none, [], by rw [ht]; rfl, Rd.nil _ _, ?_, fun _ => rfl, by simp⟩
        unfold rawB
        rw [if_neg (by omega : ¬ (m : Int) < 0), Int.toNat_natCast, if_neg (by rw [ht]; simp)]
    have HBS := Lib.hid hbs
    have HXS := Lib.hid hxs
    have HBN := Lib.hid hbn
    generalize takes th s m = tk at *
    clear hr hs hc hbs hxs hbn
    go_wp2_with (at_builtin; refine wpList_appB rfl (.const (.slice none 0 0)) (.tmp 17) rfl _ [] rfl (Own.nil _ _ _) b xs.length xs.length xs rfl rfl HBS.out HBN.out (by simp; omega) ?_; intro V w2 ho2 hs2 hn2; have HO2 := Lib.hid ho2; have HS2 := Lib.hid hs2; clear ho2 hs2 hn2)
    go_ret
    have hno : ∀ k, ¬ fpV (.slice none 0 0) k := fun k hk => by simp [fpV, Value.ownBlock] at hk
    have hst2 : St No w1 (fpV V) w2 := HS2.out.wide (F' := No) (fun k hk => hno k hk) (fun k hk => .inr hk)
    refine ⟨V, rfl, ?_, ?_, ?_, ?_⟩
    · rw [HXS.out]; exact HO2.out
    · unfold RS.raw; rw [if_neg (by omega : ¬ (m : Int) < 0), Int.toNat_natCast]; exact HR.out.st hst2 (fun h => h) (Dj.no _)
    · exact HS.out.trans (hst2.wide (F' := fpP p) (G' := fun k => fpP p k ∨ fpV V k) (fun _ h => h.elim) (fun k hk => hk))
    · exact fun k hk => (hst2.new k hk).elim (fun h => h.elim) (fun h => Nat.le_trans HS.out.size h)
end Go.Proofs.Ytoeafacamapofaa
