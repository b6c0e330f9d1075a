
/-
  The walks over the program's Reader: open, take.
-/
import Derived.Test.YtoeafacamapofaaBytes
import Derived.Deep.Slices
namespace Go.Proofs.Ytoeafacamapofaa
open Go.RowKit
set_option linter.unusedVariables false
set_option linter.unusedSimpArgs false

/-- a reader's state -/
structure RS where
  rest : List B8
  err : Int
/-- a reader in memory; its bytes lie in D -/
def Rr (w : World) (p : Nat) (D : Nat → Prop) (s : RS) : Prop :=
  ∃ a c, Ob w p 203 #[.slice a s.rest.length c, .int .i64 s.err] ∧ Bs w a s.rest ∧ s.rest.length ≤ c ∧ c ≤ maxLen ∧ (a = none → c = 0) ∧ (∀ k, fpA a k → D k)
def fpP (p : Nat) : Nat → Prop := fun k => k = p
theorem Rr.st {w w' : World} {F F' : Nat → Prop} {p : Nat} {D : Nat → Prop} {s : RS} (h : Rr w p D s) (t : St F w F' w') (hp : ¬ F p) (hd : Dj F D) : Rr w' p D s := by
  obtain ⟨a, c, ho, hb, h1, h2, h3, h4⟩ := h
  exact ⟨a, c, ho.move (t.block p ho.lt hp), hb.st t (fun k hk hf => hd k hk (h4 k hf)), h1, h2, h3, h4⟩
/-- a reader's handle, nil or not -/
def Rh (w : World) (v : Value) (th : Bool) (p : Nat) (D : Nat → Prop) (s : RS) : Prop :=
  (th = false ∧ v = .pointer none) ∨ (th = true ∧ v = .pointer (some ⟨p, 0, none⟩) ∧ Rr w p D s ∧ ¬ D p)
theorem Rh.st {w w' : World} {F F' : Nat → Prop} {v : Value} {th : Bool} {p : Nat} {D : Nat → Prop} {s : RS} (h : Rh w v th p D s) (t : St F w F' w') (hp : ¬ F p) (hd : Dj F D) : Rh w' v th p D s := by
  rcases h with h | ⟨h1, h2, h3, h4⟩
  · exact .inl h
  · exact .inr ⟨h1, h2, h3.st t hp hd, h4⟩
/-- it still reads -/
def opens (th : Bool) (s : RS) : Bool := th && decide (s.err = 0)

set_option maxRecDepth 100000 in
theorem open_calls (w : World) (v : Value) (th : Bool) (p : Nat) (D : Nat → Prop) (s : RS) (h : Rh w v th p D s) :
    Calls Try.prog 134 #[v] w fun e w' => e = .returned (.bool (opens th s)) ∧ w = w' := by
  rcases h with ⟨rfl, rfl⟩ | ⟨rfl, rfl, hr, _⟩
  · go_enter Try.func134, Try.ntmps134
    go_wp2
    go_ret
    exact ⟨rfl, rfl⟩
  · obtain ⟨a, c, ho, _⟩ := hr
    have k1 : w.cell? ⟨p, 1, none⟩ = some (.int .i64 s.err) := by rw [ho.cell 1]; rfl
    obtain ⟨rest, err⟩ := s
    simp only at k1
    clear ho
    by_cases he : err = 0
    · subst he
      go_enter Try.func134, Try.ntmps134
      go_wp2
      go_ret
      exact ⟨rfl, rfl⟩
    · have hb : (err == 0) = false := beq_eq_false_iff_ne.2 he
      have hd : decide (err = 0) = false := decide_eq_false he
      have HD := Lib.hid hd
      clear he hd
      go_enter Try.func134, Try.ntmps134
      go_wp2
      go_ret
      exact ⟨by unfold opens; rw [HD.out]; rfl, rfl⟩

/-- what a taking leaves -/
def RS.took (s : RS) (n : Nat) : RS := if s.err = 0 then (if n ≤ s.rest.length then ⟨s.rest.drop n, 0⟩ else ⟨s.rest, 21⟩) else s
def takes (th : Bool) (s : RS) (n : Nat) : Bool := opens th s && decide (n ≤ s.rest.length)
def TakePost (w : World) (v : Value) (th : Bool) (p : Nat) (D : Nat → Prop) (s : RS) (n : Nat) (e : Ending) (w' : World) : Prop :=
  Rh w' v th p D (s.took n) ∧ St (fpP p) w (fpP p) w' ∧
  ((takes th s n = true ∧ ∃ b, e = .returned (.tuple #[.slice b n n, .bool true]) ∧ Bs w' b (s.rest.take n) ∧ (∀ k, fpA b k → D k) ∧ (b = none → n = 0)) ∨
   (takes th s n = false ∧ e = .returned (.tuple #[.slice none 0 0, .bool false])))
theorem Bs.take {w : World} {a : Option Addr} {xs : List B8} (h : Bs w a xs) (n : Nat) : Bs w a (xs.take n) := by
  have := Rd.take h n
  rw [bv_take] at this
  exact this
theorem Bs.drop {w : World} {a : Option Addr} {xs : List B8} (h : Bs w a xs) (n : Nat) : Bs w (a.map (fun x => x.add n)) (xs.drop n) := by
  intro i v hv
  have hv2 : (bv xs)[n + i]? = some v := by
    unfold bv at hv ⊢
    rw [List.getElem?_map, List.getElem?_drop] at hv
    rw [List.getElem?_map]
    exact hv
  obtain ⟨x, rfl, hx⟩ := h (n + i) v hv2
  refine ⟨x.add n, rfl, ?_⟩
  rw [Go.Deep.add_add]
  exact hx
theorem fpA_add {a : Option Addr} {n k : Nat} : fpA (a.map (fun x => x.add n)) k ↔ fpA a k := by
  unfold fpA
  constructor
  · rintro ⟨x, hx, rfl⟩
    cases a with
    | none => cases hx
    | some y => cases hx; exact ⟨y, rfl, (addr_block y n).symm⟩
  · rintro ⟨x, rfl, rfl⟩
    exact ⟨x.add n, rfl, addr_block x n⟩
theorem take_done (w : World) (p : Nat) (D : Nat → Prop) (n : Nat) (rest : List B8) (a : Option Addr) (c : Nat) (a' : Option Addr) (c' : Nat) (ha : (c = n ∧ a' = a ∧ c' = 0) ∨ (a' = a.map (fun x => x.add n) ∧ c' = c - n)) (hle : n ≤ rest.length) (h1 : rest.length ≤ c) (h2 : c ≤ 2 ^ 63 - 1)
    (h3 : a = none → c = 0) (h4 : ∀ k, fpA a k → D k) (hd : ¬ D p) (hb : Bs w a rest) (ho : Ob w p 203 #[.slice a rest.length c, .int .i64 0]) (ht : takes true ⟨rest, 0⟩ n = true)
    {e : Ending} (he : e = .returned (.tuple #[.slice a n n, .bool true])) :
    TakePost w (.pointer (some ⟨p, 0, none⟩)) true p D ⟨rest, 0⟩ n e (w.setCell ⟨p, 0, none⟩ (.slice a' (rest.length - n) c')) := by
  have hfp : ∀ k, fpP p k → ¬ fpA a k := fun k hk hf => hd (by have e : k = p := hk; rw [← e]; exact h4 k hf)
  refine ⟨.inr ⟨rfl, rfl, ?_, hd⟩, St.setCell _ _ _ rfl, .inl ⟨ht, a, he, ?_, h4, fun h => by have := h3 h; omega⟩⟩
  · unfold RS.took
    rw [if_pos rfl, if_pos hle]
    refine ⟨a', c', ?_, ?_, ?_, ?_, ?_, ?_⟩
    · have := ho.set 0 (.slice a' (rest.length - n) c')
      simp only [List.length_drop]
      exact this
    · rcases ha with ⟨rfl, rfl, rfl⟩ | ⟨rfl, rfl⟩
      · have : rest.length = c := by omega
        rw [List.drop_eq_nil_of_le (by show rest.length ≤ c; omega)]
        exact Rd.nil _ _
      · exact (hb.drop n).st (St.setCell (F := fpP p) _ _ _ rfl) (fun k hk hf => hfp k hk (fpA_add.1 hf))
    · simp only [List.length_drop]; rcases ha with ⟨rfl, rfl, rfl⟩ | ⟨rfl, rfl⟩ <;> omega
    · unfold maxLen; rcases ha with ⟨rfl, rfl, rfl⟩ | ⟨rfl, rfl⟩ <;> omega
    · rcases ha with ⟨rfl, rfl, rfl⟩ | ⟨rfl, rfl⟩
      · exact fun _ => rfl
      · intro h; cases a with
        | none => have := h3 rfl; omega
        | some x => cases h
    · rcases ha with ⟨rfl, rfl, rfl⟩ | ⟨rfl, rfl⟩
      · exact h4
      · exact fun k hk => h4 k (fpA_add.1 hk)
  · exact (hb.take n).st (St.setCell (F := fpP p) _ _ _ rfl) hfp
set_option maxRecDepth 100000 in
set_option maxHeartbeats 1000000 in
theorem take_calls (n : Nat) (hn : n ≤ 9223372036854775807) (w : World) (v : Value) (th : Bool) (p : Nat) (D : Nat → Prop) (s : RS) (h : Rh w v th p D s) :
    Calls Try.prog 118 #[v, .int .i64 n] w (TakePost w v th p D s n) := by
  have HO := Lib.hid (open_calls w v th p D s h)
  have HH := Lib.hid h
  cases hop : opens th s with
  | false =>
    rw [hop] at HO
    have HOP := Lib.hid hop
    clear hop h
    go_enter Try.func118, Try.ntmps118
    go_wp2_with fail
    refine HO.out.mono ?_
    rintro e w1 ⟨rfl, rfl⟩
    go_wp2
    go_ret2
    refine ⟨?_, St.refl _ _, .inr ⟨by unfold takes; rw [HOP.out]; rfl, rfl⟩⟩
    rcases HH.out with h | ⟨rfl, h2⟩
    · exact .inl h
    · have he : ¬ s.err = 0 := by have := HOP.out; simpa [opens] using this
      unfold RS.took
      rw [if_neg he]
      exact .inr ⟨rfl, h2⟩
  | true =>
    rw [hop] at HO
    have HOP := Lib.hid hop
    clear hop
    rcases h with ⟨rfl, rfl⟩ | ⟨rfl, rfl, hr, hdp⟩
    · exact absurd HOP.out (by simp [opens])
    · have he : s.err = 0 := by have := HOP.out; simpa [opens] using this
      obtain ⟨rest, err⟩ := s
      simp only at he
      subst he
      obtain ⟨a, c, ho, hb, h1, h2, h3, h4⟩ := hr
      have k0 : w.cell? ⟨p, 0, none⟩ = some (.slice a rest.length c) := by rw [ho.cell 0]; rfl
      have k1 : w.cell? ⟨p, 1, none⟩ = some (.int .i64 0) := by rw [ho.cell 1]; rfl
      have f0 := ho.free 0
      have f1 := ho.free 1
      have HOB := Lib.hid ho
      have HB := Lib.hid hb
      have H3 := Lib.hid h3
      have H4 := Lib.hid h4
      have HDP := Lib.hid hdp
      simp only at h1
      unfold maxLen at h2
      clear ho hb h3 h4 hdp
      by_cases hle : n ≤ rest.length
      · have HT : Hid (takes true ⟨rest, 0⟩ n = true) := Lib.hid (by simp [takes, opens, hle])
        go_enter Try.func118, Try.ntmps118
        go_wp2_with fail
        refine HO.out.mono ?_
        rintro e w1 ⟨rfl, rfl⟩
        go_wp2
        all_goals go_ret2
        all_goals refine take_done w p D n rest a c _ _ (by first | (subst_vars; exact .inl ⟨rfl, rfl, rfl⟩) | exact .inr ⟨rfl, rfl⟩) hle h1 h2 H3.out H4.out HDP.out HB.out ?_ HT.out rfl
        · subst_vars
          exact HOB.out
        · exact HOB.out
      · have HT : Hid (takes true ⟨rest, 0⟩ n = false) := Lib.hid (by simp [takes, opens]; omega)
        have HLE := Lib.hid hle
        go_enter Try.func118, Try.ntmps118
        go_wp2_with fail
        refine HO.out.mono ?_
        rintro e w1 ⟨rfl, rfl⟩
        go_wp2
        go_ret2
        refine ⟨?_, St.setCell _ _ _ rfl, .inr ⟨HT.out, rfl⟩⟩
        unfold RS.took
        rw [if_pos rfl, if_neg HLE.out]
        exact .inr ⟨rfl, rfl, ⟨a, c, HOB.out.set 1 _, HB.out.st (St.setCell (F := fpP p) _ _ _ rfl) (fun k hk hf => HDP.out (by have e : k = p := hk; rw [← e]; exact H4.out k hf)), h1, h2, H3.out, H4.out⟩, HDP.out⟩
end Go.Proofs.Ytoeafacamapofaa
