
/-
  Both Joiners, nil or not, side by side: their calls.
-/
import Derived.Test.YtoeafacamapofaaRjTell
import Derived.Test.YtoeafacamapofaaRjTick
import Derived.Test.YtoeafacamapofaaJnTick
import Derived.Test.YtoeafacamapofaaJnRest
import Derived.Test.YtoeafacamapofaaJnFew
import Derived.Test.YtoeafacamapofaaJnSpoil
namespace Go.Proofs.Ytoeafacamapofaa
open Go.RowKit
set_option linter.unusedVariables false
set_option linter.unusedSimpArgs false

theorem rtake_calls (w : World) (F : Nat → Prop) (pr sl ag : Nat) (rs : List RSl) (hlen : rs.length ≤ 65536) (hok : ∀ r ∈ rs, r.l ≠ [] ∧ r.l.length < 128) (hsl : 1 ≤ sl) (frm : Int) (h : RJ w F pr sl ag rs) (a : Option Addr) (c : Nat) (d : List B8) (hd : d.length ≤ 140737488351300) (hlc : d.length ≤ c) (hcm : c ≤ maxLen) (ha : Bs w a d) :
    Calls Try.prog 91 #[.pointer (some ⟨pr, 0, none⟩), .int .i64 frm, .slice a d.length c] w (RTakeJ w F pr sl ag (rTake sl rs frm d)) := by
  by_cases he : frm = 255 ∨ lookE d ≠ 0 ∨ (lookF d).count = 1
  · exact rtake_early w F pr sl ag rs frm h a c d hd hlc hcm ha he
  · have h255 : frm ≠ 255 := fun e => he (.inl e)
    have hE : lookE d = 0 := Classical.not_not.1 (fun e => he (.inr (.inl e)))
    have hC : (lookF d).count ≠ 1 := fun e => he (.inr (.inr e))
    by_cases hat : atT (frm, ((lookF d).id.toNat : Int)) rs rs.length < 0
    · have e : rTake sl rs frm d = ⟨[], false, 0, rOpen sl rs (frm, ((lookF d).id.toNat : Int)) (lookF d)⟩ := by
        unfold rTake
        rw [if_neg h255, if_neg (by simp [hE]), if_neg hC, if_pos hat]
      rw [e]
      refine (rtake_open w F pr sl ag rs hlen frm h a c d hd hlc hcm ha h255 hE hC hat hsl).mono ?_
      rintro e w1 ⟨rfl, F', h1, h2⟩
      exact ⟨_, F', rfl, OwB.nil _, h1, h2.drop (fun k hk => by
        rcases hk with hk | hk
        · exact .inr hk
        · simp [fpV, Value.ownBlock] at hk), fun k hk => by simp [fpV, Value.ownBlock] at hk⟩
    · obtain ⟨i, hi⟩ : ∃ i : Nat, atT (frm, ((lookF d).id.toNat : Int)) rs rs.length = (i : Int) := ⟨(atT (frm, ((lookF d).id.toNat : Int)) rs rs.length).toNat, by omega⟩
      have e : rTake sl rs frm d = rAdd rs i (lookF d) := by
        unfold rTake
        rw [if_neg h255, if_neg (by simp [hE]), if_neg hC, if_neg hat, hi, Int.toNat_natCast]
      rw [e]
      exact rtake_add w F pr sl ag rs hlen hok frm h a c d hd hlc hcm ha h255 hE hC i hi
-- the nil ones
set_option maxRecDepth 100000 in
theorem jtake_nil (u : Int) (V : Value) (w : World) : Calls Try.prog 55 #[.pointer none, .int .u8 u, V] w fun e w' => e = .returned (.tuple #[.slice none 0 0, .bool false, .int .i64 1]) ∧ St No w No w' := by
  go_enter Try.func55, Try.ntmps55
  go_wp2
  go_ret3
  exact ⟨rfl, St.refl _ _⟩
set_option maxRecDepth 100000 in
theorem rtake_nil (u : Int) (V : Value) (w : World) : Calls Try.prog 91 #[.pointer none, .int .i64 u, V] w fun e w' => e = .returned (.tuple #[.slice none 0 0, .bool false, .int .i64 1]) ∧ St No w No w' := by
  go_enter Try.func91, Try.ntmps91
  go_wp2
  go_ret3
  exact ⟨rfl, St.refl _ _⟩
set_option maxRecDepth 100000 in
theorem jtick_nil (w : World) : Calls Try.prog 56 #[.pointer none] w fun e w' => e = .returned (.int .i64 0) ∧ St No w No w' := by
  go_enter Try.func56, Try.ntmps56
  go_wp2
  go_ret
  exact ⟨rfl, St.alloc' No w _⟩
set_option maxRecDepth 100000 in
theorem rtick_nil (w : World) : Calls Try.prog 92 #[.pointer none] w fun e w' => e = .returned (.int .i64 0) ∧ St No w No w' := by
  go_enter Try.func92, Try.ntmps92
  go_wp2
  go_ret
  exact ⟨rfl, St.refl _ _⟩
set_option maxRecDepth 100000 in
theorem jforget_nil (u : Int) (w : World) : Calls Try.prog 59 #[.pointer none, .int .u8 u] w fun e w' => e = .returned (.tuple #[.int .i64 0, .int .i64 1]) ∧ St No w No w' := by
  go_enter Try.func59, Try.ntmps59
  go_wp2
  go_ret2
  exact ⟨rfl, St.alloc' No w _⟩
set_option maxRecDepth 100000 in
theorem rforget_nil (u : Int) (w : World) : Calls Try.prog 93 #[.pointer none, .int .i64 u] w fun e w' => e = .returned (.tuple #[.int .i64 0, .int .i64 1]) ∧ St No w No w' := by
  go_enter Try.func93, Try.ntmps93
  go_wp2
  go_ret2
  exact ⟨rfl, St.refl _ _⟩
set_option maxRecDepth 100000 in
theorem jslots_nil (w : World) : Calls Try.prog 51 #[.pointer none] w fun e w' => e = .returned (.slice none 0 0) ∧ St No w No w' := by
  go_enter Try.func51, Try.ntmps51
  go_wp2
  go_ret
  exact ⟨rfl, St.refl _ _⟩
set_option maxRecDepth 100000 in
theorem rtell_nil (w : World) : Calls Try.prog 53 #[.pointer none] w fun e w' => e = .returned (.slice none 0 0) ∧ St No w No w' := by
  go_enter Try.func53, Try.ntmps53
  go_wp2
  go_ret
  exact ⟨rfl, St.refl _ _⟩
-- nil or not
def JX (w : World) (F : Nat → Prop) (jv : Value) (sl ag : Nat) : Option (List PS) → Prop
  | none => jv = .pointer none ∧ ∀ k, ¬ F k
  | some ss => ∃ pj, jv = .pointer (some ⟨pj, 0, none⟩) ∧ Jn w F pj sl ag ss
def RX (w : World) (F : Nat → Prop) (kv : Value) (sl ag : Nat) : Option (List RSl) → Prop
  | none => kv = .pointer none ∧ ∀ k, ¬ F k
  | some rs => ∃ pr, kv = .pointer (some ⟨pr, 0, none⟩) ∧ RJ w F pr sl ag rs
structure TX (α : Type) where
  out : List B8
  whole : Bool
  er : Int
  st : Option α
def takeX (sl : Nat) (st : Option (List PS)) (frm : Int) (d : List B8) : TX (List PS) :=
  match st with
  | none => ⟨[], false, 1, none⟩
  | some ss => ⟨(takeP sl ss frm d).out, (takeP sl ss frm d).whole, (takeP sl ss frm d).er, some (takeP sl ss frm d).ss⟩
def rTakeX (sl : Nat) (st : Option (List RSl)) (frm : Int) (d : List B8) : TX (List RSl) :=
  match st with
  | none => ⟨[], false, 1, none⟩
  | some ss => ⟨(rTake sl ss frm d).out, (rTake sl ss frm d).whole, (rTake sl ss frm d).er, some (rTake sl ss frm d).rs⟩
/-- both hold the same, as it may be -/
def Alike (sl ag : Nat) : Option (List PS) → Option (List RSl) → Prop
  | none, none => True
  | some ss, some rs => Rel ss rs ∧ Sane sl ag ss
  | _, _ => False
theorem RelS.ok {s : PS} {r : RSl} (h : RelS s r) : r.l ≠ [] ∧ r.l.length < 128 := by
  refine ⟨h.ne, ?_⟩
  obtain ⟨g, t, hl⟩ := List.exists_cons_of_ne_nil h.ne
  have h1 := h.same g (by rw [hl]; simp)
  have h2 := h.few
  have h3 := h1.2.2.1.2.2.2.1
  have h4 := h1.2.1
  omega
theorem Rel.ok {ss : List PS} {rs : List RSl} (h : Rel ss rs) : ∀ r ∈ rs, r.l ≠ [] ∧ r.l.length < 128 := by
  intro r hr
  obtain ⟨i, hi⟩ := List.getElem?_of_mem hr
  have hl := (List.getElem?_eq_some_iff.1 hi).1
  exact (h.each i (ss[i]'(by rw [h.len]; exact hl)) r (List.getElem?_eq_getElem _) hi).ok
theorem Rel.ages {ss : List PS} {rs : List RSl} (h : Rel ss rs) {sl ag : Nat} (hs : Sane sl ag ss) : ∀ r ∈ rs, r.age < ag := by
  intro r hr
  obtain ⟨i, hi⟩ := List.getElem?_of_mem hr
  have hl := (List.getElem?_eq_some_iff.1 hi).1
  have h1 := h.each i (ss[i]'(by rw [h.len]; exact hl)) r (List.getElem?_eq_getElem _) hi
  have h2 := hs.age _ (List.getElem_mem (l := ss) (n := i) (by rw [h.len]; exact hl))
  have := h1.age
  omega
theorem Alike.take {sl ag : Nat} (hsl : 1 ≤ sl) (hag : 1 ≤ ag) {st : Option (List PS)} {rt : Option (List RSl)} (h : Alike sl ag st rt) {frm : Int} (hf : 0 ≤ frm ∧ frm ≤ 255) (d : List B8) :
    (takeX sl st frm d).out = (rTakeX sl rt frm d).out ∧ (takeX sl st frm d).whole = (rTakeX sl rt frm d).whole ∧ (takeX sl st frm d).er = (rTakeX sl rt frm d).er ∧ Alike sl ag (takeX sl st frm d).st (rTakeX sl rt frm d).st := by
  cases st <;> cases rt
  · exact ⟨rfl, rfl, rfl, trivial⟩
  · exact h.elim
  · exact h.elim
  · have h1 := h.1.take hsl frm d
    exact ⟨h1.1, h1.2.1, h1.2.2.1, h1.2.2.2, h.2.take hsl hag hf d⟩
def XOut (w : World) (F : Nat → Prop) (X : World → (Nat → Prop) → Prop) (out : List B8) (whole : Bool) (er : Int) (e : Ending) (w' : World) : Prop :=
  ∃ V F', e = .returned (.tuple #[V, .bool whole, .int .i64 er]) ∧ OwB w' V out ∧ X w' F' ∧ St F w (fun k => F' k ∨ fpV V k) w' ∧ Dj F' (fpV V)
theorem nil_xout {w w' : World} {F : Nat → Prop} {X : World → (Nat → Prop) → Prop} (hF : ∀ k, ¬ F k) (hX : X w' F) (s : St No w No w') : XOut w F X [] false 1 (.returned (.tuple #[.slice none 0 0, .bool false, .int .i64 1])) w' := by
  refine ⟨_, F, rfl, OwB.nil _, hX, s.wide (fun _ h => h.elim) (fun k hk => ?_), fun k hk => absurd hk (hF k)⟩
  rcases hk with hk | hk
  · exact .inl hk
  · simp [fpV, Value.ownBlock] at hk
theorem jtakeX (st : Option (List PS)) (jv : Value) (sl ag : Nat) (h16 : sl ≤ 16) (hss : ∀ ss, st = some ss → Sane sl ag ss) (w : World) (F : Nat → Prop) (h : JX w F jv sl ag st) (frm : Int) (hfr : 0 ≤ frm ∧ frm ≤ 255) (a : Option Addr) (c : Nat) (d : List B8) (hl : d.length ≤ 140737488351300) (hlc : d.length ≤ c) (hcm : c ≤ maxLen) (ha : Bs w a d) :
    Calls Try.prog 55 #[jv, .int .u8 frm, .slice a d.length c] w (XOut w F (fun w' F' => JX w' F' jv sl ag (takeX sl st frm d).st) (takeX sl st frm d).out (takeX sl st frm d).whole (takeX sl st frm d).er) := by
  cases st with
  | none =>
    obtain ⟨rfl, hF⟩ := h
    refine (jtake_nil frm _ w).mono ?_
    rintro e w' ⟨rfl, s⟩
    exact nil_xout hF ⟨rfl, hF⟩ s
  | some ss =>
    obtain ⟨pj, rfl, hj⟩ := h
    refine (jtake_calls a c d hl hlc hcm w ha frm hfr F pj sl ag ss ((hss ss rfl).few4 h16) hj).mono ?_
    rintro e w' ⟨V, F', rfl, h1, h2, h3, h4⟩
    exact ⟨V, F', rfl, h1, ⟨pj, rfl, h2⟩, h3, h4⟩
theorem rtakeX (st : Option (List PS)) (rt : Option (List RSl)) (kv : Value) (sl ag : Nat) (hsl : 1 ≤ sl) (h16 : sl ≤ 16) (hss : Alike sl ag st rt) (w : World) (F : Nat → Prop) (h : RX w F kv sl ag rt) (frm : Int) (a : Option Addr) (c : Nat) (d : List B8) (hl : d.length ≤ 140737488351300) (hlc : d.length ≤ c) (hcm : c ≤ maxLen) (ha : Bs w a d) :
    Calls Try.prog 91 #[kv, .int .i64 frm, .slice a d.length c] w (XOut w F (fun w' F' => RX w' F' kv sl ag (rTakeX sl rt frm d).st) (rTakeX sl rt frm d).out (rTakeX sl rt frm d).whole (rTakeX sl rt frm d).er) := by
  cases rt with
  | none =>
    obtain ⟨rfl, hF⟩ := h
    refine (rtake_nil frm _ w).mono ?_
    rintro e w' ⟨rfl, s⟩
    exact nil_xout hF ⟨rfl, hF⟩ s
  | some rs =>
    cases st with
    | none => exact hss.elim
    | some ss =>
      obtain ⟨pr, rfl, hj⟩ := h
      refine (rtake_calls w F pr sl ag rs (by have := hss.1.len; have := hss.2.few4 h16; omega) hss.1.ok hsl frm hj a c d hl hlc hcm ha).mono ?_
      rintro e w' ⟨V, F', rfl, h1, h2, h3, h4⟩
      exact ⟨V, F', rfl, h1, ⟨pr, rfl, h2⟩, h3, h4.symm⟩
/-- a number comes back, and both stay alike -/
def NumJ (w : World) (F : Nat → Prop) (X : World → (Nat → Prop) → Prop) (v : Value) (e : Ending) (w' : World) : Prop := e = .returned v ∧ ∃ F', X w' F' ∧ St F w F' w'
def tickX (ag : Nat) : Option (List PS) → Option (List PS) := Option.map (tickP ag)
def rTickX (ag : Nat) : Option (List RSl) → Option (List RSl) := Option.map (rTick ag)
def tickNX (ag : Nat) : Option (List PS) → Int
  | none => 0
  | some ss => (ss.length : Int) - ((tickP ag ss).length : Int)
theorem jtickX (st : Option (List PS)) (jv : Value) (sl ag : Nat) (h16 : sl ≤ 16) (hag : ag ≤ 64) (hss : ∀ ss, st = some ss → Sane sl ag ss) (w : World) (F : Nat → Prop) (h : JX w F jv sl ag st) :
    Calls Try.prog 56 #[jv] w (NumJ w F (fun w' F' => JX w' F' jv sl ag (tickX ag st)) (.int .i64 (tickNX ag st))) := by
  cases st with
  | none =>
    obtain ⟨rfl, hF⟩ := h
    refine (jtick_nil w).mono ?_
    rintro e w' ⟨rfl, s⟩
    exact ⟨rfl, F, ⟨rfl, hF⟩, s.wide (fun _ h => h.elim) (fun k hk => .inl hk)⟩
  | some ss =>
    obtain ⟨pj, rfl, hj⟩ := h
    refine (tick_calls w F pj sl ag ss (by have := (hss ss rfl).few4 h16; omega) hag (hss ss rfl).age hj).mono ?_
    rintro e w' ⟨rfl, F', h1, h2⟩
    exact ⟨rfl, F', ⟨pj, rfl, h1⟩, h2⟩
theorem rtickX (st : Option (List PS)) (rt : Option (List RSl)) (kv : Value) (sl ag : Nat) (h16 : sl ≤ 16) (hag : ag ≤ 64) (hss : Alike sl ag st rt) (w : World) (F : Nat → Prop) (h : RX w F kv sl ag rt) :
    Calls Try.prog 92 #[kv] w (NumJ w F (fun w' F' => RX w' F' kv sl ag (rTickX ag rt)) (.int .i64 (tickNX ag st))) := by
  cases rt with
  | none =>
    cases st with
    | some ss => exact hss.elim
    | none =>
    obtain ⟨rfl, hF⟩ := h
    refine (rtick_nil w).mono ?_
    rintro e w' ⟨rfl, s⟩
    exact ⟨rfl, F, ⟨rfl, hF⟩, s.wide (fun _ h => h.elim) (fun k hk => .inl hk)⟩
  | some rs =>
    cases st with
    | none => exact hss.elim
    | some ss =>
      obtain ⟨pr, rfl, hj⟩ := h
      refine (rtick_calls w F pr sl ag hag rs (by have := hss.1.len; have := hss.2.few4 h16; omega) (hss.1.ages hss.2) hj).mono ?_
      rintro e w' ⟨rfl, F', h1, h2⟩
      have e1 := hss.1.len
      have e2 := (hss.1.tick ag).len
      exact ⟨by unfold tickNX; simp only; rw [e1, e2], F', ⟨pr, rfl, h1⟩, h2⟩
theorem Alike.tick {sl ag : Nat} {st : Option (List PS)} {rt : Option (List RSl)} (h : Alike sl ag st rt) : Alike sl ag (tickX ag st) (rTickX ag rt) := by
  cases st <;> cases rt
  · trivial
  · exact h.elim
  · exact h.elim
  · exact ⟨h.1.tick ag, h.2.tick⟩
def forgetX (frm : Int) : Option (List PS) → Option (List PS)
  | none => none
  | some ss => some (if frm = 255 then ss else keepP (fun y => decide (y.1 = frm)) ss)
def rForgetX (frm : Int) : Option (List RSl) → Option (List RSl)
  | none => none
  | some rs => some (if frm = 255 then rs else rForget frm rs)
def forgetNX (frm : Int) : Option (List PS) → Int
  | none => 0
  | some ss => if frm = 255 then 0 else (ss.length : Int) - ((keepP (fun y => decide (y.1 = frm)) ss).length : Int)
def forgetEX (frm : Int) : Option (List PS) → Int
  | none => 1
  | some ss => if frm = 255 then 45 else 0
theorem jforgetX (st : Option (List PS)) (jv : Value) (sl ag : Nat) (h16 : sl ≤ 16) (hss : ∀ ss, st = some ss → Sane sl ag ss) (w : World) (F : Nat → Prop) (h : JX w F jv sl ag st) (frm : Int) :
    Calls Try.prog 59 #[jv, .int .u8 frm] w (NumJ w F (fun w' F' => JX w' F' jv sl ag (forgetX frm st)) (.tuple #[.int .i64 (forgetNX frm st), .int .i64 (forgetEX frm st)])) := by
  cases st with
  | none =>
    obtain ⟨rfl, hF⟩ := h
    refine (jforget_nil frm w).mono ?_
    rintro e w' ⟨rfl, s⟩
    exact ⟨rfl, F, ⟨rfl, hF⟩, s.wide (fun _ h => h.elim) (fun k hk => .inl hk)⟩
  | some ss =>
    obtain ⟨pj, rfl, hj⟩ := h
    refine (forget_calls w frm F pj sl ag ss (by have := (hss ss rfl).few4 h16; omega) hj).mono ?_
    rintro e w' (⟨h0, rfl, h1, h2⟩ | ⟨h0, rfl, F', h1, h2⟩)
    · refine ⟨?_, F, ?_, h2⟩
      · unfold forgetNX forgetEX
        simp only
        rw [if_pos h0, if_pos h0]
      · refine ⟨pj, rfl, ?_⟩
        rw [if_pos h0]
        exact h1
    · refine ⟨?_, F', ?_, h2⟩
      · unfold forgetNX forgetEX
        simp only
        rw [if_neg h0, if_neg h0]
      · refine ⟨pj, rfl, ?_⟩
        rw [if_neg h0]
        exact h1
theorem rforgetX (st : Option (List PS)) (rt : Option (List RSl)) (kv : Value) (sl ag : Nat) (h16 : sl ≤ 16) (hss : Alike sl ag st rt) (w : World) (F : Nat → Prop) (h : RX w F kv sl ag rt) (frm : Int) :
    Calls Try.prog 93 #[kv, .int .i64 frm] w (NumJ w F (fun w' F' => RX w' F' kv sl ag (rForgetX frm rt)) (.tuple #[.int .i64 (forgetNX frm st), .int .i64 (forgetEX frm st)])) := by
  cases rt with
  | none =>
    cases st with
    | some ss => exact hss.elim
    | none =>
    obtain ⟨rfl, hF⟩ := h
    refine (rforget_nil frm w).mono ?_
    rintro e w' ⟨rfl, s⟩
    exact ⟨rfl, F, ⟨rfl, hF⟩, s.wide (fun _ h => h.elim) (fun k hk => .inl hk)⟩
  | some rs =>
    cases st with
    | none => exact hss.elim
    | some ss =>
      obtain ⟨pr, rfl, hj⟩ := h
      refine (rforget_calls w frm F pr sl ag rs (by have := hss.1.len; have := hss.2.few4 h16; omega) hj).mono ?_
      have e1 := hss.1.len
      have e2 := (hss.1.forget frm).len
      rintro e w' (⟨h0, rfl, rfl⟩ | ⟨h0, rfl, F', h1, h2⟩)
      · refine ⟨?_, F, ?_, St.refl _ _⟩
        · unfold forgetNX forgetEX
          simp only
          rw [if_pos h0, if_pos h0]
        · refine ⟨pr, rfl, ?_⟩
          rw [if_pos h0]
          exact hj
      · refine ⟨?_, F', ?_, h2⟩
        · unfold forgetNX forgetEX
          simp only
          rw [if_neg h0, if_neg h0, e1, e2]
        · refine ⟨pr, rfl, ?_⟩
          rw [if_neg h0]
          exact h1
theorem Alike.forget {sl ag : Nat} {st : Option (List PS)} {rt : Option (List RSl)} (h : Alike sl ag st rt) (frm : Int) : Alike sl ag (forgetX frm st) (rForgetX frm rt) := by
  cases st <;> cases rt
  · trivial
  · exact h.elim
  · exact h.elim
  · unfold forgetX rForgetX
    by_cases h0 : frm = 255
    · simp only
      rw [if_pos h0, if_pos h0]
      exact h
    · simp only
      rw [if_neg h0, if_neg h0]
      exact ⟨h.1.forget frm, h.2.keep _⟩
def tellX : Option (List PS) → List FS
  | none => []
  | some ss => tellP ss
def ListJ (w : World) (E : TypeId) (C : FS → List Value) (L : List FS) (e : Ending) (w' : World) : Prop := ∃ V, e = .returned V ∧ Own w' E 5 V L.length (L.flatMap C) ∧ St No w (fpV V) w'
theorem jslotsX (st : Option (List PS)) (jv : Value) (sl ag : Nat) (h16 : sl ≤ 16) (hss : ∀ ss, st = some ss → Sane sl ag ss) (w : World) (F : Nat → Prop) (h : JX w F jv sl ag st) :
    Calls Try.prog 51 #[jv] w (ListJ w 109 FS.cells (tellX st)) := by
  cases st with
  | none =>
    obtain ⟨rfl, hF⟩ := h
    refine (jslots_nil w).mono ?_
    rintro e w' ⟨rfl, s⟩
    exact ⟨_, rfl, Own.nil _ _ _, s.drop (fun k hk => by simp [fpV, Value.ownBlock] at hk)⟩
  | some ss =>
    obtain ⟨pj, rfl, hj⟩ := h
    refine (slots_calls w F pj sl ag ss ((hss ss rfl).few4 h16) hj).mono ?_
    rintro e w' ⟨V, rfl, h1, h2⟩
    exact ⟨V, rfl, h1, h2⟩
theorem rtellX (st : Option (List PS)) (rt : Option (List RSl)) (kv : Value) (sl ag : Nat) (h16 : sl ≤ 16) (hss : Alike sl ag st rt) (w : World) (F : Nat → Prop) (h : RX w F kv sl ag rt) :
    Calls Try.prog 53 #[kv] w (ListJ w 179 rtC (tellX st)) := by
  cases rt with
  | none =>
    cases st with
    | some ss => exact hss.elim
    | none =>
    obtain ⟨rfl, hF⟩ := h
    refine (rtell_nil w).mono ?_
    rintro e w' ⟨rfl, s⟩
    exact ⟨_, rfl, Own.nil _ _ _, s.drop (fun k hk => by simp [fpV, Value.ownBlock] at hk)⟩
  | some rs =>
    cases st with
    | none => exact hss.elim
    | some ss =>
      obtain ⟨pr, rfl, hj⟩ := h
      refine (rtell_calls w F pr sl ag rs (by have := hss.1.len; have := hss.2.few4 h16; omega) hss.1.ok hj).mono ?_
      rintro e w' ⟨V, rfl, h1, h2⟩
      have e1 : rTellTo 255 rs = tellX (some ss) := (hss.1.tell 255).symm
      rw [e1] at h1
      exact ⟨V, rfl, h1, h2⟩
theorem JX.st {w w' : World} {F G G' : Nat → Prop} {jv : Value} {sl ag : Nat} {st : Option (List PS)} (h : JX w F jv sl ag st) (s : St G w G' w') (hd : Dj G F) : JX w' F jv sl ag st := by
  cases st with
  | none => exact h
  | some ss =>
    obtain ⟨pj, rfl, hj⟩ := h
    exact ⟨pj, rfl, hj.st s hd⟩
theorem RX.st {w w' : World} {F G G' : Nat → Prop} {kv : Value} {sl ag : Nat} {rt : Option (List RSl)} (h : RX w F kv sl ag rt) (s : St G w G' w') (hd : Dj G F) : RX w' F kv sl ag rt := by
  cases rt with
  | none => exact h
  | some rs =>
    obtain ⟨pr, rfl, hj⟩ := h
    exact ⟨pr, rfl, hj.st s hd⟩
theorem JX.in {w : World} {F : Nat → Prop} {jv : Value} {sl ag : Nat} {st : Option (List PS)} (h : JX w F jv sl ag st) : In F w := by
  cases st with
  | none => exact fun k hk => absurd hk (h.2 k)
  | some ss =>
    obtain ⟨pj, rfl, hj⟩ := h
    exact hj.in
theorem RX.in {w : World} {F : Nat → Prop} {kv : Value} {sl ag : Nat} {rt : Option (List RSl)} (h : RX w F kv sl ag rt) : In F w := by
  cases rt with
  | none => exact fun k hk => absurd hk (h.2 k)
  | some rs =>
    obtain ⟨pr, rfl, hj⟩ := h
    exact hj.in
theorem tellX_len {st : Option (List PS)} {sl ag : Nat} (h16 : sl ≤ 16) (hss : ∀ ss, st = some ss → Sane sl ag ss) : (tellX st).length ≤ 1048576 := by
  cases st with
  | none => simp [tellX]
  | some ss =>
    have h1 := (hss ss rfl).few4 h16
    have h2 := tellTo_len 255 ss
    show (tellTo 255 ss).length ≤ _
    omega
theorem Alike.sane {sl ag : Nat} {st : Option (List PS)} {rt : Option (List RSl)} (h : Alike sl ag st rt) : ∀ ss, st = some ss → Sane sl ag ss := by
  rintro ss rfl
  cases rt with
  | none => exact h.elim
  | some rs => exact h.2
theorem tellX_frm {st : Option (List PS)} {sl ag : Nat} (hss : ∀ ss, st = some ss → Sane sl ag ss) : ∀ r ∈ tellX st, 0 ≤ r.frm ∧ r.frm < 255 := by
  cases st with
  | none => intro r hr; simp [tellX] at hr
  | some ss =>
    intro r hr
    obtain ⟨n, _, hn⟩ := List.mem_flatMap.1 (show r ∈ (List.range 255).flatMap fun (a : Nat) => tellA (a : Int) ss from hr)
    obtain ⟨s, hs, rfl⟩ := List.mem_map.1 hn
    exact (hss ss rfl).frm s (List.mem_filter.1 hs).1
end Go.Proofs.Ytoeafacamapofaa
