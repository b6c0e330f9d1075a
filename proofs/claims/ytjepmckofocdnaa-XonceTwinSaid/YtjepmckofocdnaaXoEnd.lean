
/-
  An end in memory: its block, the row of its peers' pointers, the peers.
-/
import Derived.Test.YtjepmckofocdnaaXoKeep
namespace Go.Proofs.Ytjepmckofocdnaa
open Go.RowKit
set_option linter.unusedVariables false
set_option linter.unusedSimpArgs false

def upd {α : Type} (f : Nat → α) (a : Nat) (v : α) : Nat → α := fun h => if h = a then v else f h
theorem upd_same {α : Type} {f : Nat → α} {a : Nat} {v : α} : upd f a v a = v := by unfold upd; rw [if_pos rfl]
theorem upd_ne {α : Type} {f : Nat → α} {a h : Nat} {v : α} (hn : h ≠ a) : upd f a v h = f h := by unfold upd; rw [if_neg hn]
/-- an end's numbers -/
structure EC where
  self : Nat
  hosts : Nat
  room : Nat
  win : Nat
def EC.pc (k : EC) (h : Nat) : PC := ⟨h, k.room, k.win⟩
structure EC.Ok (k : EC) : Prop where
  self : k.self < k.hosts
  hosts : k.hosts ≤ 16
  win1 : 1 ≤ k.win
  win : k.win ≤ k.room
  room : k.room ≤ 16
def ptrV (k : EC) (P : Nat → Nat) (m h : Nat) : Value := if h < m ∧ h ≠ k.self then .pointer (some ⟨P h, 0, none⟩) else .pointer none
def ptrs (k : EC) (P : Nat → Nat) (m : Nat) : List Value := (List.range k.hosts).map (ptrV k P m)
structure EnM (w : World) (e g : Nat) (k : EC) (m : Nat) (P : Nat → Nat) (R : Nat → Nat → Prop) (X : Nat → XP) : Prop where
  ob : Ob w e 117 #[.slice (some ⟨g, 0, none⟩) k.hosts k.hosts]
  pb : Own w 118 1 (.slice (some ⟨g, 0, none⟩) k.hosts k.hosts) k.hosts (ptrs k P m)
  pr : ∀ h, h < m → h ≠ k.self → Pr w (R h) (P h) (k.pc h) (X h)
  eg : e ≠ g
  re : ∀ h, h < m → h ≠ k.self → ¬ R h e ∧ ¬ R h g
  rr : ∀ h h', h < m → h' < m → h ≠ k.self → h' ≠ k.self → h ≠ h' → Dj (R h) (R h')
def fpE (e g : Nat) (k : EC) (m : Nat) (R : Nat → Nat → Prop) : Nat → Prop := fun j => j = e ∨ j = g ∨ ∃ h, h < m ∧ h ≠ k.self ∧ R h j
/-- an end in memory; what its peers hold -/
def En (w : World) (F : Nat → Prop) (e : Nat) (k : EC) (X : Nat → XP) : Prop := ∃ g P R, EnM w e g k k.hosts P R X ∧ F = fpE e g k k.hosts R
/-- what holds of all its peers -/
def EX (k : EC) (X : Nat → XP) : Prop := ∀ h, h < k.hosts → h ≠ k.self → (X h).Ok (k.pc h)
section
variable {w w' : World} {e g : Nat} {k : EC} {m : Nat} {P : Nat → Nat} {R : Nat → Nat → Prop} {X : Nat → XP}
theorem fpV_at {g n c j : Nat} : fpV (.slice (some ⟨g, 0, none⟩) n c) j ↔ j = g := by
  constructor
  · intro h
    have e : g = j := by simpa [fpV, Value.ownBlock] using h
    exact e.symm
  · rintro rfl
    simp [fpV, Value.ownBlock]
theorem EnM.in (h : EnM w e g k m P R X) : In (fpE e g k m R) w := by
  rintro j (rfl | rfl | ⟨a, ha, hs, hj⟩)
  · exact h.ob.lt
  · exact h.pb.in _ (fpV_at.2 rfl)
  · exact (h.pr a ha hs).in j hj
theorem EnM.st {G G' : Nat → Prop} (h : EnM w e g k m P R X) (s : St G w G' w') (hd : Dj G (fpE e g k m R)) : EnM w' e g k m P R X :=
  ⟨h.ob.move (s.block _ h.ob.lt (fun hg => hd e hg (.inl rfl))), h.pb.st s (fun j a b => hd j a (.inr (.inl (fpV_at.1 b)))), fun a ha hs => (h.pr a ha hs).st s (fun j x y => hd j x (.inr (.inr ⟨a, ha, hs, y⟩))), h.eg, h.re, h.rr⟩
theorem En.in {F : Nat → Prop} (h : En w F e k X) : In F w := by
  obtain ⟨g, P, R, h1, rfl⟩ := h
  exact h1.in
theorem En.st {F G G' : Nat → Prop} (h : En w F e k X) (s : St G w G' w') (hd : Dj G F) : En w' F e k X := by
  obtain ⟨g, P, R, h1, rfl⟩ := h
  exact ⟨g, P, R, h1.st s hd, rfl⟩
/-- one peer has turned -/
theorem EnM.turn {G : Nat → Prop} (h : EnM w e g k m P R X) {a : Nat} (ha : a < m) (hs : a ≠ k.self) {R' : Nat → Prop} {x' : XP} (s : St (R a) w (fun j => R' j ∨ G j) w') (hp : Pr w' R' (P a) (k.pc a) x') :
    EnM w' e g k m P (upd R a R') (upd X a x') ∧ St (fpE e g k m R) w (fun j => fpE e g k m (upd R a R') j ∨ G j) w' ∧ (Dj R' G → Dj (fpE e g k m (upd R a R')) G) := by
  have hne : ∀ b, b < m → b ≠ k.self → b ≠ a → Dj (R a) (R b) := fun b hb hbs hba => h.rr a b ha hb hs hbs (fun e => hba e.symm)
  have hgl : g < w.heap.size := h.pb.in _ (fpV_at.2 rfl)
  have hel := h.ob.lt
  have hR' : ∀ j, R' j → R a j ∨ w.heap.size ≤ j := fun j hj => s.new j (.inl hj)
  refine ⟨⟨h.ob.move (s.block _ hel (h.re a ha hs).1), h.pb.st s (fun j x y => (h.re a ha hs).2 (by rw [← fpV_at.1 y]; exact x)), ?_, h.eg, ?_, ?_⟩, ?_, ?_⟩
  · intro b hb hbs
    by_cases hba : b = a
    · subst hba
      rw [upd_same, upd_same]
      exact hp
    · rw [upd_ne hba, upd_ne hba]
      exact (h.pr b hb hbs).st s (hne b hb hbs hba)
  · intro b hb hbs
    by_cases hba : b = a
    · subst hba
      rw [upd_same]
      exact ⟨fun x => (hR' _ x).elim (h.re b hb hbs).1 (fun x => by omega), fun x => (hR' _ x).elim (h.re b hb hbs).2 (fun x => by omega)⟩
    · rw [upd_ne hba]
      exact h.re b hb hbs
  · intro b b' hb hb' hbs hbs' hn
    by_cases hba : b = a
    · subst hba
      have hn' : b' ≠ b := fun e => hn e.symm
      rw [upd_same, upd_ne hn']
      exact fun j x y => (hR' j x).elim (fun x => hne b' hb' hbs' hn' j x y) (fun x => absurd ((h.pr b' hb' hbs').in j y) (by omega))
    · rw [upd_ne hba]
      by_cases hba' : b' = a
      · subst hba'
        rw [upd_same]
        exact fun j x y => (hR' j y).elim (fun y => hne b hb hbs hba j y x) (fun y => absurd ((h.pr b hb hbs).in j x) (by omega))
      · rw [upd_ne hba']
        exact h.rr b b' hb hb' hbs hbs' hn
  · refine ⟨s.os, s.tape, s.output, s.size, fun j hj hn => s.block j hj (fun x => hn (.inr (.inr ⟨a, ha, hs, x⟩))), ?_⟩
    rintro j ((rfl | rfl | ⟨b, hb, hbs, hj⟩) | hj)
    · exact .inl (.inl rfl)
    · exact .inl (.inr (.inl rfl))
    · by_cases hba : b = a
      · subst hba
        rw [upd_same] at hj
        exact (hR' j hj).elim (fun x => .inl (.inr (.inr ⟨b, hb, hbs, x⟩))) .inr
      · rw [upd_ne hba] at hj
        exact .inl (.inr (.inr ⟨b, hb, hbs, hj⟩))
    · exact (s.new j (.inr hj)).elim (fun x => .inl (.inr (.inr ⟨a, ha, hs, x⟩))) .inr
  · rintro hd j (rfl | rfl | ⟨b, hb, hbs, hj⟩) hG
    · exact (s.new _ (.inr hG)).elim (h.re a ha hs).1 (fun x => by omega)
    · exact (s.new _ (.inr hG)).elim (h.re a ha hs).2 (fun x => by omega)
    · by_cases hba : b = a
      · subst hba
        rw [upd_same] at hj
        exact hd j hj hG
      · rw [upd_ne hba] at hj
        exact (s.new _ (.inr hG)).elim (fun x => hne b hb hbs hba j x hj) (fun x => absurd ((h.pr b hb hbs).in j hj) (by omega))
theorem EX.turn {k : EC} {X : Nat → XP} (h : EX k X) {a : Nat} {x' : XP} (hx : x'.Ok (k.pc a)) : EX k (upd X a x') := by
  intro b hb hs
  by_cases hba : b = a
  · subst hba; rw [upd_same]; exact hx
  · rw [upd_ne hba]; exact h b hb hs
theorem ptrs_get {k : EC} {P : Nat → Nat} {m h : Nat} (hh : h < k.hosts) : (ptrs k P m)[h]? = some (ptrV k P m h) := by
  unfold ptrs
  rw [List.getElem?_map, List.getElem?_range hh]; rfl
theorem EnM.ptr (h : EnM w e g k m P R X) {a : Nat} (ha : a < k.hosts) : w.cell? ⟨g, a, none⟩ = some (ptrV k P m a) := by
  obtain ⟨y, hy, hc⟩ := h.pb.rd a _ (ptrs_get ha)
  cases hy
  have e : (Addr.add ⟨g, 0, none⟩ a) = ⟨g, a, none⟩ := by simp [Addr.add]; exact fun x => x.symm
  rw [e] at hc
  exact hc
end
set_option maxRecDepth 100000 in
set_option maxHeartbeats 1000000 in
/-- a peer by its address -/
theorem peer_calls (w : World) (e g : Nat) (k : EC) (P : Nat → Nat) (R : Nat → Nat → Prop) (X : Nat → XP) (h : EnM w e g k k.hosts P R X) (hk : k.hosts ≤ 16) (a : Nat) (ha : a ≤ 255) :
    Calls Try.prog 54 #[.pointer (some ⟨e, 0, none⟩), .int .u8 a] w fun r w' => r = .returned (ptrV k P k.hosts a) ∧ w = w' := by
  have c0 : w.cell? ⟨e, 0, none⟩ = some (.slice (some ⟨g, 0, none⟩) k.hosts k.hosts) := by rw [h.ob.cell 0]; rfl
  have wc : IntKind.i64.wrap (a : Int) = (a : Int) := IntWalk.i64_in _ (by omega)
  by_cases q : a < k.hosts
  · have c1 := h.ptr q
    have qi : decide ((k.hosts : Int) ≤ (a : Int)) = false := decide_eq_false (by omega)
    have qn : decide (k.hosts ≤ a) = false := decide_eq_false (by omega)
    have q1 : (a : Int) < (k.hosts : Int) := by omega
    have q2 : (0 : Int) ≤ (a : Int) := by omega
    clear h
    generalize ptrV k P k.hosts a = V at *
    go_enter Try.func54, Try.ntmps54
    go_wp2
    go_ret
    exact ⟨rfl, rfl⟩
  · have qi : (k.hosts : Int) ≤ (a : Int) := by omega
    have HV : Hid (ptrV k P k.hosts a = .pointer none) := Lib.hid (if_neg (fun x => q x.1))
    clear h
    go_enter Try.func54, Try.ntmps54
    go_wp2
    go_ret
    rw [HV.out]
    exact ⟨rfl, rfl⟩
end Go.Proofs.Ytjepmckofocdnaa
