
/-
  An end's Calm.
-/
import Derived.Test.YtjepmckofocdnaaXoTick
namespace Go.Proofs.Ytjepmckofocdnaa
open Go.RowKit
set_option linter.unusedVariables false
set_option linter.unusedSimpArgs false

/-- does nothing wait? -/
def calmB (k : EC) (X : Nat → XP) : Bool := (List.range k.hosts).all fun h => decide (h = k.self ∨ (X h).queue = [])
theorem calm_iff {k : EC} {X : Nat → XP} : calmB k X = true ↔ ∀ h, h < k.hosts → h ≠ k.self → (X h).queue = [] := by
  unfold calmB
  rw [List.all_eq_true]
  constructor
  · intro h a ha hs
    exact (of_decide_eq_true (h a (List.mem_range.2 ha))).elim (fun e => absurd e hs) id
  · intro h a ha
    refine decide_eq_true ?_
    by_cases hs : a = k.self
    · exact .inl hs
    · exact .inr (h a (List.mem_range.1 ha) hs)
set_option maxRecDepth 100000 in
set_option maxHeartbeats 2000000 in
theorem calm_calls (w : World) (F : Nat → Prop) (e : Nat) (k : EC) (X : Nat → XP) (h : En w F e k X) (hk : k.hosts ≤ 16) :
    Calls Try.prog 45 #[.pointer (some ⟨e, 0, none⟩)] w fun r w' => r = .returned (.bool (calmB k X)) ∧ w' = w := by
  obtain ⟨g, P, R, hE, rfl⟩ := h
  have HE := Lib.hid hE
  have c0 : w.cell? ⟨e, 0, none⟩ = some (.slice (some ⟨g, 0, none⟩) k.hosts k.hosts) := by rw [hE.ob.cell 0]; rfl
  clear hE
  go_enter Try.func45, Try.ntmps45
  go_wp2
  clear c0
  go_loopw [12] (fun i wr => ∃ m : Nat, m ≤ k.hosts ∧ i = .int .i64 m ∧ Hid (∀ h, h < m → h ≠ k.self → (X h).queue = []) ∧ Hid (wr = w)) (fun i _ => k.hosts - (intOf i).toNat)
  case atStart => exact ⟨0, by omega, rfl, Lib.hid (fun h hh => by omega), Lib.hid rfl⟩
  case round =>
    obtain ⟨m, hm, rfl, HC, HW⟩ := hrel
    have hw0 := HW.out
    subst hw0
    by_cases hlt : m < k.hosts
    · have c1 := HE.out.ptr hlt
      by_cases hms : m = k.self
      · have hv : ptrV k P k.hosts m = .pointer none := if_neg (fun x => x.2 hms)
        rw [hv] at c1
        have HCN : Hid (∀ h, h < m + 1 → h ≠ k.self → (X h).queue = []) := Lib.hid (fun h hh hs => HC.out h (by omega) hs)
        clear hms
        go_wp2
        exact ⟨⟨m + 1, by omega, by go_num, HCN, Lib.hid (by trivial)⟩, by simp [intOf]; omega⟩
      · have hv : ptrV k P k.hosts m = .pointer (some ⟨P m, 0, none⟩) := if_pos ⟨hlt, hms⟩
        rw [hv] at c1
        obtain ⟨Vq, Ve, qs, es, hpm, hq, he, hF⟩ := HE.out.pr m hlt hms
        obtain ⟨d0, d1, d2, d3, d4, d5, d6, d7, d8, d9, d10, f0, f1, f2, f3, f4, f5, f6, f7, f8, f9, f10⟩ := hpm.ob.n11
        obtain ⟨qa, qc, rfl, _, _, _, _⟩ := hpm.lq.own.form
        have hql : qs.length = (X m).queue.length := by rw [hq, List.length_map]
        rw [hql] at d5
        clear d0 d1 d2 d3 d4 d6 d7 d8 d9 d10 f0 f1 f2 f3 f4 f5 f6 f7 f8 f9 f10 hF hq he hql
        by_cases hz : (X m).queue.length = 0
        · have HCN : Hid (∀ h, h < m + 1 → h ≠ k.self → (X h).queue = []) := Lib.hid (fun h hh hs => by
            by_cases e : h = m
            · subst e; exact List.eq_nil_of_length_eq_zero hz
            · exact HC.out h (by omega) hs)
          rw [hz] at d5
          clear hz hms
          go_wp2
          exact ⟨⟨m + 1, by omega, by go_num, HCN, Lib.hid (by trivial)⟩, by simp [intOf]; omega⟩
        · have HF : Hid (calmB k X = false) := Lib.hid (by
            cases hc : calmB k X with
            | false => rfl
            | true =>
              have := calm_iff.1 hc m hlt hms
              rw [this] at hz
              exact absurd rfl hz)
          have hi : (0 : Int) < ((X m).queue.length : Int) := by omega
          have hi2 : 0 < (X m).queue.length := by omega
          clear hz hms
          go_wp2
          go_ret
          exact ⟨by rw [HF.out]; rfl, rfl⟩
    · obtain rfl : m = k.hosts := by omega
      have HT : Hid (calmB k X = true) := Lib.hid (calm_iff.2 HC.out)
      go_wp2
      go_ret
      exact ⟨by rw [HT.out]; rfl, rfl⟩
end Go.Proofs.Ytjepmckofocdnaa
