
/-
  The walks over the program's Reader: Varint.
-/
import Derived.Test.YtfhoekcmkbeabaaCwReader4
import Derived.Test.YtfhoekcmkbeabaaCwHead
namespace Go.Proofs.Ytfhoekcmkbeabaa
open Go.RowKit
set_option linter.unusedVariables false
set_option linter.unusedSimpArgs false

theorem headB_len : ∀ (bs : List B8) (i : Nat) (x : BitVec 64), (headB i x bs).2.2 = 0 → i < (headB i x bs).2.1 ∧ (headB i x bs).2.1 ≤ i + bs.length := by
  intro bs
  induction bs with
  | nil => intro i x h; simp [headB] at h
  | cons c r ih =>
    intro i x h
    simp only [headB] at h ⊢
    split at h
    · cases h
    · rename_i h1
      rw [if_neg h1]
      split at h
      · rename_i h2
        rw [if_pos h2]
        split at h
        · cases h
        · rename_i h3
          rw [if_neg h3]
          simp
      · rename_i h2
        rw [if_neg h2]
        have := ih (i + 1) _ h
        simp only [List.length_cons]
        omega
theorem Rr.skip {w : World} {p : Nat} {D : Nat → Prop} {n : Nat} {rest : List B8} {a : Option Addr} {c : Nat} {a' : Option Addr} {c' : Nat} (ha : (c = n ∧ a' = a ∧ c' = 0) ∨ (a' = a.map (fun x => x.add n) ∧ c' = c - n)) (hle : n ≤ rest.length) (h1 : rest.length ≤ c) (h2 : c ≤ 9223372036854775807)
    (h3 : a = none → c = 0) (h4 : ∀ k, fpA a k → D k) (hd : ¬ D p) (hb : Bs w a rest) (ho : Ob w p 126 #[.slice a rest.length c, .int .i64 0]) :
    Rr (w.setCell ⟨p, 0, none⟩ (.slice a' (rest.length - n) c')) p D ⟨rest.drop n, 0⟩ := by
  have hfp : ∀ k, fpP p k → ¬ fpA a k := fun k hk hf => hd (by have e : k = p := hk; rw [← e]; exact h4 k hf)
  refine ⟨a', c', ?_, ?_, ?_, ?_, ?_, ?_⟩
  · have := ho.set 0 (.slice a' (rest.length - n) c')
    simp only [List.length_drop]
    exact this
  · rcases ha with ⟨rfl, rfl, rfl⟩ | ⟨rfl, rfl⟩
    · rw [List.drop_eq_nil_of_le (by show rest.length ≤ c; omega)]
      exact Rd.nil _ _
    · exact (hb.drop n).st (St.setCell (F := fpP p) _ _ _ rfl) (fun k hk hf => hfp k hk (fpA_add.1 hf))
  · simp only [List.length_drop]; rcases ha with ⟨rfl, rfl, rfl⟩ | ⟨rfl, rfl⟩ <;> omega
  · unfold maxLen; rcases ha with ⟨rfl, rfl, rfl⟩ | ⟨rfl, rfl⟩ <;> omega
  · rcases ha with ⟨rfl, rfl, rfl⟩ | ⟨rfl, rfl⟩
    · exact fun _ => rfl
    · intro h; cases a with
      | none => have := h3 rfl; omega
      | some x => cases h
  · rcases ha with ⟨rfl, rfl, rfl⟩ | ⟨rfl, rfl⟩
    · exact h4
    · exact fun k hk => h4 k (fpA_add.1 hk)

/-- the reader behind a varint, and the number -/
def RS.var (s : RS) : RS := if s.err = 0 then (if (headB 0 0 s.rest).2.2 = 0 then ⟨s.rest.drop (headB 0 0 s.rest).2.1, 0⟩ else ⟨s.rest, (headB 0 0 s.rest).2.2⟩) else s
def varT (th : Bool) (s : RS) : BitVec 64 := if opens th s = true ∧ (headB 0 0 s.rest).2.2 = 0 then (headB 0 0 s.rest).1 else 0
def VarPost (w : World) (v : Value) (th : Bool) (p : Nat) (D : Nat → Prop) (s : RS) (e : Ending) (w' : World) : Prop :=
  Rh w' v th p D s.var ∧ St (fpP p) w (fpP p) w' ∧ e = .returned (.int .u64 ((varT th s).toNat : Int))
set_option maxRecDepth 100000 in
set_option maxHeartbeats 1000000 in
theorem rVarint_calls (w : World) (v : Value) (th : Bool) (p : Nat) (D : Nat → Prop) (s : RS) (hl : s.rest.length ≤ 140737488355328) (h : Rh w v th p D s) :
    Calls Try.prog 96 #[v] w (VarPost w v th p D s) := by
  have HO := Lib.hid (open_calls w v th p D s h)
  have HH := Lib.hid h
  cases hop : opens th s with
  | false =>
    rw [hop] at HO
    have HOP := Lib.hid hop
    clear hop h
    go_enter Try.func96, Try.ntmps96
    go_wp2_with (go_at_call 111; refine HO.out.mono ?_; rintro e w1 ⟨rfl, rfl⟩)
    go_ret
    refine ⟨?_, St.refl _ _, by unfold varT; rw [if_neg (by rw [HOP.out]; simp)]; rfl⟩
    rcases HH.out with h | ⟨rfl, h2⟩
    · exact .inl h
    · have he : ¬ s.err = 0 := by have := HOP.out; simpa [opens] using this
      unfold RS.var
      rw [if_neg he]
      exact .inr ⟨rfl, h2⟩
  | true =>
    rw [hop] at HO
    have HOP := Lib.hid hop
    clear hop
    rcases h with ⟨rfl, rfl⟩ | ⟨rfl, rfl, hr, hdp⟩
    · exact absurd HOP.out (by simp [opens])
    · have he : s.err = 0 := by have := HOP.out; simpa [opens] using this
      obtain ⟨rest, err⟩ := s
      simp only at he hl
      subst he
      obtain ⟨a, c, k0, k1, f0, f1, hb, h1, h2, h3, h4, ho⟩ := hr.open
      have HR := Lib.hid hr
      have HOB := Lib.hid ho
      have HB := Lib.hid hb
      have H3 := Lib.hid h3
      have H4 := Lib.hid h4
      have HDP := Lib.hid hdp
      have HHD := Lib.hid (head_calls a c rest hl w hb)
      have HVS : Hid (RS.var ⟨rest, 0⟩ = if (headB 0 0 rest).2.2 = 0 then ⟨rest.drop (headB 0 0 rest).2.1, 0⟩ else ⟨rest, (headB 0 0 rest).2.2⟩) := Lib.hid (by unfold RS.var; rw [if_pos rfl])
      have HVT : Hid (varT true ⟨rest, 0⟩ = if (headB 0 0 rest).2.2 = 0 then (headB 0 0 rest).1 else 0) := Lib.hid (by
        unfold varT
        rw [HOP.out]
        simp)
      have HLN := Lib.hid (headB_len rest 0 0)
      unfold HeadPost at HHD
      simp only at k0 k1 h1
      clear ho hb h3 h4 hdp hr HH
      generalize headB 0 0 rest = r at *
      obtain ⟨x, n, er⟩ := r
      simp only at HHD HVS HVT HLN
      by_cases hz : er = 0
      · subst hz
        have hln := (HLN.out rfl).2
        rw [Nat.zero_add] at hln
        rw [if_pos rfl] at HVS HVT
        go_enter Try.func96, Try.ntmps96
        go_wp2_with (first
          | (go_at_call 111; refine HO.out.mono ?_; rintro e w1 ⟨rfl, rfl⟩)
          | (go_at_call 112; refine HHD.out.mono ?_; rintro e w1 ⟨rfl, rfl⟩))
        all_goals go_ret
        all_goals refine ⟨.inr ⟨rfl, rfl, ?_, HDP.out⟩, St.setCell _ _ _ rfl, by rw [HVT.out]; rfl⟩
        all_goals rw [HVS.out]
        all_goals refine Rr.skip (a := a) (by first | (subst_vars; exact .inl ⟨rfl, rfl, rfl⟩) | exact .inr ⟨rfl, rfl⟩) hln h1 h2 H3.out H4.out HDP.out HB.out ?_
        · subst_vars
          exact HOB.out
        · exact HOB.out
      · have hzb : (er != 0) = true := by rw [bne_iff_ne]; exact hz
        rw [if_neg hz] at HVS HVT
        clear hz
        go_enter Try.func96, Try.ntmps96
        go_wp2_with (first
          | (go_at_call 111; refine HO.out.mono ?_; rintro e w1 ⟨rfl, rfl⟩)
          | (go_at_call 112; refine HHD.out.mono ?_; rintro e w1 ⟨rfl, rfl⟩))
        go_ret
        refine ⟨.inr ⟨rfl, rfl, ?_, HDP.out⟩, St.setCell _ _ _ rfl, by rw [HVT.out]; rfl⟩
        rw [HVS.out]
        exact HR.out.setErr HDP.out er
end Go.Proofs.Ytfhoekcmkbeabaa
