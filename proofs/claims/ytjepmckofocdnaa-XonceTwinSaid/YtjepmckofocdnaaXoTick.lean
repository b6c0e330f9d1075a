
/-
  An end's Tick and Calm.
-/
import Derived.Test.YtjepmckofocdnaaXoCalls
namespace Go.Proofs.Ytjepmckofocdnaa
open Go.RowKit
set_option linter.unusedVariables false
set_option linter.unusedSimpArgs false

/-- two lists of rows, one behind the other -/
theorem LsG.cat {α : Type} {cells : α → List Value} {val : α → Value} {byt : α → List B8} {s : Nat} {T : TypeId} {w w' : World} {V V2 V' : Value} {xs ys : List α} (h : LsG cells val byt s T w V xs) (h2 : LsG cells val byt s T w V2 ys) (hd : Dj (fpL val V xs) (fpL val V2 ys))
    (ho : Own w' T s V' (xs.length + ys.length) (xs.flatMap cells ++ ys.flatMap cells)) (hs : St (fpV V) w (fpV V') w') : LsG cells val byt s T w' V' (xs ++ ys) := by
  have hp := List.pairwise_cons.1 h.sep
  have hp2 := List.pairwise_cons.1 h2.sep
  have hV : ∀ u : Value, In (fpV u) w → Dj (fpV V) (fpV u) → Dj (fpV V') (fpV u) := fun u hi hj k a b => (hs.new k a).elim (fun e => hj k e b) (fun hl => absurd (hi k b) (Nat.not_lt.2 hl))
  have hy : ∀ y ∈ ys, Dj (fpV V) (fpV (val y)) := fun y hy k a b => hd k (fpL_iff.2 (.inl a)) (fpL_iff.2 (.inr ⟨y, hy, b⟩))
  refine ⟨by rw [List.length_append, List.flatMap_append]; exact ho, ?_, ?_⟩
  · intro y hm
    rcases List.mem_append.1 hm with hm | hm
    · exact (h.el y hm).st hs (hp.1 _ (List.mem_map.2 ⟨y, hm, rfl⟩))
    · exact (h2.el y hm).st hs (hy y hm)
  · refine List.pairwise_cons.2 ⟨?_, ?_⟩
    · intro R hR
      obtain ⟨y, hm, rfl⟩ := List.mem_map.1 hR
      rcases List.mem_append.1 hm with hm | hm
      · exact hV _ (h.el y hm).in (hp.1 _ (List.mem_map.2 ⟨y, hm, rfl⟩))
      · exact hV _ (h2.el y hm).in (hy y hm)
    · rw [List.map_append]
      refine List.pairwise_append.2 ⟨hp.2, hp2.2, ?_⟩
      intro R hR R' hR'
      obtain ⟨x, hx, rfl⟩ := List.mem_map.1 hR
      obtain ⟨y, hm, rfl⟩ := List.mem_map.1 hR'
      exact fun k a b => hd k (fpL_iff.2 (.inr ⟨x, hx, a⟩)) (fpL_iff.2 (.inr ⟨y, hm, b⟩))
theorem fpL_cat {α : Type} {val : α → Value} {w w1 w2 : World} {V V2 V' : Value} {xs ys : List α} (h1 : St No w (fpL val V2 ys) w1) (hs : St (fpV V) w1 (fpV V') w2) : St (fpL val V xs) w (fpL val V' (xs ++ ys)) w2 :=
  ⟨hs.os.trans h1.os, hs.tape.trans h1.tape, hs.output.trans h1.output, Nat.le_trans h1.size hs.size, fun k hk hn => (hs.block k (Nat.lt_of_lt_of_le hk h1.size) (fun e => hn (fpL_iff.2 (.inl e)))).trans (h1.block k hk (fun e => e)), fun k hk => by
    rcases fpL_iff.1 hk with hk | ⟨u, hu, hk⟩
    · rcases hs.new k hk with e | e
      · exact .inl (fpL_iff.2 (.inl e))
      · exact .inr (Nat.le_trans h1.size e)
    · rcases List.mem_append.1 hu with hu | hu
      · exact .inl (fpL_iff.2 (.inr ⟨u, hu, hk⟩))
      · exact (h1.new k (fpL_iff.2 (.inr ⟨u, hu, hk⟩))).elim (fun e => e.elim) .inr⟩
def tickL (k : EC) (X : Nat → XP) : Nat → List XM
  | 0 => []
  | m + 1 => tickL k X m ++ (if m = k.self then [] else againM (k.pc m) (X m))
theorem tick_len {k : EC} {X : Nat → XP} (hw : k.win ≤ 16) : ∀ m, (tickL k X m).length ≤ m * 16
  | 0 => Nat.le_refl _
  | m + 1 => by
    have ih := tick_len (X := X) hw m
    unfold tickL
    rw [List.length_append]
    split
    · simp; omega
    · have h1 := againL_len (k.pc m).adr (X m).acked (X m).mask (X m).queue (min (X m).queue.length (k.pc m).win)
      have h2 : (againM (k.pc m) (X m)).length ≤ 16 := Nat.le_trans h1 (Nat.le_trans (Nat.min_le_right _ _) hw)
      omega
theorem os_one {w : World} {V : Value} {os : List OB} (h : LsO w V os) : ∀ u ∈ os.flatMap OB.cells, u.oneCell' = true := by
  intro u hu
  obtain ⟨o, ho, hu⟩ := List.mem_flatMap.1 hu
  exact outOne o (h.el o ho).one u hu
set_option maxRecDepth 100000 in
set_option maxHeartbeats 2000000 in
theorem tick_calls (w : World) (F : Nat → Prop) (e : Nat) (k : EC) (X : Nat → XP) (h : En w F e k X) (hk : k.hosts ≤ 16) (hw : k.win ≤ 16) (hx : EX k X) :
    Calls Try.prog 27 #[.pointer (some ⟨e, 0, none⟩)] w (MailJ w (tickL k X k.hosts)) := by
  obtain ⟨g, P, R, hE, rfl⟩ := h
  have HE := Lib.hid hE
  have HX := Lib.hid hx
  have c0 : w.cell? ⟨e, 0, none⟩ = some (.slice (some ⟨g, 0, none⟩) k.hosts k.hosts) := by rw [hE.ob.cell 0]; rfl
  obtain ⟨i0, z0, hi0, hz0, hzs0, hsz0, hby0⟩ := info_z infO
  have HI := Lib.hid hi0
  have HZ := Lib.hid hz0
  have HZS := Lib.hid hzs0
  have HSZ := Lib.hid hsz0
  have HBY := Lib.hid hby0
  clear hE hx hi0 hz0 hzs0 hsz0 hby0
  go_enter Try.func27, Try.ntmps27
  go_wp2
  clear c0
  go_loopw [3, 13] (fun V i wr => ∃ (m : Nat) (os : List OB), m ≤ k.hosts ∧ i = .int .i64 m ∧ Hid (LsO wr V os) ∧ Hid (os.map OB.pl = tickL k X m) ∧ Hid (St No w (fpL OB.v V os) wr)) (fun _ i _ => k.hosts - (intOf i).toNat)
  case atStart => exact ⟨0, [], by omega, rfl, Lib.hid (LsG.nil _), Lib.hid rfl, Lib.hid ((St.refl No w).drop (fun j x => (fpL_nil x).elim))⟩
  case round =>
    obtain ⟨m, os, hm, rfl, HL, HP, HS⟩ := hrel
    have HEr := Lib.hid (HE.out.st HS.out (Dj.no _))
    by_cases hlt : m < k.hosts
    · have c1 := HEr.out.ptr hlt
      by_cases hms : m = k.self
      · have hv : ptrV k P k.hosts m = .pointer none := if_neg (fun x => x.2 hms)
        rw [hv] at c1
        have HPN : Hid (os.map OB.pl = tickL k X (m + 1)) := Lib.hid (by rw [HP.out]; unfold tickL; rw [if_pos hms, List.append_nil]; cases m <;> rfl)
        clear hms
        go_wp2
        exact ⟨⟨m + 1, os, by omega, by go_num, HL, HPN, HS⟩, by simp [intOf]; omega⟩
      · have hv : ptrV k P k.hosts m = .pointer (some ⟨P m, 0, none⟩) := if_pos ⟨hlt, hms⟩
        rw [hv] at c1
        have HPN : Hid (tickL k X (m + 1) = tickL k X m ++ againM (k.pc m) (X m)) := Lib.hid (by show _ ++ _ = _; rw [if_neg hms])
        have HAG := Lib.hid (again_calls wr (R m) (P m) (k.pc m) (X m) (HEr.out.pr m hlt hms) (HX.out m hlt hms))
        have HAL : Hid ((againM (k.pc m) (X m)).length ≤ 16) := Lib.hid (Nat.le_trans (againL_len _ _ _ _ _) (Nat.le_trans (Nat.min_le_right _ _) hw))
        clear hms
        go_wp2_with fail
        refine HAG.out.mono ?_
        rintro r w5 ⟨V5, os5, rfl, hl5, hp5, hs5⟩
        obtain ⟨a5, c5, rfl, _, _, _, hn5⟩ := hl5.own.form
        have HSRC : Hid (Src w5 a5 os5.length 18 (os5.flatMap OB.cells)) := Lib.hid ⟨flat_len OB.cells 18 OB.cells_len os5, hl5.own.rd, os_one hl5⟩
        have HL5 := Lib.hid hl5
        have HP5 := Lib.hid hp5
        have HS5 := Lib.hid hs5
        have HN5 := Lib.hid hn5
        have HO5 := Lib.hid (HL.out.st hs5 (Dj.no _))
        have HDJ : Hid (Dj (fpL OB.v _ os) (fpL OB.v (.slice a5 os5.length c5) os5)) := Lib.hid (fun j x y => absurd (HL.out.in j x) (Nat.not_lt.2 (hs5.news j y)))
        have hlo : os.length ≤ 256 := by have h1 := congrArg List.length HP.out; rw [List.length_map] at h1; have := tick_len (k := k) (X := X) hw m; omega
        have hl5 : os5.length ≤ 16 := by have h1 := congrArg List.length hp5; rw [List.length_map] at h1; have := HAL.out; omega
        clear hp5 hs5 hn5
        go_wp2_with (at_builtin; refine wpList_app rfl (.tmp 19) (.tmp 23) 49 rfl 62 i0 z0 18 i0.bytes Try.underlying49 HI.out HZ.out HSZ.out rfl HZS.out (by decide) _ _ _ rfl HO5.out.own a5 os5.length c5 _ rfl HSRC.out (fun h => (HN5.out h).2) (by unfold maxLen; omega) (Nat.le_trans (Nat.mul_le_mul (show os.length + os5.length ≤ 272 by omega) HBY.out) (by omega)) ?_; intro V6 w6 ho6 hs6 hn6; have HL6 := Lib.hid (HO5.out.cat HL5.out HDJ.out ho6 hs6); have HS6 := Lib.hid (HS.out.trans (fpL_cat HS5.out hs6)); clear ho6 hs6 hn6)
        exact ⟨⟨m + 1, os ++ os5, by omega, by go_num, HL6, Lib.hid (by rw [List.map_append, HP.out, HP5.out, HPN.out]), HS6⟩, by simp [intOf]; omega⟩
    · obtain rfl : m = k.hosts := by omega
      go_wp2
      go_ret
      exact ⟨_, os, rfl, HL.out, HP.out, HS.out⟩
end Go.Proofs.Ytjepmckofocdnaa
