
/-
  The walks over the statements' room and written; thing and lay of the other kinds.
-/
import Derived.Test.YtfhoekcmkbeabaaCwBack2
import Derived.Test.YtfhoekcmkbeabaaWWrites
namespace Go.Proofs.Ytfhoekcmkbeabaa
open Go.RowKit
set_option linter.unusedVariables false
set_option linter.unusedSimpArgs false

/-- what a step lays down -/
def thB (t : Th) : List B8 := if 1 ≤ t.kind ∧ t.kind ≤ 9 then t.norm.bytes else []
def thAll (ts : List Th) : List B8 := ts.flatMap thB
theorem thAll_cons (t : Th) (ts : List Th) : thAll (t :: ts) = thB t ++ thAll ts := rfl
theorem thAll_snoc (ts : List Th) (k : Nat) (h : k < ts.length) : thAll (ts.take (k + 1)) = thAll (ts.take k) ++ thB ts[k] := by
  unfold thAll
  rw [List.take_succ_eq_append_getElem h, List.flatMap_append]
  simp
theorem thAll_drop (ts : List Th) (k : Nat) (h : k < ts.length) : thAll (ts.drop k) = thB ts[k] ++ thAll (ts.drop (k + 1)) := by
  rw [List.drop_eq_getElem_cons h, thAll_cons]
theorem thAll_take_le (ts : List Th) (k : Nat) : (thAll (ts.take k)).length ≤ (thAll ts).length := by
  have : thAll ts = thAll (ts.take k) ++ thAll (ts.drop k) := by unfold thAll; rw [← List.flatMap_append, List.take_append_drop]
  rw [this, List.length_append]
  omega
/-- the room that a step asks for -/
def stepN (t : Th) : Nat := if t.kind = 8 ∨ t.kind = 9 then t.bs.length else 0
def roomF (n : Nat) : List Th → Nat
  | [] => n
  | t :: r => if 16777216 < n + 10 + stepN t then n + 10 + stepN t else roomF (n + 10 + stepN t) r
theorem thB_len (t : Th) : (thB t).length ≤ 10 + stepN t := by
  unfold thB
  split
  · rename_i h
    obtain ⟨k, n, i, f, a, c, bs⟩ := t
    simp only at h
    rcases (by omega : k = 1 ∨ k = 2 ∨ k = 3 ∨ k = 4 ∨ k = 5 ∨ k = 6 ∨ k = 7 ∨ k = 8 ∨ k = 9) with rfl | rfl | rfl | rfl | rfl | rfl | rfl | rfl | rfl
    · show (beTo _ 1 1).length ≤ _; rw [beTo_len]; omega
    · show (beTo _ 2 2).length ≤ _; rw [beTo_len]; omega
    · show (beTo _ 4 4).length ≤ _; rw [beTo_len]; omega
    · show (beTo _ 8 8).length ≤ _; rw [beTo_len]; omega
    · show (groupsB _).length ≤ _; have := (groupsB_len n.toNat).2; exact Nat.le_trans this (by omega)
    · show (groupsB _).length ≤ _; have := (groupsB_len (zig i)).2; exact Nat.le_trans this (by omega)
    · show 1 ≤ _; omega
    · show bs.length ≤ 10 + bs.length; omega
    · show (groupsB bs.length ++ bs).length ≤ 10 + bs.length
      rw [List.length_append]; have := (groupsB_len bs.length).2; omega
  · simp
theorem roomF_le : ∀ (ts : List Th) (n : Nat), roomF n ts ≤ 16777216 → n ≤ 16777216 → n + (thAll ts).length ≤ 16777216 := by
  intro ts
  induction ts with
  | nil => intro n h hn; simpa [thAll] using hn
  | cons t r ih =>
    intro n h hn
    unfold roomF at h
    split at h
    · omega
    · have := ih _ h (by omega)
      have hl := thB_len t
      rw [thAll_cons, List.length_append]
      omega
set_option maxRecDepth 100000 in
set_option maxHeartbeats 1000000 in
theorem room_calls (a : Option Addr) (c : Nat) (ts : List Th) (hn : ts.length ≤ 140737488351232) (w : World) (hs : StepsIn w a ts) :
    Calls Try.prog 53 #[.slice a ts.length c] w fun e w' => e = .returned (.int .i64 (roomF 0 ts : Int)) ∧ w = w' := by
  have HSI := Lib.hid hs
  clear hs
  go_enter Try.func53, Try.ntmps53
  go_wp2
  go_loopw [3, 4] (fun x i wr => ∃ k N : Nat, k ≤ ts.length ∧ i = .int .i64 k ∧ x = .int .i64 (N : Int) ∧ N ≤ 16777216 ∧ Hid (roomF 0 ts = roomF N (ts.drop k)) ∧ wr = w) (fun _ i _ => ts.length - (intOf i).toNat)
  case atStart => exact ⟨0, 0, by omega, rfl, rfl, by omega, Lib.hid rfl, rfl⟩
  case round =>
    obtain ⟨k, N, hk, rfl, rfl, hN, HF, rfl⟩ := hrel
    by_cases hlt : k < ts.length
    · obtain ⟨t, ht⟩ : ∃ t, ts[k] = t := ⟨_, rfl⟩
      obtain ⟨x, rfl, hc, hok⟩ := HSI.out k t (by rw [List.getElem?_eq_getElem hlt, ht])
      have hbl := hok.len
      have HF2 : Hid (roomF 0 ts = if 16777216 < N + 10 + stepN t then N + 10 + stepN t else roomF (N + 10 + stepN t) (ts.drop (k + 1))) := Lib.hid (by rw [HF.out, List.drop_eq_getElem_cons hlt, ht]; rfl)
      clear hok ht
      obtain ⟨kind, n, i, f, ta, tc, bs⟩ := t
      simp only at hbl
      have c0 : wr.cell? (x.add (k * 5)) = some (.int .i64 kind) := hc 0 _ rfl
      have c4 : wr.cell? ⟨(x.add (k * 5)).block, (x.add (k * 5)).off + 4, none⟩ = some (.slice ta bs.length tc) := hc 4 _ rfl
      clear hc
      by_cases hkk : kind = 8 ∨ kind = 9
      · have hsn : stepN ⟨kind, n, i, f, ta, tc, bs⟩ = bs.length := if_pos hkk
        rw [hsn] at HF2
        by_cases hbig : (16777216 : Int) < (N : Int) + 10 + (bs.length : Int)
        · rw [if_pos (by omega)] at HF2
          clear hsn
          rcases hkk with rfl | rfl
          all_goals go_wp2
          all_goals go_ret
          all_goals exact ⟨by rw [HF2.out]; simp, rfl⟩
        · rw [if_neg (by omega)] at HF2
          clear hsn
          rcases hkk with rfl | rfl
          all_goals go_wp2
          all_goals exact ⟨⟨k + 1, N + 10 + bs.length, by omega, by simp, by simp, by omega, HF2, trivial⟩, by simp [intOf]; omega⟩
      · have hsn : stepN ⟨kind, n, i, f, ta, tc, bs⟩ = 0 := if_neg hkk
        rw [hsn] at HF2
        have e8 : (kind == 8) = false := beq_eq_false_iff_ne.2 (fun h => hkk (.inl h))
        have e9 : (kind == 9) = false := beq_eq_false_iff_ne.2 (fun h => hkk (.inr h))
        by_cases hbig : (16777216 : Int) < (N : Int) + 10
        · rw [if_pos (by omega)] at HF2
          clear hsn hkk
          go_wp2
          go_ret
          exact ⟨by rw [HF2.out]; simp, rfl⟩
        · rw [if_neg (by omega)] at HF2
          clear hsn hkk
          go_wp2
          exact ⟨⟨k + 1, N + 10 + 0, by omega, by simp, by simp, by omega, HF2, trivial⟩, by simp [intOf]; omega⟩
    · obtain rfl : k = ts.length := by omega
      have HE : Hid (roomF 0 ts = N) := Lib.hid (by rw [HF.out, List.drop_length]; rfl)
      go_wp2
      go_ret
      exact ⟨by rw [HE.out]; rfl, rfl⟩
set_option maxRecDepth 100000 in
set_option maxHeartbeats 1000000 in
theorem thing_other (kind : Int) (hk : ¬ (1 ≤ kind ∧ kind ≤ 9)) (n : BitVec 64) (i : Int) (f : Bool) (a : Option Addr) (c : Nat) (bs : List B8) (w : World) :
    Calls Try.prog 34 #[.agg #[.int .i64 kind, .int .u64 (n.toNat : Int), .int .i64 i, .bool f, .slice a bs.length c]] w (ThPost w ⟨kind, 0, 0, false, none, 0, []⟩) := by
  have hu := Try.underlying51
  have e1 : (kind == 1) = false := beq_eq_false_iff_ne.2 (by omega)
  have e2 : (kind == 2) = false := beq_eq_false_iff_ne.2 (by omega)
  have e3 : (kind == 3) = false := beq_eq_false_iff_ne.2 (by omega)
  have e4 : (kind == 4) = false := beq_eq_false_iff_ne.2 (by omega)
  have e5 : (kind == 5) = false := beq_eq_false_iff_ne.2 (by omega)
  have e6 : (kind == 6) = false := beq_eq_false_iff_ne.2 (by omega)
  have e7 : (kind == 7) = false := beq_eq_false_iff_ne.2 (by omega)
  have e8 : (kind == 8) = false := beq_eq_false_iff_ne.2 (by omega)
  have e9 : (kind == 9) = false := beq_eq_false_iff_ne.2 (by omega)
  clear hk
  go_enter Try.func34, Try.ntmps34
  go_wp2
  refine bodyPost_ret (results_cell_row rfl _ _ (w.heap.size + 1) _ _ _ _ rfl (mid3 w _ _ _) hu rfl rfl) rfl ?_
  exact ⟨rfl, ((St.alloc' No w _).trans (St.alloc' No _ _)).trans (St.alloc' No _ _)⟩
theorem norm_other {t : Th} (h : ¬ (1 ≤ t.kind ∧ t.kind ≤ 9)) : t.norm = ⟨t.kind, 0, 0, false, none, 0, []⟩ := by
  unfold Th.norm
  rw [if_neg (by omega), if_neg (by omega), if_neg (by omega), if_neg (by omega), if_neg (by omega), if_neg (by omega), if_neg (by omega), if_neg (by omega), if_neg (by omega)]
theorem thing_all (t : Th) (w : World) : Calls Try.prog 34 #[.agg t.cells] w (ThPost w t.norm) := by
  by_cases h : 1 ≤ t.kind ∧ t.kind ≤ 9
  · exact thing_calls t h.1 h.2 w
  · rw [norm_other h]
    obtain ⟨k, n, i, f, a, c, bs⟩ := t
    exact thing_other k h n i f a c bs w
set_option maxRecDepth 100000 in
set_option maxHeartbeats 1000000 in
theorem lay_other (kind : Int) (hk : ¬ (1 ≤ kind ∧ kind ≤ 9)) (w : World) (F : Nat → Prop) (v : Value) (th : Bool) (s : WS) (hw : Wh w F v th s) :
    Calls Try.prog 36 #[v, .agg #[.int .i64 kind, .int .u64 0, .int .i64 0, .bool false, .slice none 0 0]] w (LawLay w F v th s) := by
  have e1 : (kind == 1) = false := beq_eq_false_iff_ne.2 (by omega)
  have e2 : (kind == 2) = false := beq_eq_false_iff_ne.2 (by omega)
  have e3 : (kind == 3) = false := beq_eq_false_iff_ne.2 (by omega)
  have e4 : (kind == 4) = false := beq_eq_false_iff_ne.2 (by omega)
  have e5 : (kind == 5) = false := beq_eq_false_iff_ne.2 (by omega)
  have e6 : (kind == 6) = false := beq_eq_false_iff_ne.2 (by omega)
  have e7 : (kind == 7) = false := beq_eq_false_iff_ne.2 (by omega)
  have e8 : (kind == 8) = false := beq_eq_false_iff_ne.2 (by omega)
  have e9 : (kind == 9) = false := beq_eq_false_iff_ne.2 (by omega)
  have HW := Lib.hid hw
  have HH : Hid (∀ W, Calls Try.prog 20 #[.slice none 0 0] W fun e w' => e = .returned (.slice none 0 0) ∧ St No W No w') := Lib.hid (fun W =>
    (handed_calls none 0 [] (by simp) W (Rd.nil _ _)).mono fun e w' ⟨v, he, hh, hs⟩ => by
      rcases hh with ⟨_, _, rfl⟩ | ⟨x, _, h, _⟩
      · exact ⟨he, hs.drop (fun _ h => h.elim)⟩
      · cases h)
  have HK : Hid (∀ W, Calls Try.prog 24 #[.slice none 0 0, .slice none 0 0] W fun e w' => e = .returned (.bool true) ∧ Dr W w') := Lib.hid (fun W =>
    kept_calls (.slice none 0 0) none 0 [] (by simp) W (.inl ⟨rfl, rfl, rfl⟩) (Rd.nil _ _))
  clear hk hw
  go_enter Try.func36, Try.ntmps36
  go_wp2_with fail
  refine (HH.out _).mono ?_
  rintro e w1 ⟨rfl, hs1⟩
  have hc4 : w1.cell? ⟨w.heap.size, 4, none⟩ = some (.slice none 0 0) := (World.cell?_of_block (hs1.block w.heap.size (by simp) (fun h => h))).trans (by simp)
  have hc0 : w1.cell? ⟨w.heap.size, 0, none⟩ = some (.int .i64 kind) := (World.cell?_of_block (hs1.block w.heap.size (by simp) (fun h => h))).trans (by simp)
  have HS1 := Lib.hid hs1
  clear hs1
  go_wp2_with (go_at_call 24; refine (HK.out _).mono ?_; rintro e w2 ⟨rfl, hd2⟩; have HD2 := Lib.hid hd2; clear hd2)
  go_ret
  have st := ((St.alloc' No w _).trans HS1.out).trans (HD2.out.st No)
  exact ⟨rfl, F, HW.out.st st (Dj.no _), st.wide (fun _ h => h.elim) (fun _ h => .inl h)⟩
/-- a writer that the call itself made, within its limit -/
def WrOn (w0 wr : World) (p : Nat) (lim : Int) (out : List B8) : Prop := ∃ F, Wh wr F (.pointer (some ⟨p, 0, none⟩)) true ⟨lim, out, 0⟩ ∧ Lo w0.heap.size F ∧ St No w0 (Nw w0) wr
theorem WrOn.still {w0 wr w1 : World} {p : Nat} {lim : Int} {out : List B8} {X : Nat → Prop} (h : WrOn w0 wr p lim out) (s : St No wr X w1) : WrOn w0 w1 p lim out := by
  obtain ⟨F, h1, h2, h3⟩ := h
  exact ⟨F, h1.st s (Dj.no _), h2, h3.then s⟩
theorem lay_all (t : Th) (w0 w : World) (p : Nat) (lim : Int) (out : List B8) (h : WrOn w0 w p lim out) (ht : t.norm.ok w) (hin : t.norm.ok w0) (hfit : (out.length : Int) + ((thB t).length : Int) ≤ lim) :
    Calls Try.prog 36 #[.pointer (some ⟨p, 0, none⟩), .agg t.norm.cells] w fun e w' => e = .returned (.bool true) ∧ WrOn w0 w' p lim (out ++ thB t) := by
  obtain ⟨F, hw, hlo, hst⟩ := h
  have hend : ∀ s w', LawLay w F (.pointer (some ⟨p, 0, none⟩)) true s (.returned (.bool true)) w' → s = ⟨lim, out ++ thB t, 0⟩ → WrOn w0 w' p lim (out ++ thB t) := by
    rintro s w' ⟨_, F', hw', hs'⟩ rfl
    refine ⟨F', hw', hlo.st hst.size hs', ?_⟩
    exact ⟨hs'.os.trans hst.os, hs'.tape.trans hst.tape, hs'.output.trans hst.output, Nat.le_trans hst.size hs'.size, fun k hk hn => (hs'.block k (Nat.lt_of_lt_of_le hk hst.size) (fun hf => absurd (hlo k hf) (Nat.not_le.2 hk))).trans (hst.block k hk hn), fun k hk => .inr hk⟩
  by_cases hk : 1 ≤ t.kind ∧ t.kind ≤ 9
  · have hb : thB t = t.norm.bytes := if_pos hk
    refine (lawLay_calls t.norm hk.1 hk.2 w F _ true _ hw ht (hin.rd.apart hlo)).mono ?_
    rintro e w' ⟨rfl, hx⟩
    refine ⟨rfl, hend _ w' ⟨rfl, hx⟩ ?_⟩
    show WS.put ⟨lim, out, 0⟩ t.norm.bytes = _
    rw [WS.put_eq _ _ rfl (by rw [hb] at hfit; show ((t.norm.bytes).length : Int) ≤ lim - (out.length : Int); omega), hb]
  · have hb : thB t = [] := if_neg hk
    have e := norm_other hk
    rw [e]
    refine (lay_other t.kind hk w F _ true _ hw).mono ?_
    rintro e w' ⟨rfl, hx⟩
    exact ⟨rfl, hend _ w' ⟨rfl, hx⟩ (by rw [hb, List.append_nil])⟩
set_option maxRecDepth 100000 in
set_option maxHeartbeats 2000000 in
theorem written_calls (a : Option Addr) (c : Nat) (ts : List Th) (hn : ts.length ≤ 140737488351232) (hfit : (thAll ts).length ≤ 16777216) (w : World) (hs : StepsIn w a ts) :
    Calls Try.prog 54 #[.slice a ts.length c] w fun e w' => ∃ g, e = .returned (.tuple #[.slice (some ⟨g, 0, none⟩) (thAll ts).length (thAll ts).length, .bool true]) ∧ OwB w' (.slice (some ⟨g, 0, none⟩) (thAll ts).length (thAll ts).length) (thAll ts) ∧ w.heap.size ≤ g ∧ St No w (Nw w) w' := by
  have HSI := Lib.hid hs
  have HFT := Lib.hid hfit
  clear hs hfit
  go_enter Try.func54, Try.ntmps54
  go_wp2_with fail
  refine (newWriter_calls 16777216 w).mono ?_
  rintro e w1 (⟨hl, rfl, rfl⟩ | ⟨hl, p0, F0, rfl, hw0, hs0⟩)
  · omega
  have HW0 : Hid (WrOn w w1 p0 16777216 []) := Lib.hid ⟨F0, .inr ⟨rfl, ⟨by simp, by simp, by simp⟩, p0, rfl, hw0⟩, (fun k hk => (hs0.new k hk).elim (fun h => h.elim) id), hs0.toNew⟩
  clear hw0 hs0 hl
  go_wp2_with (go_at_call 32; refine (num_calls _ _).mono ?_; rintro e w3 ⟨rfl, rfl⟩)
  go_loopw [6] (fun i wr => ∃ k : Nat, k ≤ ts.length ∧ i = .int .i64 k ∧ Hid (WrOn w wr p0 16777216 (thAll (ts.take k)))) (fun i _ => ts.length - (intOf i).toNat)
  case atStart => exact ⟨0, by omega, rfl, HW0⟩
  case round =>
    obtain ⟨k, hk, rfl, HW⟩ := hrel
    by_cases hlt : k < ts.length
    · obtain ⟨t, ht⟩ : ∃ t, ts[k] = t := ⟨_, rfl⟩
      have hst : St No w (Nw w) wr := by obtain ⟨_, _, _, h⟩ := HW.out; exact h
      obtain ⟨x, rfl, hc, hok⟩ := (HSI.out.st hst) k t (by rw [List.getElem?_eq_getElem hlt, ht])
      have HK := Lib.hid (Th.norm_ok hok)
      have HK0 : Hid (t.norm.ok w) := Lib.hid (by obtain ⟨_, _, _, h⟩ := HSI.out k t (by rw [List.getElem?_eq_getElem hlt, ht]); exact Th.norm_ok h)
      have hsn := thAll_snoc ts k hlt
      rw [ht] at hsn
      have hle := thAll_take_le ts (k + 1)
      rw [hsn, List.length_append] at hle
      have HSN := Lib.hid hsn
      have HLA : Hid (∀ W, WrOn w W p0 16777216 (thAll (ts.take k)) → t.norm.ok W → Calls Try.prog 36 #[.pointer (some ⟨p0, 0, none⟩), .agg t.norm.cells] W fun e w' => e = .returned (.bool true) ∧ WrOn w w' p0 16777216 (thAll (ts.take k) ++ thB t)) := Lib.hid (fun W h1 h2 =>
        lay_all t w W p0 16777216 _ h1 h2 HK0.out (by have := HFT.out; omega))
      have HTC := Lib.hid (thing_all t)
      unfold ThPost at HTC
      generalize thAll (ts.take k) ++ thB t = nx at *
      generalize thAll (ts.take k) = nw at *
      clear hok ht hsn hle hst
      generalize t.norm = t' at *
      obtain ⟨kind, n, i, f, ta, tc, bs⟩ := t
      obtain ⟨kind', n', i', f', ta', tc', bs'⟩ := t'
      simp only [Th.cells] at HTC HLA
      have c0 : wr.cell? (x.add (k * 5)) = some (.int .i64 kind) := hc 0 _ rfl
      have c1 : wr.cell? ⟨(x.add (k * 5)).block, (x.add (k * 5)).off + 1, none⟩ = some (.int .u64 (n.toNat : Int)) := hc 1 _ rfl
      have c2 : wr.cell? ⟨(x.add (k * 5)).block, (x.add (k * 5)).off + 2, none⟩ = some (.int .i64 i) := hc 2 _ rfl
      have c3 : wr.cell? ⟨(x.add (k * 5)).block, (x.add (k * 5)).off + 3, none⟩ = some (.bool f) := hc 3 _ rfl
      have c4 : wr.cell? ⟨(x.add (k * 5)).block, (x.add (k * 5)).off + 4, none⟩ = some (.slice ta bs.length tc) := hc 4 _ rfl
      clear hc
      go_wp2_with (first
        | (go_at_call 34; refine (HTC.out _).mono ?_; rintro e w3 ⟨rfl, hs3⟩; have HS3 := Lib.hid hs3; clear hs3)
        | (go_at_call 36; refine (HLA.out _ (HW.out.still HS3.out) (HK.out.st HS3.out (.inr (Dj.no _)))).mono ?_; rintro e w4 ⟨rfl, hw4⟩; have HW4 := Lib.hid hw4; clear hw4))
      go_roundw
      case rel => exact ⟨k + 1, by omega, by go_num, Lib.hid (by rw [HSN.out]; exact HW4.out)⟩
      case measure => simp [intOf]; omega
    · obtain rfl : k = ts.length := by omega
      have HTT : Hid (ts.take ts.length = ts) := Lib.hid (List.take_length)
      rw [HTT.out] at HW
      obtain ⟨F, hwh, hlo, hst⟩ := HW.out
      have HO := Lib.hid (wOut_calls wr F _ true _ hwh)
      have HST := Lib.hid hst
      unfold OutPost at HO
      simp only [errT] at HO
      clear hwh hlo hst
      go_wp2_with fail
      refine HO.out.mono ?_
      rintro e w5 (⟨h, _⟩ | ⟨_, g, rfl, ho5, hg5, hs5⟩)
      · simp at h
      have HO5 := Lib.hid ho5
      have HG5 := Lib.hid hg5
      have HS5 := Lib.hid hs5
      clear ho5 hg5 hs5
      go_wp2_with (go_at_call 32; refine (num_calls _ _).mono ?_; rintro e w3 ⟨rfl, rfl⟩)
      go_ret2
      exact ⟨g, rfl, HO5.out, Nat.le_trans HST.out.size HG5.out, HST.out.then HS5.out⟩
end Go.Proofs.Ytfhoekcmkbeabaa
