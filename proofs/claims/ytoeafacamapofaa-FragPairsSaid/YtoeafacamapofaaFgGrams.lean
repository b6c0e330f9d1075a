
/-
  Lists of byte lists of the program's own, each in memory of its own; the walk over the reference's Split.
-/
import Derived.Test.YtoeafacamapofaaFgRef2
namespace Go.Proofs.Ytoeafacamapofaa
open Go.RowKit
set_option linter.unusedVariables false
set_option linter.unusedSimpArgs false

theorem slinfo4 : (Try.prog.info? 25).map (fun i => (i.zero, i.size, i.bytes)) = some (some (.slice none 0 0), 1, 24) := by kernel_rfl
/-- where a list of lists lies -/
def fpG (V : Value) (vs : List Value) : Nat → Prop := fun k => fpV V k ∨ ∃ v ∈ vs, fpV v k
structure Grams (w : World) (V : Value) (vs : List Value) (ds : List (List B8)) : Prop where
  len : vs.length = ds.length
  own : Own w 25 1 V ds.length vs
  each : ∀ (i : Nat) (v : Value) (d : List B8), vs[i]? = some v → ds[i]? = some d → OwB w v d
  off : ∀ (i : Nat) (v : Value), vs[i]? = some v → Dj (fpV v) (fpV V)
  apart : ∀ (i j : Nat) (u v : Value), i ≠ j → vs[i]? = some u → vs[j]? = some v → Dj (fpV u) (fpV v)
theorem Grams.nil (w : World) : Grams w (.slice none 0 0) [] [] := ⟨rfl, Own.nil _ _ _, fun i v d h => by simp at h, fun i v h => by simp at h, fun i j u v _ h => by simp at h⟩
theorem Grams.get {w : World} {V : Value} {vs : List Value} {ds : List (List B8)} (h : Grams w V vs ds) (i : Nat) (hi : i < ds.length) : ∃ v, vs[i]? = some v ∧ OwB w v ds[i] := by
  have hv : i < vs.length := by rw [h.len]; exact hi
  exact ⟨vs[i], List.getElem?_eq_getElem hv, h.each i _ _ (List.getElem?_eq_getElem hv) (List.getElem?_eq_getElem hi)⟩
theorem Grams.mem {w : World} {V : Value} {vs : List Value} {ds : List (List B8)} (h : Grams w V vs ds) {v : Value} (hv : v ∈ vs) : ∃ (i : Nat) (d : List B8), vs[i]? = some v ∧ ds[i]? = some d ∧ OwB w v d := by
  obtain ⟨i, hi⟩ := List.mem_iff_getElem?.1 hv
  have hl : i < ds.length := by rw [← h.len]; exact (List.getElem?_eq_some_iff.1 hi).1
  exact ⟨i, ds[i], hi, List.getElem?_eq_getElem hl, h.each i _ _ hi (List.getElem?_eq_getElem hl)⟩
theorem Grams.in {w : World} {V : Value} {vs : List Value} {ds : List (List B8)} (h : Grams w V vs ds) : In (fpG V vs) w := by
  intro k hk
  rcases hk with hk | ⟨v, hv, hk⟩
  · exact h.own.in k hk
  · obtain ⟨i, d, _, _, ho⟩ := h.mem hv
    exact ho.in k hk
theorem fpG.sub {V : Value} {vs : List Value} {i : Nat} {v : Value} (h : vs[i]? = some v) : ∀ k, fpV v k → fpG V vs k := fun k hk => .inr ⟨v, List.mem_iff_getElem?.2 ⟨i, h⟩, hk⟩
theorem Grams.st {w w' : World} {V : Value} {vs : List Value} {ds : List (List B8)} {F F' : Nat → Prop} (h : Grams w V vs ds) (s : St F w F' w') (hd : Dj F (fpG V vs)) : Grams w' V vs ds :=
  ⟨h.len, h.own.st s (fun k a b => hd k a (.inl b)), fun i v d hv hds => (h.each i v d hv hds).st s (fun k a b => hd k a (fpG.sub hv k b)), h.off, h.apart⟩
/-- what is new lies apart from what was there -/
theorem Lo.djn {w : World} {F G : Nat → Prop} (hF : In F w) (hG : ∀ k, G k → w.heap.size ≤ k) : Dj F G := fun k a b => absurd (hF k a) (Nat.not_lt.2 (hG k b))

theorem In.dj_new {F G : Nat → Prop} {w w' : World} (h : In G w) (s : St No w F w') : Dj F G := fun k a b => (s.new k a).elim (fun h => h.elim) (fun hl => absurd (h k b) (Nat.not_lt.2 hl))
/-- a list of lists behind one more -/
theorem fpG_app {w wa wb w3 : World} {V V' v : Value} {vs : List Value} {G1 : Nat → Prop} (h1 : St No w G1 wa) (h2 : St No wa (fpV v) wb) (h3 : St (fpV V) wb (fpV V') w3) : St (fpG V vs) w (fpG V' (vs ++ [v])) w3 :=
  ⟨h3.os.trans (h2.os.trans h1.os), h3.tape.trans (h2.tape.trans h1.tape), h3.output.trans (h2.output.trans h1.output), Nat.le_trans h1.size (Nat.le_trans h2.size h3.size),
   fun k hk hn => (h3.block k (Nat.lt_of_lt_of_le hk (Nat.le_trans h1.size h2.size)) (fun h => hn (.inl h))).trans ((h2.block k (Nat.lt_of_lt_of_le hk h1.size) (fun h => h)).trans (h1.block k hk (fun h => h))),
   fun k hk => by
    rcases hk with hk | ⟨u, hu, hk⟩
    · rcases h3.new k hk with h | h
      · exact .inl (.inl h)
      · exact .inr (Nat.le_trans (Nat.le_trans h1.size h2.size) h)
    · rcases List.mem_append.1 hu with hu | hu
      · exact .inl (.inr ⟨u, hu, hk⟩)
      · simp only [List.mem_singleton] at hu
        subst hu
        exact (h2.new k hk).elim (fun h => h.elim) (fun h => .inr (Nat.le_trans h1.size h))⟩
/-- append of one list of its own -/
theorem wpList_appG {w : World} {ops : Array Oper} {rest : List Oper} {o : Oper} {ac : Act} {Q : Exit → Act → World → Prop} (hgd : o.guard = none) (s x : Operand)
    (ho : o.op = .call { callee := .builtin .append, args := #[s, x], argTypes := #[41, 41] })
    (V : Value) (vs : List Value) (ds : List (List B8)) (hs : ac.eval s = V) (hown : Grams w V vs ds) (g : Nat) (v : Value) (d : List B8) (hx : ac.eval x = .slice (some ⟨g, 0, none⟩) 1 1)
    (hg : Ob w g 25 #[v]) (hv : OwB w v d) (hd : Dj (fpV v) (fpG V vs))
    (hlen : ds.length ≤ 4294967296)
    (h : ∀ V' w', Grams w' V' (vs ++ [v]) (ds ++ [d]) → St (fpV V) w (fpV V') w' → wpList Try.prog ops Q rest (ac.put o.dst V') w') : wpList Try.prog ops Q (o :: rest) ac w := by
  obtain ⟨i, hi, hz, hsz, hby⟩ := info_parts slinfo4
  obtain ⟨a0, c0, e0, _⟩ := hv.form
  refine wpList_app hgd s x _ ho _ i (.slice none 0 0) 1 24 Try.underlying41 hi hz hsz hby rfl (by decide) V ds.length vs hs hown.own (some ⟨g, 0, none⟩) 1 1 [v] hx ?_ (fun h => by cases h) (by unfold maxLen; omega) (by omega) ?_
  · exact ⟨rfl, hg.rd, fun u hu => by simp at hu; subst hu; rw [e0]; rfl⟩
  · intro V' w' h1 h2 h3
    have hnV : ∀ k, fpV V' k → fpV V k ∨ w.heap.size ≤ k := h2.new
    have hvin := hv.in
    have hdv : Dj (fpV v) (fpV V') := fun k a b => (hnV k b).elim (fun b => hd k a (.inl b)) (fun hl => absurd (hvin k a) (Nat.not_lt.2 hl))
    refine h V' w' ⟨by simp [hown.len], by rw [List.length_append]; exact h1, ?_, ?_, ?_⟩ h2
    · intro i u e hu he
      by_cases hlt : i < vs.length
      · rw [List.getElem?_append_left hlt] at hu
        rw [List.getElem?_append_left (by rw [← hown.len]; exact hlt)] at he
        exact (hown.each i u e hu he).st h2 (fun k a b => hown.off i u hu k b a)
      · have hi2 : i = vs.length := by have := (List.getElem?_eq_some_iff.1 hu).1; simp at this; omega
        subst hi2
        rw [List.getElem?_append_right (Nat.le_refl _), Nat.sub_self] at hu
        rw [List.getElem?_append_right (by rw [hown.len]; exact Nat.le_refl _), hown.len, Nat.sub_self] at he
        cases hu; cases he
        exact hv.st h2 (fun k a b => hd k b (.inl a))
    · intro i u hu
      by_cases hlt : i < vs.length
      · rw [List.getElem?_append_left hlt] at hu
        have hl : i < ds.length := by rw [← hown.len]; exact hlt
        have hin := (hown.each i u _ hu (List.getElem?_eq_getElem hl)).in
        exact fun k a b => (hnV k b).elim (hown.off i u hu k a) (fun hl => absurd (hin k a) (Nat.not_lt.2 hl))
      · have hi2 : i = vs.length := by have := (List.getElem?_eq_some_iff.1 hu).1; simp at this; omega
        subst hi2
        rw [List.getElem?_append_right (Nat.le_refl _), Nat.sub_self] at hu
        cases hu
        exact hdv
    · intro i j u1 u2 hne hu1 hu2
      have key : ∀ (i : Nat) (u : Value), (vs ++ [v])[i]? = some u → (i < vs.length ∧ vs[i]? = some u) ∨ (i = vs.length ∧ u = v) := by
        intro i u hu
        by_cases hlt : i < vs.length
        · rw [List.getElem?_append_left hlt] at hu
          exact .inl ⟨hlt, hu⟩
        · have hi2 : i = vs.length := by have := (List.getElem?_eq_some_iff.1 hu).1; simp at this; omega
          subst hi2
          rw [List.getElem?_append_right (Nat.le_refl _), Nat.sub_self] at hu
          cases hu
          exact .inr ⟨rfl, rfl⟩
      rcases key i u1 hu1 with ⟨_, k1⟩ | ⟨e1, rfl⟩
      · rcases key j u2 hu2 with ⟨_, k2⟩ | ⟨e2, rfl⟩
        · exact hown.apart i j u1 u2 hne k1 k2
        · exact fun k a b => hd k b (fpG.sub k1 k a)
      · rcases key j u2 hu2 with ⟨_, k2⟩ | ⟨e2, rfl⟩
        · exact fun k a b => hd k a (fpG.sub k2 k b)
        · omega
theorem ob_one4 {w : World} (v : Value) : Ob (w.alloc (.cells #[v] 25)) w.heap.size 25 #[v] := Ob.alloc w _ _

/-- a packet's datagrams in new memory, and the error -/
def GOut (w : World) (ds : List (List B8)) (er : Int) (e : Ending) (w' : World) : Prop :=
  ∃ V vs, e = .returned (.tuple #[V, .int .i64 er]) ∧ Grams w' V vs ds ∧ St No w (fpG V vs) w'
theorem GOut.nil {w w' : World} {ds : List (List B8)} {er : Int} {e : Ending} (hd : ds = []) (he : e = .returned (.tuple #[.slice none 0 0, .int .i64 er])) (s : St No w No w') : GOut w ds er e w' :=
  ⟨_, [], he, by subst hd; exact Grams.nil _, s.drop (fun k hk => by rcases hk with hk | ⟨v, hv, _⟩ <;> simp [fpV, Value.ownBlock] at *)⟩
theorem splitL_take (packet : List B8) (id : BitVec 64) (count i : Nat) (h : i < count) : (splitL packet id count).take (i + 1) = (splitL packet id count).take i ++ [dgram (fragB packet id count i)] := by
  unfold splitL
  rw [List.take_succ_eq_append_getElem (by simp; exact h)]
  simp
theorem splitL_len (packet : List B8) (id : BitVec 64) (count : Nat) : (splitL packet id count).length = count := by simp [splitL]
set_option maxRecDepth 100000 in
set_option maxHeartbeats 2000000 in
theorem refSplit_calls (a : Option Addr) (c : Nat) (xs : List B8) (hl : xs.length ≤ 140737488351232) (id : BitVec 64) (mtu : Int) (w : World) (ha : Bs w a xs) :
    Calls Try.prog 32 #[.slice a xs.length c, .int .u64 (id.toNat : Int), .int .i64 mtu] w (GOut w (splitB xs id mtu) (splitE xs.length mtu)) := by
  have HSE : Hid (splitE xs.length mtu = if mtu < 64 ∨ 1024 < mtu then 40 else if xs.length = 0 ∨ 4096 < xs.length then 41 else 0) := Lib.hid rfl
  have HSB : Hid (splitB xs id mtu = if splitE xs.length mtu = 0 then splitL xs id (countN xs.length mtu.toNat) else []) := Lib.hid rfl
  by_cases h1 : mtu < 64
  · rw [if_pos (.inl h1)] at HSE
    rw [HSE.out, if_neg (by decide)] at HSB
    have hd1 : decide (mtu < 64) = true := decide_eq_true h1
    clear ha
    go_enter Try.func32, Try.ntmps32
    go_wp2
    go_ret2
    exact GOut.nil HSB.out (by rw [HSE.out]; rfl) (St.refl _ _)
  by_cases h2 : 1024 < mtu
  · rw [if_pos (.inr h2)] at HSE
    rw [HSE.out, if_neg (by decide)] at HSB
    have hd1 : decide (mtu < 64) = false := decide_eq_false h1
    have hd2 : decide (1024 < mtu) = true := decide_eq_true h2
    clear ha
    go_enter Try.func32, Try.ntmps32
    go_wp2
    go_ret2
    exact GOut.nil HSB.out (by rw [HSE.out]; rfl) (St.refl _ _)
  rw [if_neg (by omega)] at HSE
  have hd1 : decide (mtu < 64) = false := decide_eq_false h1
  have hd2 : decide (1024 < mtu) = false := decide_eq_false h2
  by_cases h3 : xs.length = 0
  · rw [if_pos (.inl h3)] at HSE
    rw [HSE.out, if_neg (by decide)] at HSB
    have hd3 : decide ((xs.length : Int) < 1) = true := decide_eq_true (by omega)
    have hd4 : decide (xs.length < 1) = true := decide_eq_true (by omega)
    clear ha h3
    go_enter Try.func32, Try.ntmps32
    go_wp2
    go_ret2
    exact GOut.nil HSB.out (by rw [HSE.out]; rfl) (St.refl _ _)
  by_cases h4 : 4096 < xs.length
  · rw [if_pos (.inr h4)] at HSE
    rw [HSE.out, if_neg (by decide)] at HSB
    have hd3 : decide ((xs.length : Int) < 1) = false := decide_eq_false (by omega)
    have hd4 : decide (4096 < (xs.length : Int)) = true := decide_eq_true (by omega)
    clear ha h3
    go_enter Try.func32, Try.ntmps32
    go_wp2
    go_ret2
    exact GOut.nil HSB.out (by rw [HSE.out]; rfl) (St.refl _ _)
  rw [if_neg (by omega)] at HSE
  rw [HSE.out, if_pos rfl] at HSB
  obtain ⟨m, rfl⟩ : ∃ m : Nat, mtu = (m : Int) := ⟨mtu.toNat, by omega⟩
  rw [Int.toNat_natCast] at HSB
  have HFA := Lib.hid (split_facts (len := xs.length) (mtu := m) (by omega) (by omega) (by omega) (by omega))
  have HCL : Hid (∀ j, j < countN xs.length m ↔ j * (m - 18) < xs.length) := Lib.hid (fun j => ceil_lt (by omega))
  have hd3 : decide ((xs.length : Int) < 1) = false := decide_eq_false (by omega)
  have hd4 : decide (4096 < (xs.length : Int)) = false := decide_eq_false (by omega)
  have hd5 : decide (xs.length < 1) = false := decide_eq_false (by omega)
  have hd6 : decide (4096 < xs.length) = false := decide_eq_false (by omega)
  have hC1 := HFA.out.1
  have hC2 := HFA.out.2.1
  have HA := Lib.hid ha
  have hl2 : xs.length ≤ 4096 := by omega
  have hm1 : 64 ≤ m := by omega
  have hm2 : m ≤ 1024 := by omega
  have hx1 : 1 ≤ xs.length := by omega
  clear ha h1 h2 h3 h4 HFA
  generalize hC : countN xs.length m = C at *
  clear hC
  go_enter Try.func32, Try.ntmps32
  go_wp2
  go_loopw [8] (fun s wr => ∃ j : Nat, 1 ≤ j ∧ j ≤ C ∧ s = .int .i64 j ∧ wr = w) (fun s _ => C - (intOf s).toNat)
  case atStart => exact ⟨1, by omega, by omega, rfl, rfl⟩
  case round =>
    obtain ⟨j, hj1, hj, rfl, rfl⟩ := hrel
    have hm : j * (m - 18) ≤ 90 * 1024 := Nat.mul_le_mul (by omega) (by omega)
    have hw : IntKind.i64.wrap ((j : Int) * ((m : Int) - 18)) = ((j * (m - 18) : Nat) : Int) := by
      have e : ((j * (m - 18) : Nat) : Int) = (j : Int) * ((m : Int) - 18) := by rw [Int.natCast_mul, Int.natCast_sub (by omega)]; rfl
      rw [IntKind.wrap_i64, ← e]; omega
    by_cases hlt : j < C
    · have h1 := (HCL.out j).1 hlt
      have h2 : (((j * (m - 18) : Nat) : Int)) < (xs.length : Int) := by omega
      generalize j * (m - 18) = jc at *
      go_wp2
      exact ⟨⟨j + 1, by omega, by omega, by go_num, trivial⟩, by simp [intOf]; omega⟩
    · obtain rfl : j = C := by omega
      have h1 : ¬ j * (m - 18) < xs.length := fun h => hlt ((HCL.out j).2 h)
      have h1d : decide (j * (m - 18) < xs.length) = false := decide_eq_false h1
      generalize j * (m - 18) = jc at *
      have h1i : decide ((jc : Int) < (xs.length : Int)) = false := decide_eq_false (by omega)
      clear h1
      go_wp2
      go_loopw [9, 10, 11, 12] (fun V i _ _ wr2 => ∃ (k : Nat) (vs : List Value), k ≤ j ∧ i = .int .i64 k ∧ Hid (Grams wr2 V vs ((splitL xs id j).take k)) ∧ Hid (St No wr (fpG V vs) wr2)) (fun _ i _ _ _ => j - (intOf i).toNat)
      case atStart => exact ⟨0, [], by omega, rfl, Lib.hid (by rw [List.take_zero]; exact Grams.nil _), Lib.hid ((St.refl No _).drop (fun k hk => by rcases hk with hk | ⟨v, hv, _⟩ <;> simp [fpV, Value.ownBlock] at *))⟩
      case round =>
        obtain ⟨k, vs, hk, rfl, HG, HS⟩ := hrel
        by_cases hlt2 : k < j
        · have HSN := Lib.hid (splitL_take xs id j k hlt2)
          have HTL : Hid (((splitL xs id j).take k).length ≤ 90) := Lib.hid (by rw [List.length_take]; omega)
          generalize (splitL xs id j).take k = pre at *
          have HB2 := Lib.hid (HA.out.st HS.out (Dj.no _))
          go_wp2_with fail
          refine (cut_calls a c xs hl2 j k (by omega) (by omega) (by omega) _ HB2.out).mono ?_
          rintro e w1 ⟨v1, rfl, ho1, hs1⟩
          obtain ⟨a1, c1, rfl, hb1, hn1⟩ := ho1.any
          have HDG := Lib.hid (datagram_calls (fragB xs id j k) a1 c1 hn1 (by show (partB xs j k).length ≤ _; rw [partB_len]; omega) (by show k ≤ 255; omega) (by show j ≤ 255; omega) (by show xs.length ≤ 65535; omega) w1 hb1)
          have HS1 := Lib.hid hs1
          have HG1 := Lib.hid (HG.out.st hs1 (Dj.no _))
          unfold Fg.cells fragB at HDG
          simp only at HDG
          have HPL := Lib.hid (show (partB xs j k).length = (partB xs j k).length from rfl)
          clear ho1 hs1 hb1 hn1
          go_wp2_with fail
          refine HDG.out.mono ?_
          rintro e w2 ⟨v2, rfl, ho2, hs2⟩
          obtain ⟨a2, c2, e2, _⟩ := ho2.form
          generalize (dgram { id := id, index := k, count := j, total := xs.length, part := partB xs j k }).length = n2 at e2
          subst e2
          have HO2 := Lib.hid ho2
          have HS2 := Lib.hid hs2
          have HG2 := Lib.hid (HG1.out.st hs2 (Dj.no _))
          have HDJ : Hid (Dj (fpV (.slice a2 n2 c2)) (fpG u9 vs)) := Lib.hid (HG1.out.in.dj_new hs2)
          clear ho2 hs2
          go_wp2_with (at_builtin; refine wpList_appG rfl (.tmp 53) (.tmp 55) rfl _ vs pre rfl (HG2.out.st (St.alloc' No _ _) (Dj.no _)) _ (.slice a2 n2 c2) _ rfl (ob_one4 _) (HO2.out.newB _) HDJ.out (by have := HTL.out; omega) ?_; intro V3 w3 hg3 hs3; have HG3 := Lib.hid hg3; have HS3 := Lib.hid hs3; clear hg3 hs3)
          go_roundw
          case rel => exact ⟨k + 1, vs ++ [.slice a2 n2 c2], by omega, by go_num, Lib.hid (by rw [HSN.out]; exact HG3.out), Lib.hid (HS.out.trans (fpG_app HS1.out (HS2.out.trans (St.alloc' (fpV (.slice a2 n2 c2)) _ _)) HS3.out))⟩
          case measure => simp [intOf]; omega
        · obtain rfl : k = j := by omega
          have hg := HG.out
          rw [List.take_of_length_le (by rw [splitL_len]; exact Nat.le_refl _)] at hg
          have HG1 := Lib.hid hg
          clear hg HG
          go_wp2
          go_ret2
          exact ⟨_, vs, by rw [HSE.out]; rfl, by rw [HSB.out]; exact HG1.out, HS.out⟩
end Go.Proofs.Ytoeafacamapofaa
