
/-
  The walks over the program's Reader: open, take.
  The walks over the program's Reader: number, U8 to U64.
-/
import Derived.Test.YtoeafacamapofaaBytes
import Derived.Deep.Slices
namespace Go.Proofs.Ytoeafacamapofaa
open Go.RowKit
set_option linter.unusedVariables false
set_option linter.unusedSimpArgs false

/-- a reader's state -/
structure RS where
  rest : List B8
  err : Int
/-- a reader in memory; its bytes lie in D -/
def Rr (w : World) (p : Nat) (D : Nat → Prop) (s : RS) : Prop :=
  ∃ a c, Ob w p 203 #[.slice a s.rest.length c, .int .i64 s.err] ∧ Bs w a s.rest ∧ s.rest.length ≤ c ∧ c ≤ maxLen ∧ (a = none → c = 0) ∧ (∀ k, fpA a k → D k)
def fpP (p : Nat) : Nat → Prop := fun k => k = p
theorem Rr.st {w w' : World} {F F' : Nat → Prop} {p : Nat} {D : Nat → Prop} {s : RS} (h : Rr w p D s) (t : St F w F' w') (hp : ¬ F p) (hd : Dj F D) : Rr w' p D s := by
  obtain ⟨a, c, ho, hb, h1, h2, h3, h4⟩ := h
  exact ⟨a, c, ho.move (t.block p ho.lt hp), hb.st t (fun k hk hf => hd k hk (h4 k hf)), h1, h2, h3, h4⟩
/-- a reader's handle, nil or not -/
def Rh (w : World) (v : Value) (th : Bool) (p : Nat) (D : Nat → Prop) (s : RS) : Prop :=
  (th = false ∧ v = .pointer none) ∨ (th = true ∧ v = .pointer (some ⟨p, 0, none⟩) ∧ Rr w p D s ∧ ¬ D p)
theorem Rh.st {w w' : World} {F F' : Nat → Prop} {v : Value} {th : Bool} {p : Nat} {D : Nat → Prop} {s : RS} (h : Rh w v th p D s) (t : St F w F' w') (hp : ¬ F p) (hd : Dj F D) : Rh w' v th p D s := by
  rcases h with h | ⟨h1, h2, h3, h4⟩
  · exact .inl h
  · exact .inr ⟨h1, h2, h3.st t hp hd, h4⟩
/-- it still reads -/
def opens (th : Bool) (s : RS) : Bool := th && decide (s.err = 0)

set_option maxRecDepth 100000 in
theorem open_calls (w : World) (v : Value) (th : Bool) (p : Nat) (D : Nat → Prop) (s : RS) (h : Rh w v th p D s) :
    Calls Try.prog 134 #[v] w fun e w' => e = .returned (.bool (opens th s)) ∧ w = w' := by
  rcases h with ⟨rfl, rfl⟩ | ⟨rfl, rfl, hr, _⟩
  · go_enter Try.func134, Try.ntmps134
    go_wp2
    go_ret
    exact ⟨rfl, rfl⟩
  · obtain ⟨a, c, ho, _⟩ := hr
    have k1 : w.cell? ⟨p, 1, none⟩ = some (.int .i64 s.err) := by rw [ho.cell 1]; rfl
    obtain ⟨rest, err⟩ := s
    simp only at k1
    clear ho
    by_cases he : err = 0
    · subst he
      go_enter Try.func134, Try.ntmps134
      go_wp2
      go_ret
      exact ⟨rfl, rfl⟩
    · have hb : (err == 0) = false := beq_eq_false_iff_ne.2 he
      have hd : decide (err = 0) = false := decide_eq_false he
      have HD := Lib.hid hd
      clear he hd
      go_enter Try.func134, Try.ntmps134
      go_wp2
      go_ret
      exact ⟨by unfold opens; rw [HD.out]; rfl, rfl⟩

/-- what a taking leaves -/
def RS.took (s : RS) (n : Nat) : RS := if s.err = 0 then (if n ≤ s.rest.length then ⟨s.rest.drop n, 0⟩ else ⟨s.rest, 21⟩) else s
def takes (th : Bool) (s : RS) (n : Nat) : Bool := opens th s && decide (n ≤ s.rest.length)
def TakePost (w : World) (v : Value) (th : Bool) (p : Nat) (D : Nat → Prop) (s : RS) (n : Nat) (e : Ending) (w' : World) : Prop :=
  Rh w' v th p D (s.took n) ∧ St (fpP p) w (fpP p) w' ∧
  ((takes th s n = true ∧ ∃ b, e = .returned (.tuple #[.slice b n n, .bool true]) ∧ Bs w' b (s.rest.take n) ∧ (∀ k, fpA b k → D k) ∧ (b = none → n = 0)) ∨
   (takes th s n = false ∧ e = .returned (.tuple #[.slice none 0 0, .bool false])))
theorem Bs.take {w : World} {a : Option Addr} {xs : List B8} (h : Bs w a xs) (n : Nat) : Bs w a (xs.take n) := by
  have := Rd.take h n
  rw [bv_take] at this
  exact this
theorem Bs.drop {w : World} {a : Option Addr} {xs : List B8} (h : Bs w a xs) (n : Nat) : Bs w (a.map (fun x => x.add n)) (xs.drop n) := by
  intro i v hv
  have hv2 : (bv xs)[n + i]? = some v := by
    unfold bv at hv ⊢
    rw [List.getElem?_map, List.getElem?_drop] at hv
    rw [List.getElem?_map]
    exact hv
  obtain ⟨x, rfl, hx⟩ := h (n + i) v hv2
  refine ⟨x.add n, rfl, ?_⟩
  rw [Go.Deep.add_add]
  exact hx
theorem fpA_add {a : Option Addr} {n k : Nat} : fpA (a.map (fun x => x.add n)) k ↔ fpA a k := by
  unfold fpA
  constructor
  · rintro ⟨x, hx, rfl⟩
    cases a with
    | none => cases hx
    | some y => cases hx; exact ⟨y, rfl, (addr_block y n).symm⟩
  · rintro ⟨x, rfl, rfl⟩
    exact ⟨x.add n, rfl, addr_block x n⟩
theorem take_done (w : World) (p : Nat) (D : Nat → Prop) (n : Nat) (rest : List B8) (a : Option Addr) (c : Nat) (a' : Option Addr) (c' : Nat) (ha : (c = n ∧ a' = a ∧ c' = 0) ∨ (a' = a.map (fun x => x.add n) ∧ c' = c - n)) (hle : n ≤ rest.length) (h1 : rest.length ≤ c) (h2 : c ≤ 2 ^ 63 - 1)
    (h3 : a = none → c = 0) (h4 : ∀ k, fpA a k → D k) (hd : ¬ D p) (hb : Bs w a rest) (ho : Ob w p 203 #[.slice a rest.length c, .int .i64 0]) (ht : takes true ⟨rest, 0⟩ n = true)
    {e : Ending} (he : e = .returned (.tuple #[.slice a n n, .bool true])) :
    TakePost w (.pointer (some ⟨p, 0, none⟩)) true p D ⟨rest, 0⟩ n e (w.setCell ⟨p, 0, none⟩ (.slice a' (rest.length - n) c')) := by
  have hfp : ∀ k, fpP p k → ¬ fpA a k := fun k hk hf => hd (by have e : k = p := hk; rw [← e]; exact h4 k hf)
  refine ⟨.inr ⟨rfl, rfl, ?_, hd⟩, St.setCell _ _ _ rfl, .inl ⟨ht, a, he, ?_, h4, fun h => by have := h3 h; omega⟩⟩
  · unfold RS.took
    rw [if_pos rfl, if_pos hle]
    refine ⟨a', c', ?_, ?_, ?_, ?_, ?_, ?_⟩
    · have := ho.set 0 (.slice a' (rest.length - n) c')
      simp only [List.length_drop]
      exact this
    · rcases ha with ⟨rfl, rfl, rfl⟩ | ⟨rfl, rfl⟩
      · have : rest.length = c := by omega
        rw [List.drop_eq_nil_of_le (by show rest.length ≤ c; omega)]
        exact Rd.nil _ _
      · exact (hb.drop n).st (St.setCell (F := fpP p) _ _ _ rfl) (fun k hk hf => hfp k hk (fpA_add.1 hf))
    · simp only [List.length_drop]; rcases ha with ⟨rfl, rfl, rfl⟩ | ⟨rfl, rfl⟩ <;> omega
    · unfold maxLen; rcases ha with ⟨rfl, rfl, rfl⟩ | ⟨rfl, rfl⟩ <;> omega
    · rcases ha with ⟨rfl, rfl, rfl⟩ | ⟨rfl, rfl⟩
      · exact fun _ => rfl
      · intro h; cases a with
        | none => have := h3 rfl; omega
        | some x => cases h
    · rcases ha with ⟨rfl, rfl, rfl⟩ | ⟨rfl, rfl⟩
      · exact h4
      · exact fun k hk => h4 k (fpA_add.1 hk)
  · exact (hb.take n).st (St.setCell (F := fpP p) _ _ _ rfl) hfp
set_option maxRecDepth 100000 in
set_option maxHeartbeats 1000000 in
theorem take_calls (n : Nat) (hn : n ≤ 9223372036854775807) (w : World) (v : Value) (th : Bool) (p : Nat) (D : Nat → Prop) (s : RS) (h : Rh w v th p D s) :
    Calls Try.prog 118 #[v, .int .i64 n] w (TakePost w v th p D s n) := by
  have HO := Lib.hid (open_calls w v th p D s h)
  have HH := Lib.hid h
  cases hop : opens th s with
  | false =>
    rw [hop] at HO
    have HOP := Lib.hid hop
    clear hop h
    go_enter Try.func118, Try.ntmps118
    go_wp2_with fail
    refine HO.out.mono ?_
    rintro e w1 ⟨rfl, rfl⟩
    go_wp2
    go_ret2
    refine ⟨?_, St.refl _ _, .inr ⟨by unfold takes; rw [HOP.out]; rfl, rfl⟩⟩
    rcases HH.out with h | ⟨rfl, h2⟩
    · exact .inl h
    · have he : ¬ s.err = 0 := by have := HOP.out; simpa [opens] using this
      unfold RS.took
      rw [if_neg he]
      exact .inr ⟨rfl, h2⟩
  | true =>
    rw [hop] at HO
    have HOP := Lib.hid hop
    clear hop
    rcases h with ⟨rfl, rfl⟩ | ⟨rfl, rfl, hr, hdp⟩
    · exact absurd HOP.out (by simp [opens])
    · have he : s.err = 0 := by have := HOP.out; simpa [opens] using this
      obtain ⟨rest, err⟩ := s
      simp only at he
      subst he
      obtain ⟨a, c, ho, hb, h1, h2, h3, h4⟩ := hr
      have k0 : w.cell? ⟨p, 0, none⟩ = some (.slice a rest.length c) := by rw [ho.cell 0]; rfl
      have k1 : w.cell? ⟨p, 1, none⟩ = some (.int .i64 0) := by rw [ho.cell 1]; rfl
      have f0 := ho.free 0
      have f1 := ho.free 1
      have HOB := Lib.hid ho
      have HB := Lib.hid hb
      have H3 := Lib.hid h3
      have H4 := Lib.hid h4
      have HDP := Lib.hid hdp
      simp only at h1
      unfold maxLen at h2
      clear ho hb h3 h4 hdp
      by_cases hle : n ≤ rest.length
      · have HT : Hid (takes true ⟨rest, 0⟩ n = true) := Lib.hid (by simp [takes, opens, hle])
        go_enter Try.func118, Try.ntmps118
        go_wp2_with fail
        refine HO.out.mono ?_
        rintro e w1 ⟨rfl, rfl⟩
        go_wp2
        all_goals go_ret2
        all_goals refine take_done w p D n rest a c _ _ (by first | (subst_vars; exact .inl ⟨rfl, rfl, rfl⟩) | exact .inr ⟨rfl, rfl⟩) hle h1 h2 H3.out H4.out HDP.out HB.out ?_ HT.out rfl
        · subst_vars
          exact HOB.out
        · exact HOB.out
      · have HT : Hid (takes true ⟨rest, 0⟩ n = false) := Lib.hid (by simp [takes, opens]; omega)
        have HLE := Lib.hid hle
        go_enter Try.func118, Try.ntmps118
        go_wp2_with fail
        refine HO.out.mono ?_
        rintro e w1 ⟨rfl, rfl⟩
        go_wp2
        go_ret2
        refine ⟨?_, St.setCell _ _ _ rfl, .inr ⟨HT.out, rfl⟩⟩
        unfold RS.took
        rw [if_pos rfl, if_neg HLE.out]
        exact .inr ⟨rfl, rfl, ⟨a, c, HOB.out.set 1 _, HB.out.st (St.setCell (F := fpP p) _ _ _ rfl) (fun k hk hf => HDP.out (by have e : k = p := hk; rw [← e]; exact H4.out k hf)), h1, h2, H3.out, H4.out⟩, HDP.out⟩
end Go.Proofs.Ytoeafacamapofaa
namespace Go.Proofs.Ytoeafacamapofaa
open Go.RowKit
set_option linter.unusedVariables false
set_option linter.unusedSimpArgs false

/-- the number whose bytes these are, the highest first -/
def numStep (x : BitVec 64) (c : B8) : BitVec 64 := (x <<< 8) ||| c.setWidth 64
def numB (xs : List B8) : BitVec 64 := xs.foldl numStep 0
theorem step_or (x : BitVec 64) (c : B8) : bits .or .u64 (IntKind.u64.wrap ((x.toNat : Int) * 256)) (c.toNat : Int) = ((numStep x c).toNat : Int) := by
  have h := bits_or_u64 (x <<< 8) (c.setWidth 64)
  have e1 : ((x <<< 8).toNat : Int) = IntKind.u64.wrap ((x.toNat : Int) * 256) := by
    rw [wrap_u64, BitVec.toNat_shiftLeft, Nat.shiftLeft_eq]
    omega
  have e2 : ((c.setWidth 64).toNat : Int) = (c.toNat : Int) := by
    have := c.isLt
    rw [BitVec.toNat_setWidth, Nat.mod_eq_of_lt (by omega)]
  rw [e1, e2] at h
  exact h
theorem numB_succ (xs : List B8) (k : Nat) (h : k < xs.length) : numB (xs.take (k + 1)) = numStep (numB (xs.take k)) xs[k] := by
  unfold numB
  rw [List.take_succ_eq_append_getElem h, List.foldl_append]
  rfl
/-- the number that is taken -/
def numT (th : Bool) (s : RS) (n : Nat) : BitVec 64 := if takes th s n then numB (s.rest.take n) else 0
def NumPost (w : World) (v : Value) (th : Bool) (p : Nat) (D : Nat → Prop) (s : RS) (n : Nat) (e : Ending) (w' : World) : Prop :=
  Rh w' v th p D (s.took n) ∧ St (fpP p) w (fpP p) w' ∧ e = .returned (.int .u64 ((numT th s n).toNat : Int))
theorem TakePost.one {w w' : World} {v : Value} {th : Bool} {p : Nat} {D : Nat → Prop} {s : RS} {n : Nat} {e : Ending} (h : TakePost w v th p D s n e w') :
    ∃ b xs, e = .returned (.tuple #[.slice b xs.length xs.length, .bool (takes th s n)]) ∧ Bs w' b xs ∧ numT th s n = numB xs ∧ xs.length ≤ n := by
  obtain ⟨_, _, ⟨ht, b, rfl, hb, _, hn⟩ | ⟨ht, rfl⟩⟩ := h
  · have hl : (s.rest.take n).length = n := by
      have := ht; simp [takes] at this; simp; omega
    refine ⟨b, s.rest.take n, by rw [hl, ht], hb, by unfold numT; rw [if_pos ht], by omega⟩
  · exact ⟨none, [], by rw [ht]; rfl, Rd.nil _ _, by unfold numT; rw [if_neg (by rw [ht]; simp)]; rfl, by simp⟩

set_option maxRecDepth 100000 in
set_option maxHeartbeats 1000000 in
theorem readNumber_calls (n : Nat) (hn : n ≤ 9223372036854775807) (w : World) (v : Value) (th : Bool) (p : Nat) (D : Nat → Prop) (s : RS) (h : Rh w v th p D s) :
    Calls Try.prog 119 #[v, .int .i64 n] w (NumPost w v th p D s n) := by
  have HH := Lib.hid h
  clear h
  go_enter Try.func119, Try.ntmps119
  go_wp2_with fail
  refine (take_calls n hn w v th p D s HH.out).mono ?_
  rintro e w1 hp
  obtain ⟨b, xs, rfl, hb, hnum, hxl⟩ := hp.one
  have HP1 := Lib.hid hp.1
  have HP2 := Lib.hid hp.2.1
  have HNUM := Lib.hid hnum
  have HB := Lib.hid hb
  generalize takes th s n = tk at *
  clear hp hb hnum
  go_wp2
  go_loopw [7, 18] (fun x i wr => ∃ k : Nat, k ≤ xs.length ∧ i = .int .i64 k ∧ x = .int .u64 ((numB (xs.take k)).toNat : Int) ∧ wr = w1) (fun _ i _ => xs.length - (intOf i).toNat)
  case atStart => exact ⟨0, by omega, rfl, rfl, rfl⟩
  case round =>
    obtain ⟨k, hk, rfl, rfl, rfl⟩ := hrel
    by_cases hlt : k < xs.length
    · obtain ⟨x, hx⟩ : ∃ x, numB (xs.take k) = x := ⟨_, rfl⟩
      have HX := Lib.hid hx
      rw [hx]
      clear hx
      obtain ⟨y, rfl, hc⟩ := HB.out.at k hlt
      obtain ⟨bt, hbt⟩ : ∃ bt, xs[k] = bt := ⟨_, rfl⟩
      rw [hbt] at hc
      have HBT := Lib.hid hbt
      clear hbt
      have hst := step_or x bt
      go_wp2
      refine ⟨⟨k + 1, by omega, by go_num, ?_, trivial⟩, by simp [intOf]; omega⟩
      rw [numB_succ xs k hlt, HX.out, HBT.out]
    · obtain rfl : k = xs.length := by omega
      go_wp2
      go_ret
      refine ⟨HP1.out, HP2.out, ?_⟩
      rw [HNUM.out, List.take_length]
      rfl

theorem cutU8 (n : BitVec 64) (X : Int) (h : X = (n.toNat : Int) % 256 ∨ X = IntKind.u8.wrap (n.toNat : Int)) : X = ((n.setWidth 8).toNat : Int) := by
  rcases h with rfl | rfl
  · rw [BitVec.toNat_setWidth]; simp
  · rw [show IntKind.u8.wrap (n.toNat : Int) = (n.toNat : Int) % 256 by simp [IntKind.wrap, IntKind.bits, IntKind.signed], BitVec.toNat_setWidth]; simp
theorem cutU16 (n : BitVec 64) (X : Int) (h : X = (n.toNat : Int) % 65536 ∨ X = IntKind.u16.wrap (n.toNat : Int)) : X = ((n.setWidth 16).toNat : Int) := by
  rcases h with rfl | rfl
  · rw [BitVec.toNat_setWidth]; simp
  · rw [show IntKind.u16.wrap (n.toNat : Int) = (n.toNat : Int) % 65536 by simp [IntKind.wrap, IntKind.bits, IntKind.signed], BitVec.toNat_setWidth]; simp
theorem cutU32 (n : BitVec 64) (X : Int) (h : X = (n.toNat : Int) % 4294967296 ∨ X = IntKind.u32.wrap (n.toNat : Int)) : X = ((n.setWidth 32).toNat : Int) := by
  rcases h with rfl | rfl
  · rw [BitVec.toNat_setWidth]; simp
  · rw [show IntKind.u32.wrap (n.toNat : Int) = (n.toNat : Int) % 4294967296 by simp [IntKind.wrap, IntKind.bits, IntKind.signed], BitVec.toNat_setWidth]; simp
def NumPost' (w : World) (v : Value) (th : Bool) (p : Nat) (D : Nat → Prop) (s : RS) (n : Nat) (x : Value) (e : Ending) (w' : World) : Prop :=
  Rh w' v th p D (s.took n) ∧ St (fpP p) w (fpP p) w' ∧ e = .returned x

set_option maxRecDepth 100000 in
theorem rU8_calls (w : World) (v : Value) (th : Bool) (p : Nat) (D : Nat → Prop) (s : RS) (h : Rh w v th p D s) :
    Calls Try.prog 84 #[v] w (NumPost' w v th p D s 1 (.int .u8 (((numT th s 1).setWidth 8).toNat : Int))) := by
  have HH := Lib.hid h
  have HX := Lib.hid (cutU8 (numT th s 1))
  clear h
  go_enter Try.func84, Try.ntmps84
  go_wp2_with fail
  refine (readNumber_calls 1 (by omega) w v th p D s HH.out).mono ?_
  rintro e w1 ⟨h1, h2, rfl⟩
  have HP1 := Lib.hid h1
  have HP2 := Lib.hid h2
  clear h1 h2
  generalize numT th s 1 = x at *
  have hx := x.isLt
  go_wp2
  go_ret
  exact ⟨HP1.out, HP2.out, ret_int (HX.out _ (by first | exact .inl rfl | exact .inr rfl))⟩

set_option maxRecDepth 100000 in
theorem rU16_calls (w : World) (v : Value) (th : Bool) (p : Nat) (D : Nat → Prop) (s : RS) (h : Rh w v th p D s) :
    Calls Try.prog 83 #[v] w (NumPost' w v th p D s 2 (.int .u16 (((numT th s 2).setWidth 16).toNat : Int))) := by
  have HH := Lib.hid h
  have HX := Lib.hid (cutU16 (numT th s 2))
  clear h
  go_enter Try.func83, Try.ntmps83
  go_wp2_with fail
  refine (readNumber_calls 2 (by omega) w v th p D s HH.out).mono ?_
  rintro e w1 ⟨h1, h2, rfl⟩
  have HP1 := Lib.hid h1
  have HP2 := Lib.hid h2
  clear h1 h2
  generalize numT th s 2 = x at *
  have hx := x.isLt
  go_wp2
  go_ret
  exact ⟨HP1.out, HP2.out, ret_int (HX.out _ (by first | exact .inl rfl | exact .inr rfl))⟩

set_option maxRecDepth 100000 in
theorem rU32_calls (w : World) (v : Value) (th : Bool) (p : Nat) (D : Nat → Prop) (s : RS) (h : Rh w v th p D s) :
    Calls Try.prog 86 #[v] w (NumPost' w v th p D s 4 (.int .u32 (((numT th s 4).setWidth 32).toNat : Int))) := by
  have HH := Lib.hid h
  have HX := Lib.hid (cutU32 (numT th s 4))
  clear h
  go_enter Try.func86, Try.ntmps86
  go_wp2_with fail
  refine (readNumber_calls 4 (by omega) w v th p D s HH.out).mono ?_
  rintro e w1 ⟨h1, h2, rfl⟩
  have HP1 := Lib.hid h1
  have HP2 := Lib.hid h2
  clear h1 h2
  generalize numT th s 4 = x at *
  have hx := x.isLt
  go_wp2
  go_ret
  exact ⟨HP1.out, HP2.out, ret_int (HX.out _ (by first | exact .inl rfl | exact .inr rfl))⟩

set_option maxRecDepth 100000 in
theorem rU64_calls (w : World) (v : Value) (th : Bool) (p : Nat) (D : Nat → Prop) (s : RS) (h : Rh w v th p D s) :
    Calls Try.prog 82 #[v] w (NumPost w v th p D s 8) := by
  have HH := Lib.hid h
  clear h
  go_enter Try.func82, Try.ntmps82
  go_wp2_with fail
  refine (readNumber_calls 8 (by omega) w v th p D s HH.out).mono ?_
  rintro e w1 ⟨h1, h2, rfl⟩
  have HP1 := Lib.hid h1
  have HP2 := Lib.hid h2
  clear h1 h2
  go_wp2
  go_ret
  exact ⟨HP1.out, HP2.out, rfl⟩
end Go.Proofs.Ytoeafacamapofaa
