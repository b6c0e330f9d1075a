
/-
  The walks over the statements' lists with marks behind them: handed, kept.
-/
import Derived.Test.YtfhoekcmkbeabaaBytes
import Derived.RegionTactic
namespace Go.Proofs.Ytfhoekcmkbeabaa
open Go.RowKit
set_option linter.unusedVariables false
set_option linter.unusedSimpArgs false

/-- the list with its marks -/
def marked (xs : List B8) : List B8 := xs ++ List.replicate 8 173#8
theorem marked_len (xs : List B8) : (marked xs).length = xs.length + 8 := by simp [marked]
/-- what is handed in: nothing for the nil list, else a list of its own with marks behind it -/
def Hand (w : World) (a : Option Addr) (xs : List B8) (v : Value) : Prop :=
  (a = none ∧ xs = [] ∧ v = .slice none 0 0) ∨ (∃ x g, a = some x ∧ v = .slice (some ⟨g, 0, none⟩) xs.length (xs.length + 8) ∧ Ob w g 5 (bv (marked xs)).toArray)
theorem Bs.none_nil {w : World} {xs : List B8} (h : Bs w none xs) : xs = [] := by
  cases xs with
  | nil => rfl
  | cons x xs => obtain ⟨y, e, _⟩ := h.at 0 (by simp); cases e
theorem Hand.form {w : World} {a : Option Addr} {xs : List B8} {v : Value} (h : Hand w a xs v) : ∃ b c, v = .slice b xs.length c ∧ Bs w b xs ∧ (b = none → c = 0) ∧ (∀ k, fpA b k ↔ fpV v k) := by
  rcases h with ⟨rfl, rfl, rfl⟩ | ⟨x, g, rfl, rfl, ho⟩
  · exact ⟨none, 0, rfl, Rd.nil _ _, fun _ => rfl, fun k => by simp [fpA, fpV, Value.ownBlock]⟩
  · refine ⟨_, _, rfl, ?_, (fun h => by cases h), fun k => by simp [fpA, fpV, Value.ownBlock]⟩
    have := (ho.rd).take xs.length
    rw [List.toList_toArray, bv_take] at this
    have e : (marked xs).take xs.length = xs := by simp [marked]
    rw [e] at this
    exact this
theorem Hand.in {w : World} {a : Option Addr} {xs : List B8} {v : Value} (h : Hand w a xs v) : In (fpV v) w := by
  rcases h with ⟨rfl, rfl, rfl⟩ | ⟨x, g, rfl, rfl, ho⟩
  · intro k hk; simp [fpV, Value.ownBlock] at hk
  · intro k hk
    simp [fpV, Value.ownBlock] at hk
    subst hk
    exact ho.lt
theorem Hand.move {w w' : World} {a : Option Addr} {xs : List B8} {v : Value} (h : Hand w a xs v) (e : ∀ k, fpV v k → w'.heap[k]? = w.heap[k]?) : Hand w' a xs v := by
  rcases h with ⟨rfl, rfl, rfl⟩ | ⟨x, g, rfl, rfl, ho⟩
  · exact .inl ⟨rfl, rfl, rfl⟩
  · exact .inr ⟨x, g, rfl, rfl, ho.move (e g (by simp [fpV, Value.ownBlock]))⟩
theorem Hand.st {w w' : World} {a : Option Addr} {xs : List B8} {v : Value} {F F' : Nat → Prop} (h : Hand w a xs v) (s : St F w F' w') (hd : Dj F (fpV v)) : Hand w' a xs v := h.move (s.same h.in hd)

theorem fill_set (ys : List B8) (k : Nat) (h : k < ys.length) : (ys.take k ++ List.replicate (ys.length - k) 0#8).set k ys[k] = ys.take (k + 1) ++ List.replicate (ys.length - (k + 1)) 0#8 := by
  have hl : (ys.take k).length = k := by simp; omega
  rw [List.set_append_right _ _ (by omega), hl, Nat.sub_self, show ys.length - k = (ys.length - (k + 1)) + 1 by omega, List.replicate_succ, List.set_cons_zero, List.take_succ_eq_append_getElem h, List.append_assoc]
  rfl
theorem marked_get1 (xs : List B8) (k : Nat) (h : k < xs.length) (h2 : k < (marked xs).length) : (marked xs)[k] = xs[k] := by simp [marked, List.getElem_append_left h]
theorem marked_get2 (xs : List B8) (k : Nat) (h : ¬ k < xs.length) (h2 : k < (marked xs).length) : (marked xs)[k] = 173#8 := by
  simp only [marked]
  rw [List.getElem_append_right (by omega), List.getElem_replicate]

set_option maxRecDepth 100000 in
set_option maxHeartbeats 2000000 in
theorem handed_calls (a : Option Addr) (c : Nat) (xs : List B8) (hn : xs.length ≤ 140737488351232) (w : World) (hb : Bs w a xs) :
    Calls Try.prog 20 #[.slice a xs.length c] w fun e w' => ∃ v, e = .returned v ∧ Hand w' a xs v ∧ St No w (fpV v) w' := by
  cases a with
  | none =>
    obtain rfl := hb.none_nil
    have he := fun W => Lib.run_eql_slice_nil (P := Try.prog) W 22 5 none 0 c 0 0 Try.underlying22
    go_enter Try.func20, Try.ntmps20
    go_wp2
    go_ret
    exact ⟨_, rfl, .inl ⟨rfl, rfl, rfl⟩, St.refl _ _ |>.drop (fun k hk => by simp [fpV, Value.ownBlock] at hk)⟩
  | some x =>
    have HB := Lib.hid hb
    clear hb
    have he := fun W => Lib.run_eql_slice_nil (P := Try.prog) W 22 5 (some x) xs.length c 0 0 Try.underlying22
    go_enter Try.func20, Try.ntmps20
    go_wp2_with (at_make; refine wpList_makeB rfl (.tmp 9) (.tmp 9) rfl .i64 .i64 ((xs.length : Int) + 8) ((xs.length : Int) + 8) (xs.length + 8) (xs.length + 8) rfl rfl (by simp) (by simp) (Nat.le_refl _) (by omega) ?_; intro w1 ho1 hob1 hs1; clear ho1)
    have hN := marked_len xs
    have HN := Lib.hid hN
    clear hN
    have HO1 : Hid (Ob w1 w.heap.size 5 (bv ((marked xs).take 0 ++ List.replicate ((marked xs).length - 0) 0#8)).toArray) := Lib.hid (by rw [HN.out]; exact hob1)
    have HS1 := Lib.hid hs1.toNew
    have hle := hs1.size
    clear hob1 hs1
    generalize hg : w.heap.size = g at *
    have HG := Lib.hid hg
    clear hg
    go_loopw [4] (fun i wr => ∃ k : Nat, k ≤ xs.length + 8 ∧ i = .int .i64 k ∧ Hid (Ob wr g 5 (bv ((marked xs).take k ++ List.replicate ((marked xs).length - k) 0#8)).toArray) ∧ Hid (St No w (Nw w) wr)) (fun i _ => xs.length + 8 - (intOf i).toNat)
    case atStart => exact ⟨0, by omega, rfl, HO1, HS1⟩
    case round =>
      clear HO1 HS1
      obtain ⟨k, hk, rfl, HO, HS⟩ := hrel
      by_cases hlt : k < xs.length + 8
      · have hkm : k < (marked xs).length := by rw [HN.out]; exact hlt
        have hf := fill_set (marked xs) k hkm
        generalize hL : (marked xs).take k ++ List.replicate ((marked xs).length - k) 0#8 = L at *
        have hLl : L.length = xs.length + 8 := by rw [← hL, List.length_append, List.length_take, List.length_replicate, HN.out]; omega
        have hc0 := HO.out.cell k
        rw [bv_at L k (by omega)] at hc0
        generalize L[k]'(by omega) = l0 at hc0
        have hf0 := HO.out.free k
        by_cases h1 : k < xs.length
        · rw [marked_get1 xs k h1 hkm] at hf
          have hcx := HB.out.at_some k h1
          have hbx : x.block < w.heap.size := by have := World.block_lt_of_cell? w _ hcx; rwa [addr_block] at this
          have hcr : wr.cell? (x.add k) = some (.int .u8 ((xs[k]).toNat : Int)) := (World.cell?_of_block (w := w) (by rw [addr_block]; exact HS.out.block _ hbx (fun h => h))).trans hcx
          have hne : (⟨g, k, none⟩ : Addr) ≠ x.add k := by intro e; have := congrArg Addr.block e; rw [addr_block] at this; have := HG.out; simp at *; omega
          have hcs : (wr.setCell ⟨g, k, none⟩ (.int .u8 173)).cell? (x.add k) = some (.int .u8 ((xs[k]).toNat : Int)) := by rw [World.cell?_setCell_other (h := hne)]; exact hcr
          generalize xs[k] = b at *
          have HF := Lib.hid hf
          have HL := Lib.hid hL
          have hnb : x.block ≠ g := by have := HG.out; omega
          clear hf hL hcx hne hLl hkm
          go_wp2
          go_roundw
          case rel =>
            refine ⟨k + 1, by omega, by go_num, Lib.hid ?_, Lib.hid ?_⟩
            · have := (HO.out.set k (.int .u8 173)).set k (.int .u8 (b.toNat : Int))
              rw [show (Value.int .u8 173) = .int .u8 (((173#8).toNat : Nat) : Int) from rfl, bv_set, bv_set, List.set_set, HF.out] at this
              exact this
            · exact HS.out.trans ((St.setCell _ _ _ (by show w.heap.size ≤ g; have := HG.out; omega)).trans (St.setCell _ _ _ (by show w.heap.size ≤ g; have := HG.out; omega)))
          case measure => simp [intOf]; omega
        · rw [marked_get2 xs k h1 hkm] at hf
          have HF := Lib.hid hf
          have HL := Lib.hid hL
          clear hf hL hLl hkm
          go_wp2
          go_roundw
          case rel =>
            refine ⟨k + 1, by omega, by go_num, Lib.hid ?_, Lib.hid ?_⟩
            · have := HO.out.set k (.int .u8 173)
              rw [show (Value.int .u8 173) = .int .u8 (((173#8).toNat : Nat) : Int) from rfl, bv_set, HF.out] at this
              exact this
            · exact HS.out.trans (St.setCell _ _ _ (by show w.heap.size ≤ g; have := HG.out; omega))
          case measure => simp [intOf]; omega
      · obtain rfl : k = xs.length + 8 := by omega
        go_wp2
        go_ret
        refine ⟨_, rfl, .inr ⟨x, g, rfl, rfl, ?_⟩, HS.out.drop (fun k hk => .inr ?_)⟩
        · have := HO.out
          rw [HN.out, ← HN.out, List.take_length, Nat.sub_self, List.replicate_zero, List.append_nil] at this
          exact this
        · simp [fpV, Value.ownBlock] at hk
          show w.heap.size ≤ k
          have := HG.out; omega


set_option maxRecDepth 100000 in
set_option maxHeartbeats 2000000 in
theorem kept_calls (v : Value) (a : Option Addr) (c : Nat) (xs : List B8) (hn : xs.length ≤ 140737488351232) (w : World) (hh : Hand w a xs v) (hb : Bs w a xs) :
    Calls Try.prog 24 #[v, .slice a xs.length c] w fun e w' => e = .returned (.bool true) ∧ Dr w w' := by
  rcases hh with ⟨rfl, rfl, rfl⟩ | ⟨x, g, rfl, rfl, ho⟩
  · have he := fun W => Lib.run_eql_slice_nil (P := Try.prog) W 22 5 none 0 c 0 0 Try.underlying22
    go_enter Try.func24, Try.ntmps24
    go_wp2
    go_ret
    exact ⟨rfl, Dr.refl w⟩
  · have he := fun W => Lib.run_eql_slice_nil (P := Try.prog) W 22 5 (some x) xs.length c 0 0 Try.underlying22
    have HB := Lib.hid hb
    have HO := Lib.hid ho
    have HN := Lib.hid (marked_len xs)
    clear hb ho
    go_enter Try.func24, Try.ntmps24
    go_wp2
    go_loopw [6] (fun i wr => ∃ k : Nat, k ≤ xs.length + 8 ∧ i = .int .i64 k ∧ Dr w wr) (fun i _ => xs.length + 8 - (intOf i).toNat)
    case atStart => exact ⟨0, by omega, rfl, Dr.refl w⟩
    case round =>
      obtain ⟨k, hk, rfl, ⟨m, rfl⟩⟩ := hrel
      by_cases hlt : k < xs.length + 8
      · have hc := HO.out.cell k
        rw [bv_at _ k (by rw [HN.out]; exact hlt)] at hc
        by_cases h1 : k < xs.length
        · rw [marked_get1 xs k h1] at hc
          have hcx := HB.out.at_some k h1
          generalize xs[k] = b at *
          have g1 : decide ((k : Int) < (xs.length : Int)) = true := decide_eq_true (by omega)
          have g2 : decide ((xs.length : Int) ≤ (k : Int)) = false := decide_eq_false (by omega)
          have g3 : decide (k < xs.length) = true := decide_eq_true h1
          have g4 : decide (xs.length ≤ k) = false := decide_eq_false (by omega)
          have g5 : (((b.toNat : Nat) : Int) != ((b.toNat : Nat) : Int)) = false := by simp
          go_wp2
          go_quiet (fail)
          go_wp2
          go_roundw
          case rel => exact ⟨k + 1, by omega, by go_num, (by first | exact Dr.one _ | exact Dr.step _ _)⟩
          case measure => simp [intOf]; omega
        · rw [marked_get2 xs k h1] at hc
          replace hc : w.cell? ⟨g, k, none⟩ = some (.int .u8 173) := hc
          have g1 : decide ((k : Int) < (xs.length : Int)) = false := decide_eq_false (by omega)
          have g2 : decide ((xs.length : Int) ≤ (k : Int)) = true := decide_eq_true (by omega)
          have g3 : decide (k < xs.length) = false := decide_eq_false h1
          have g4 : decide (xs.length ≤ k) = true := decide_eq_true (by omega)
          go_wp2
          go_quiet (fail)
          go_wp2
          go_roundw
          case rel => exact ⟨k + 1, by omega, by go_num, (by first | exact Dr.one _ | exact Dr.step _ _)⟩
          case measure => simp [intOf]; omega
      · obtain rfl : k = xs.length + 8 := by omega
        go_wp2
        go_ret
        exact ⟨rfl, (by first | exact Dr.one _ | exact Dr.step _ _)⟩

end Go.Proofs.Ytfhoekcmkbeabaa
