
/-
  XonceSpent: the plain laws.
-/
import Derived.Test.YtjepmckofocdnaaXoSame3
namespace Go.Proofs.Ytjepmckofocdnaa
open Go.RowKit
set_option linter.unusedVariables false
set_option linter.unusedSimpArgs false

/-- a row of a state as what can be read -/
def SB.sp (r : SB) : SP := ⟨r.v, r.qs.map (·.b), r.es.map fun f => (f.seq, f.b)⟩
theorem SB.sp_pl (r : SB) : r.sp.pl = r.pl := rfl
structure XP.Bd (x : XP) : Prop where
  b1 : x.sent ≤ 18446744073709551615
  b2 : x.acked ≤ 18446744073709551615
  b3 : x.delivered ≤ 18446744073709551615
  b4 : ∀ f ∈ x.early, f.1 ≤ 18446744073709551615
  l1 : x.queue.length ≤ 4294967296
  l2 : x.early.length ≤ 4294967296
  l3 : ∀ b ∈ x.queue, b.length ≤ 140737488351232
  l4 : ∀ f ∈ x.early, f.2.length ≤ 140737488351232
theorem XP.Ok.bd {c : PC} {x : XP} (h : x.Ok c) : x.Bd := by
  have h1 := h.qs
  have h2 := h.se
  have h3 := h.ql
  have h4 := h.rm
  have h5 := h.early_len
  have h6 := h.wn
  refine ⟨h2, by omega, h.dl, fun f hf => (h.er f hf).2.2.1, by omega, by omega, fun b hb => ?_, fun f hf => ?_⟩
  · have : 1 ≤ b.length ∧ b.length ≤ 3072 := of_decide_eq_true (show decide _ = true from h.qb b hb)
    omega
  · have : 1 ≤ f.2.length ∧ f.2.length ≤ 3072 := of_decide_eq_true (show decide _ = true from (h.er f hf).2.2.2)
    omega
theorem xp0_bd : xp0.Bd := ⟨by decide, by decide, by decide, by simp [xp0], by simp [xp0], by simp [xp0], by simp [xp0], by simp [xp0]⟩
theorem SB.Ok.rd {w : World} {r : SB} (h : r.Ok w) (hb : r.pl.Bd) : r.sp.Rd w := by
  have hq : r.v.qn = r.qs.length := by
    obtain ⟨a, c, e, _⟩ := h.lq.own.form
    unfold SB.Vq at e
    injection e
  have he : r.v.en = r.es.length := by
    obtain ⟨a, c, e, _⟩ := h.lf.own.form
    unfold SB.Ve at e
    injection e
  have h1 := h.lq
  unfold SB.Vq at h1
  rw [hq] at h1
  have h2 := h.lf
  unfold SB.Ve at h2
  rw [he] at h2
  exact ⟨by show r.v.qn = (r.qs.map _).length; rw [List.length_map]; exact hq, by show r.v.en = (r.es.map _).length; rw [List.length_map]; exact he,
    h1.lists (fun q hm => hb.l3 q.b (List.mem_map.2 ⟨q, hm, rfl⟩)), h2.frs (fun q hm => hb.l4 (q.seq, q.b) (List.mem_map.2 ⟨q, hm, rfl⟩)), hb.b1, hb.b2, hb.b3, hb.b4, hb.l1, hb.l2⟩
theorem StM.rd {w : World} {a : Option Addr} {n c : Nat} {rows : List SB} (h : StM w (.slice a n c) rows) (hb : ∀ r ∈ rows, r.pl.Bd) : n = rows.length ∧ StR w a (rows.map SB.sp) := by
  have hn := (show n = rows.length by obtain ⟨a, c, e, _⟩ := h.own.form; cases e; rfl)
  subst hn
  refine ⟨rfl, fun i s hs => ?_⟩
  rw [List.getElem?_map] at hs
  cases hr : rows[i]? with
  | none => rw [hr] at hs; cases hs
  | some r =>
    rw [hr] at hs
    cases hs
    have hm := List.mem_of_getElem? hr
    obtain ⟨y, hy⟩ := rowL_some SB.cells_len (by decide) h.own i (List.getElem?_eq_some_iff.1 hr).1
    subst hy
    have hc : ∀ j v, j < 6 → (SB.cells r)[j]? = some v → w.cell? ((y.add (i * 6)).add j) = some v := fun j v hj hv => rowL_elem SB.cells_len h.own i r hr j v hj hv
    exact ⟨(h.el r hm).rd (hb r hm), y, rfl, hc 0 _ (by decide) rfl, hc 1 _ (by decide) rfl, hc 2 _ (by decide) rfl, hc 3 _ (by decide) rfl, hc 4 _ (by decide) rfl, hc 5 _ (by decide) rfl⟩
theorem stL_bd {k : EC} {X : Nat → XP} (hx : EX k X) : ∀ x ∈ stL k k.hosts X, x.Bd := by
  intro x hm
  unfold stL at hm
  obtain ⟨h, hr, rfl⟩ := List.mem_map.1 hm
  by_cases hc : h < k.hosts ∧ h ≠ k.self
  · rw [if_pos hc]; exact (hx h hc.1 hc.2).bd
  · rw [if_neg hc]; exact xp0_bd
/-- all of an end's state can be read -/
theorem StM.all {w : World} {a : Option Addr} {n c : Nat} {rows : List SB} {k : EC} {X : Nat → XP} (h : StM w (.slice a n c) rows) (hp : rows.map SB.pl = stL k k.hosts X) (hx : EX k X) : n = k.hosts ∧ rows.length = k.hosts ∧ StR w a (rows.map SB.sp) ∧ (rows.map SB.sp).map SP.pl = stL k k.hosts X := by
  have hl : rows.length = k.hosts := by
    have := congrArg List.length hp
    rw [List.length_map] at this
    rw [this]; simp [stL]
  have h1 := h.rd (fun r hr => stL_bd hx r.pl (by rw [← hp]; exact List.mem_map.2 ⟨r, hr, rfl⟩))
  exact ⟨by omega, hl, h1.2, by rw [List.map_map]; exact hp⟩
/-- an end towards whose peer 1 all is acknowledged up to n -/
def xsA (n : Nat) : XP := ⟨n, n, 0, 0, [], []⟩
def XS (n : Nat) (h : Nat) : XP := if h = 1 then xsA n else xp0
def kS (hosts win : Nat) : EC := ⟨0, hosts, 16, win⟩
theorem xsA_ok {n : Nat} {c : PC} (hn : n ≤ 18446744073709551615) (h1 : c.room ≤ 16) (h2 : c.win ≤ c.room) (h3 : 1 ≤ c.win) : (xsA n).Ok c :=
  ⟨rfl, hn, Nat.zero_le _, h1, h2, h3, by simp [xsA], (by
    show beyondB n n 0 = false
    exact decide_eq_false (fun e => e.1 rfl)), (show (0 : Nat) ≤ 18446744073709551615 by omega), by simp [xsA], by simp [xsA]⟩
theorem XS_ex {n hosts win : Nat} (hn : n ≤ 18446744073709551615) (hw : 1 ≤ win) (hw2 : win ≤ 16) : EX (kS hosts win) (XS n) := by
  intro h _ _
  unfold XS
  by_cases e : h = 1
  · rw [if_pos e]; exact xsA_ok hn (Nat.le_refl _) hw2 hw
  · rw [if_neg e]; exact xp0_ok (Nat.le_refl _) hw2 hw
theorem XS_one {n : Nat} : XS n 1 = xsA n := rfl
/-- the state that is loaded -/
def sbA (n : Nat) : SB := ⟨⟨n, n, 0, 0, none, 0, 0, none, 0, 0⟩, [], []⟩
def rowsS (n hosts : Nat) : List SB := (List.replicate hosts sb0).set 1 (sbA n)
theorem sbA_ok {w : World} {n : Nat} : (sbA n).Ok w := ⟨LsG.nil w, LsG.nil w⟩
theorem rowsS_get {n hosts h : Nat} {s : SP} (hs : ((rowsS n hosts).map SB.sp)[h]? = some s) : s = (if h = 1 then (sbA n).sp else sb0.sp) := by
  rw [List.getElem?_map] at hs
  unfold rowsS at hs
  rw [List.getElem?_set] at hs
  by_cases e : h = 1
  · subst e
    rw [if_pos rfl] at hs
    rw [if_pos rfl]
    split at hs
    · cases hs; rfl
    · cases hs
  · rw [if_neg (fun x => e x.symm), List.getElem?_replicate] at hs
    rw [if_neg e]
    split at hs
    · cases hs; rfl
    · cases hs
theorem loadS {n hosts win : Nat} (hw1 : 1 ≤ win) : loadB (kS hosts win) ((rowsS n hosts).map SB.sp) := by
  refine ⟨by simp [rowsS, kS], fun h s hs => ?_⟩
  rw [rowsS_get hs]
  unfold okB
  by_cases h0 : h = (kS hosts win).self
  · rw [if_pos h0]
    have e : ¬ h = 1 := by have : h = 0 := h0; omega
    rw [if_neg e]; rfl
  · rw [if_neg h0, Bool.and_eq_true]
    by_cases e : h = 1
    · rw [if_pos e]
      exact ⟨decide_eq_true ⟨Nat.le_refl _, Nat.zero_le _, by show (0 : Nat) = n - n; omega, decide_eq_false (fun x => x.1 rfl), by simp [SB.sp, sbA]⟩, rfl⟩
    · rw [if_neg e]
      exact ⟨decide_eq_true ⟨Nat.le_refl _, Nat.zero_le _, rfl, decide_eq_false (fun x => x.1 rfl), by simp [SB.sp, sb0]⟩, rfl⟩
theorem plX_S {n hosts h : Nat} (hh : h < hosts) : plX ((rowsS n hosts).map SB.sp) h = XS n h := by
  have hl : h < ((rowsS n hosts).map SB.sp).length := by simp [rowsS]; exact hh
  have hs := List.getElem?_eq_getElem hl
  rw [plX_of hs, rowsS_get hs]
  unfold XS
  by_cases e : h = 1
  · rw [if_pos e, if_pos e]; rfl
  · rw [if_neg e, if_neg e]; rfl
/-- what a Send and its acknowledgement make of it -/
theorem send_S {n hosts win : Nat} {bs : List B8} (hh : 1 < hosts) (hn : n < 18446744073709551615) (hb : sizedB bs.length = true) (hw : 1 ≤ win) :
    sendE (kS hosts win) (XS n) 1 bs = 0 ∧ sendM (kS hosts win) (XS n) 1 bs = [xdata 1 (n + 1) bs] ∧ sendX (kS hosts win) (XS n) 1 bs = upd (XS n) 1 ⟨n + 1, n, 0, 0, [bs], []⟩ := by
  have hp : isP (kS hosts win) 1 = true := decide_eq_true ⟨hh, by show (1 : Nat) ≠ 0; omega⟩
  have hpe : pushE ((kS hosts win).pc 1) (XS n 1) = 0 := by
    unfold pushE
    rw [if_neg (by show ¬ (16 ≤ 0); omega), if_neg (by show ¬ (n = _); omega)]
  have hs : sendB (kS hosts win) 1 bs = true := by unfold sendB; rw [hp, hb]; rfl
  refine ⟨by unfold sendE; rw [hp, hb]; exact hpe, ?_, ?_⟩
  · unfold sendM pushM
    rw [hs, if_pos rfl, if_pos ⟨hpe, by show 0 < win; omega⟩]; rfl
  · unfold sendX pushX
    rw [hs, if_pos rfl, if_pos hpe]; rfl
def mvA (seq : Nat) : MV := ⟨11, seq, 0, 0, 0, (none, 0, 0), (none, 0, 0), false, 0, 0, 0, 0, 0, 0, (none, 0, 0), (none, 0, 0), none, 0, 0⟩
theorem mvA_wf {seq : Nat} (h : seq ≤ 18446744073709551615) : (mvA seq).Wf := by
  refine ⟨h, ?_, ?_, ?_, ?_, ?_, ?_, ?_, ?_⟩ <;> simp [mvA]
theorem take_S {n hosts win : Nat} {bs : List B8} (hh : 1 < hosts) :
    takeE (kS hosts win) (upd (XS n) 1 ⟨n + 1, n, 0, 0, [bs], []⟩) 1 (mvA (n + 1)) = 0 ∧ ∀ h, takeX (kS hosts win) (upd (XS n) 1 ⟨n + 1, n, 0, 0, [bs], []⟩) 1 (mvA (n + 1)) h = XS (n + 1) h := by
  have hp : isP (kS hosts win) 1 = true := decide_eq_true ⟨hh, by show (1 : Nat) ≠ 0; omega⟩
  have hpl : plainB (mvA (n + 1)) = true := rfl
  have he : heardE (⟨n + 1, n, 0, 0, [bs], []⟩ : XP) (n + 1) 0 = 0 := by
    unfold heardE
    rw [if_neg]
    rintro (h | h)
    · exact Nat.lt_irrefl _ h
    · exact absurd h (by rw [show beyondB (n + 1) (n + 1) 0 = false from decide_eq_false (fun e => e.1 rfl)]; decide)
  refine ⟨?_, fun h => ?_⟩
  · unfold takeE
    rw [hp, hpl, upd_same]
    exact he
  · have hb : takeB (kS hosts win) 1 (mvA (n + 1)) = true := by unfold takeB; rw [hp, hpl]; rfl
    unfold takeX
    rw [hb, if_pos rfl, upd_same]
    have hx : heardX (⟨n + 1, n, 0, 0, [bs], []⟩ : XP) (n + 1) 0 = xsA (n + 1) := by
      unfold heardX
      rw [if_pos he, if_neg (by show ¬ n + 1 < n; omega), if_neg (by show ¬ n + 1 = n; omega)]
      show (⟨n + 1, n + 1, 0, 0, [bs].drop (n + 1 - n), []⟩ : XP) = _
      rw [show n + 1 - n = 1 by omega]; rfl
    by_cases e : h = 1
    · subst e
      rw [upd_same]
      exact hx
    · rw [upd_ne e, upd_ne e]
      unfold XS
      rw [if_neg e, if_neg e]
theorem spent_S {hosts win : Nat} {bs : List B8} (hh : 1 < hosts) (hb : sizedB bs.length = true) :
    sendE (kS hosts win) (XS 18446744073709551615) 1 bs = 83 ∧ sendM (kS hosts win) (XS 18446744073709551615) 1 bs = [] ∧ ∀ h, sendX (kS hosts win) (XS 18446744073709551615) 1 bs h = XS 18446744073709551615 h := by
  have hp : isP (kS hosts win) 1 = true := decide_eq_true ⟨hh, by show (1 : Nat) ≠ 0; omega⟩
  have hpe : pushE ((kS hosts win).pc 1) (XS 18446744073709551615 1) = 83 := by
    unfold pushE
    rw [if_neg (by show ¬ (16 ≤ 0); omega), if_pos (show (XS 18446744073709551615 1).sent = 18446744073709551615 from rfl)]
  have hs : sendB (kS hosts win) 1 bs = true := by unfold sendB; rw [hp, hb]; rfl
  refine ⟨by unfold sendE; rw [hp, hb]; exact hpe, ?_, fun h => ?_⟩
  · unfold sendM pushM
    rw [hs, if_pos rfl, if_neg (fun x => by rw [hpe] at x; exact absurd x.1 (by decide))]
  · unfold sendX pushX
    rw [hs, if_pos rfl, if_neg (by rw [hpe]; decide)]
    by_cases e : h = 1
    · subst e; rw [upd_same]
    · rw [upd_ne e]
theorem send2_S {n hosts win : Nat} {bs : List B8} (hh : 2 < hosts) (hb : sizedB bs.length = true) (hw : 1 ≤ win) :
    sendE (kS hosts win) (XS n) 2 bs = 0 ∧ sendM (kS hosts win) (XS n) 2 bs = [xdata 2 1 bs] := by
  have hp : isP (kS hosts win) 2 = true := decide_eq_true ⟨hh, by show (2 : Nat) ≠ 0; omega⟩
  have hpe : pushE ((kS hosts win).pc 2) (XS n 2) = 0 := by
    unfold pushE
    rw [if_neg (by show ¬ (16 ≤ 0); omega), if_neg (by show ¬ ((0 : Nat) = _); omega)]
  have hs : sendB (kS hosts win) 2 bs = true := by unfold sendB; rw [hp, hb]; rfl
  refine ⟨by unfold sendE; rw [hp, hb]; exact hpe, ?_⟩
  unfold sendM pushM
  rw [hs, if_pos rfl, if_pos ⟨hpe, by show 0 < win; omega⟩]; rfl
theorem room_S {n hosts win : Nat} (hh : 1 < hosts) : roomN (kS hosts win) (XS n) 1 = min 16 (18446744073709551615 - n) := by
  unfold roomN
  rw [show isP (kS hosts win) 1 = true from decide_eq_true ⟨hh, by show (1 : Nat) ≠ 0; omega⟩, if_pos rfl]; rfl
end Go.Proofs.Ytjepmckofocdnaa
