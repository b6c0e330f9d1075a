
/-
  Load: an end with a state.
-/
import Derived.Test.YtjepmckofocdnaaXoNew
namespace Go.Proofs.Ytjepmckofocdnaa
open Go.RowKit
set_option linter.unusedVariables false
set_option linter.unusedSimpArgs false

/-- a peer's state: its row, what its lists hold -/
structure SP where
  v : PV
  L : List (List B8)
  E : List (Nat × List B8)
def SP.pl (s : SP) : XP := ⟨s.v.sent, s.v.acked, s.v.mask, s.v.delivered, s.L, s.E⟩
structure SP.Rd (w : World) (s : SP) : Prop where
  qn : s.v.qn = s.L.length
  en : s.v.en = s.E.length
  L : Lists w s.v.qa s.L
  E : Frs w s.v.ea s.E
  b1 : s.v.sent ≤ 18446744073709551615
  b2 : s.v.acked ≤ 18446744073709551615
  b3 : s.v.delivered ≤ 18446744073709551615
  b4 : ∀ f ∈ s.E, f.1 ≤ 18446744073709551615
  l1 : s.L.length ≤ 4294967296
  l2 : s.E.length ≤ 4294967296
/-- a row's cells -/
structure RowAt (w : World) (y : Addr) (v : PV) : Prop where
  c0 : w.cell? y = some (.int .u64 v.sent)
  c1 : w.cell? ⟨y.block, y.off + 1, none⟩ = some (.int .u64 v.acked)
  c2 : w.cell? ⟨y.block, y.off + 2, none⟩ = some (.slice v.qa v.qn v.qc)
  c3 : w.cell? ⟨y.block, y.off + 3, none⟩ = some (.int .u64 (v.mask.toNat : Int))
  c4 : w.cell? ⟨y.block, y.off + 4, none⟩ = some (.int .u64 v.delivered)
  c5 : w.cell? ⟨y.block, y.off + 5, none⟩ = some (.slice v.ea v.en v.ec)
/-- states that can be read -/
def StR (w : World) (a : Option Addr) (S : List SP) : Prop := ∀ (i : Nat) (s : SP), S[i]? = some s → s.Rd w ∧ ∃ x, a = some x ∧ RowAt w (x.add (i * 6)) s.v
theorem RowAt.st {w w' : World} {y : Addr} {v : PV} {G : Nat → Prop} (h : RowAt w y v) (s : St No w G w') : RowAt w' y v :=
  ⟨s.cellN h.c0, s.cellN h.c1, s.cellN h.c2, s.cellN h.c3, s.cellN h.c4, s.cellN h.c5⟩
theorem SP.Rd.st {w w' : World} {p : SP} {G : Nat → Prop} (h : p.Rd w) (s : St No w G w') : p.Rd w' :=
  ⟨h.qn, h.en, h.L.st s, h.E.st s, h.b1, h.b2, h.b3, h.b4, h.l1, h.l2⟩
theorem StR.st {w w' : World} {a : Option Addr} {S : List SP} {G : Nat → Prop} (h : StR w a S) (s : St No w G w') : StR w' a S := by
  intro i p hp
  obtain ⟨h1, x, h2, h3⟩ := h i p hp
  exact ⟨h1.st s, x, h2, h3.st s⟩
/-- may a peer's state be? -/
def okB (k : EC) (h : Nat) (s : SP) : Bool := if h = k.self then zeroB s.v else layB (k.pc h) s.v s.L && keepB k.win s.v.delivered 1 s.E
def loadB (k : EC) (S : List SP) : Prop := S.length = k.hosts ∧ ∀ h s, S[h]? = some s → okB k h s = true
def plX (S : List SP) (h : Nat) : XP := (S[h]?.map SP.pl).getD xp0
theorem plX_of {S : List SP} {h : Nat} {s : SP} (e : S[h]? = some s) : plX S h = s.pl := by unfold plX; rw [e]; rfl
theorem En.congr {w : World} {F : Nat → Prop} {e : Nat} {k : EC} {X Y : Nat → XP} (h : En w F e k X) (hXY : ∀ a, a < k.hosts → a ≠ k.self → X a = Y a) : En w F e k Y := by
  obtain ⟨g, P, R, h1, h2⟩ := h
  exact ⟨g, P, R, ⟨h1.ob, h1.pb, fun a ha hs => by rw [← hXY a ha hs]; exact h1.pr a ha hs, h1.eg, h1.re, h1.rr⟩, h2⟩
def LoadJ (w : World) (k : EC) (S : List SP) (e : Ending) (w' : World) : Prop :=
  ∃ F p, e = .returned (.tuple #[.pointer (some ⟨p, 0, none⟩), .int .i64 0]) ∧ En w' F p k (plX S) ∧ St No w F w'
/-- one peer laid, seen from the call's beginning -/
theorem laid_step {w wA wr wd w5 : World} {e g : Nat} {k : EC} {P : Nat → Nat} {R : Nat → Nat → Prop} {X : Nat → XP} {y : Addr} {n c m : Nat} {S : List SP} {s : SP} {F5 : Nat → Prop} {x5 : XP}
    (hE : EnM wr e g k k.hosts P R X) (hS : St No wA (fpE e g k k.hosts R) wr) (hlt : m < k.hosts) (hms : m ≠ k.self) (h0 : St No w No wA) (hbx : Ob wA w.heap.size 24 #[.slice (some y) n c]) (hR : StR w (some y) S) (hs : S[m]? = some s)
    (hd : St No wr No wd) (s5 : St (R m) wd F5 w5) (hp : Pr w5 F5 (P m) (k.pc m) x5) :
    EnM w5 e g k k.hosts P (upd R m F5) (upd X m x5) ∧ St No wA (fpE e g k k.hosts (upd R m F5)) w5 ∧ Ob w5 w.heap.size 24 #[.slice (some y) n c] ∧ RowAt w5 (y.add (m * 6)) s.v ∧ s.Rd w5 := by
  have s6 : St (R m) wr (fun j => F5 j ∨ No j) w5 := ((hd.wide (F' := R m) (G' := R m) (fun _ e => e.elim) (fun _ e => .inl e)).trans s5).drop (fun j hj => hj.elim .inr (fun e => e.elim))
  have h1 := hE.turn hlt hms s6 hp
  have h2 := (hS.trans h1.2.1).drop (G' := fpE e g k k.hosts (upd R m F5)) (fun j hj => .inr (.inl hj))
  obtain ⟨hrd, y', hy, hrow⟩ := (hR.st (h0.trans h2)) m s hs
  cases hy
  exact ⟨h1.1, h2, hbx.move (h2.block _ hbx.lt (fun e => e)), hrow, hrd⟩
set_option maxRecDepth 100000 in
set_option maxHeartbeats 3000000 in
theorem load_calls (k : EC) (hs : k.self ≤ 255) (hh : k.hosts ≤ 9223372036854775807) (hr : k.room ≤ 9223372036854775807) (hw : k.win ≤ 9223372036854775807) (hf : fitsB k.self k.hosts k.room k.win = true) (w : World) (a : Option Addr) (c : Nat) (S : List SP) (hS : StR w a S) (hSl : S.length ≤ 9223372036854775807) (hok : loadB k S) :
    Calls Try.prog 31 #[.int .u8 k.self, .int .i64 k.hosts, .int .i64 k.room, .int .i64 k.win, .agg #[.slice a S.length c]] w (LoadJ w k S) := by
  have HR := Lib.hid hS
  have HS0 := Lib.hid (St.alloc' No w (.cells #[.slice a S.length c] 24))
  have HBX := Lib.hid (Ob.alloc w #[.slice a S.length c] 24)
  have hnc := new_calls k hs hh hr hw hf (w.alloc (.cells #[.slice a S.length c] 24))
  generalize hwA : w.alloc (.cells #[.slice a S.length c] 24) = wA at *
  have hfd : 1 ≤ k.hosts ∧ k.hosts ≤ 16 ∧ k.self < k.hosts ∧ 1 ≤ k.room ∧ k.room ≤ 16 ∧ 1 ≤ k.win ∧ k.win ≤ k.room := by
    have h := of_decide_eq_true (show decide _ = true from hf)
    omega
  have HNC := Lib.hid hnc
  clear hS hf hnc
  go_enter Try.func31, Try.ntmps31
  go_wp2_with fail
  refine HNC.out.mono ?_
  rintro r wN ⟨F, e, rfl, ⟨g, P, R, hE, rfl⟩, hsN⟩
  have HE := Lib.hid hE
  have HSN := Lib.hid hsN
  have HBN := Lib.hid (HBX.out.move (hsN.block _ HBX.out.lt (fun e => e)))
  have b0 : wN.cell? ⟨w.heap.size, 0, none⟩ = some (.slice a S.length c) := by rw [HBN.out.cell 0]; rfl
  have c0 : wN.cell? ⟨e, 0, none⟩ = some (.slice (some ⟨g, 0, none⟩) k.hosts k.hosts) := by rw [HE.out.ob.cell 0]; rfl
  clear hE hsN
  have q1 := hok.1
  have HOK := Lib.hid hok.2
  clear hok
  have q1i : ((S.length : Int) != (k.hosts : Int)) = false := by rw [bne_eq_false_iff_eq]; omega
  have Q1 := Lib.hid q1
  clear q1
  go_wp2
  go_loopw [37] (fun i wr => ∃ (m : Nat) (R : Nat → Nat → Prop) (X : Nat → XP), m ≤ k.hosts ∧ i = .int .i64 m ∧ Hid (EnM wr e g k k.hosts P R X) ∧ Hid (St No wA (fpE e g k k.hosts R) wr) ∧ Hid (∀ h s, h < m → S[h]? = some s → okB k h s = true ∧ (h ≠ k.self → X h = s.pl))) (fun i _ => k.hosts - (intOf i).toNat)
  case atStart => exact ⟨0, R, fun _ => xp0, by omega, rfl, HE, HSN, Lib.hid (fun h s x => absurd x (by omega))⟩
  case round =>
    obtain ⟨m, R, X, hm, rfl, HEr, HSr, HX⟩ := hrel
    by_cases hlt : m < k.hosts
    · obtain ⟨s, hsm⟩ : ∃ s, S[m]? = some s := ⟨_, List.getElem?_eq_getElem (by have := Q1.out; omega)⟩
      obtain ⟨hrd, y, rfl, hrow⟩ := (HR.out.st (HS0.out.trans HSr.out)) m s hsm
      have HSM := Lib.hid hsm
      have HRD := Lib.hid hrd
      have HBR := Lib.hid (HBX.out.move (HSr.out.block _ HBX.out.lt (fun e => e)))
      have b0 : wr.cell? ⟨w.heap.size, 0, none⟩ = some (.slice (some y) S.length c) := by rw [HBR.out.cell 0]; rfl
      have c1 := HEr.out.ptr hlt
      have hml : (m : Int) < (S.length : Int) := by have := Q1.out; omega
      obtain ⟨r0, r1, r2, r3, r4, r5⟩ := hrow
      have HRW : Hid (RowAt wr (y.add (m * 6)) s.v) := Lib.hid ⟨r0, r1, r2, r3, r4, r5⟩
      clear hsm hrd
      by_cases hms : m = k.self
      · have hv : ptrV k P k.hosts m = .pointer none := if_neg (fun x => x.2 hms)
        rw [hv] at c1
        have HMS := Lib.hid hms
        have hz : zeroB s.v = true := by have h := HOK.out m s HSM.out; unfold okB at h; rw [if_pos hms] at h; exact h
        · have HO : Hid (okB k m s = true) := Lib.hid (HOK.out m s HSM.out)
          clear hms
          go_wp2_with fail
          refine (zero_calls wr s.v HRD.out.b1 HRD.out.b2 HRD.out.b3).mono ?_
          rintro r w5 ⟨rfl, hs5⟩
          rw [hz]
          have HS5 := Lib.hid hs5
          clear hz hs5
          go_wp2_with fail
          go_quiet (fail)
          have HXN : Hid (∀ h s', h < m + 1 → S[h]? = some s' → okB k h s' = true ∧ (h ≠ k.self → X h = s'.pl)) := Lib.hid (fun h s' hh he => by
            by_cases hm2 : h = m
            · subst hm2
              have e1 := HSM.out
              rw [he] at e1
              cases e1
              exact ⟨HO.out, fun x => absurd HMS.out x⟩
            · exact HX.out h s' (by omega) he)
          have sN : St No wr No (w5.drewN nq) := HS5.out.trans (St.drewN No _ _)
          have HEN := Lib.hid (HEr.out.st sN (Dj.no _))
          have HSN2 := Lib.hid (HSr.out.trans (sN.wide (F' := fpE e g k k.hosts R) (G' := fpE e g k k.hosts R) (fun _ e => e.elim) (fun _ e => .inl e)))
          clear sN
          go_wp2
          exact ⟨⟨m + 1, R, X, by omega, by go_num, HEN, HSN2, HXN⟩, by simp [intOf]; omega⟩
      · have hv : ptrV k P k.hosts m = .pointer (some ⟨P m, 0, none⟩) := if_pos ⟨hlt, hms⟩
        rw [hv] at c1
        have HMS := Lib.hid hms
        clear hms
        go_wp2_with fail
        have HO : Hid (okB k m s = true) := Lib.hid (HOK.out m s HSM.out)
        have hlk : layB (k.pc m) s.v s.L = true ∧ keepB k.win s.v.delivered 1 s.E = true := by
          have h := HO.out
          unfold okB at h
          rw [if_neg HMS.out, Bool.and_eq_true] at h
          exact h
        obtain ⟨hlb, hkb⟩ := hlk
        · · have HLB := Lib.hid hlb
            have HKB := Lib.hid hkb
            clear hkb hlb
            go_region_held3 (fun w' => w'.cell? ⟨w.heap.size, 0, none⟩ = some (.slice (some y) S.length c) ∧ w'.cell? (y.add (m * 6)) = some (.int .u64 s.v.sent) ∧ w'.cell? ⟨(y.add (m * 6)).block, (y.add (m * 6)).off + 1, none⟩ = some (.int .u64 s.v.acked) ∧ w'.cell? ⟨(y.add (m * 6)).block, (y.add (m * 6)).off + 2, none⟩ = some (.slice s.v.qa s.v.qn s.v.qc) ∧ w'.cell? ⟨(y.add (m * 6)).block, (y.add (m * 6)).off + 3, none⟩ = some (.int .u64 (s.v.mask.toNat : Int)) ∧ w'.cell? ⟨(y.add (m * 6)).block, (y.add (m * 6)).off + 4, none⟩ = some (.int .u64 s.v.delivered) ∧ w'.cell? ⟨(y.add (m * 6)).block, (y.add (m * 6)).off + 5, none⟩ = some (.slice s.v.ea s.v.en s.v.ec)) (go_keep)
              (first
                | (go_at_call 62
                   have sd : St No wr No _ := (by first | exact St.drew No _ | exact (St.drewN No _ _).trans (St.drew No _) | exact St.drewN No _ _)
                   refine (lay_calls _ (R m) (P m) (k.pc m) (X m) ((HEr.out.pr m hlt HMS.out).st sd (Dj.no _)) (show k.room ≤ 16 by omega) s.v s.L HRD.out.qn (HRD.out.L.st sd) HRD.out.b1 HRD.out.b2 HRD.out.l1).mono ?_
                   rintro r w5 ⟨F5, x5, rfl, hp5, hx5, hs5⟩
                   have HT5 := Lib.hid (laid_step HEr.out HSr.out hlt HMS.out HS0.out HBX.out HR.out HSM.out sd hs5 hp5)
                   rw [HLB.out] at hx5
                   have HX5 := Lib.hid hx5
                   clear hs5 hp5 hx5 sd
                   have d0 : w5.cell? ⟨w.heap.size, 0, none⟩ = some (.slice (some y) S.length c) := by rw [HT5.out.2.2.1.cell 0]; rfl
                   obtain ⟨t0, t1, t2, t3, t4, t5⟩ := HT5.out.2.2.2.1
                   rw [HLB.out])
                | (go_at_call 63
                   have sd : St No w5 No _ := (by first | exact St.refl No _ | exact St.drew No _ | exact (St.drewN No _ _).trans (St.drew No _) | exact St.drewN No _ _)
                   have hpr := HT5.out.1.pr m hlt HMS.out
                   rw [upd_same, upd_same] at hpr
                   refine (keep_calls _ F5 (P m) (k.pc m) x5 (hpr.st sd (Dj.no _)) (show k.win ≤ 16 by omega) s.v s.E HT5.out.2.2.2.2.en (HT5.out.2.2.2.2.E.st sd) HRD.out.b3 HRD.out.b4 HRD.out.l2).mono ?_
                   rintro r w6 ⟨F6, x6, rfl, hp6, hx6, hs6⟩
                   have HT6 := Lib.hid (laid_step HT5.out.1 HT5.out.2.1 hlt HMS.out HS0.out HBX.out HR.out HSM.out sd (by rw [upd_same]; exact hs6) hp6)
                   rw [show keepB (k.pc m).win s.v.delivered 1 s.E = keepB k.win s.v.delivered 1 s.E from rfl, HKB.out] at hx6
                   have HX6 := Lib.hid hx6
                   clear hs6 hp6 hx6 hpr sd
                   have e0 : w6.cell? ⟨w.heap.size, 0, none⟩ = some (.slice (some y) S.length c) := by rw [HT6.out.2.2.1.cell 0]; rfl
                   obtain ⟨z0, z1, z2, z3, z4, z5⟩ := HT6.out.2.2.2.1
                   rw [show keepB (k.pc m).win s.v.delivered 1 s.E = keepB k.win s.v.delivered 1 s.E from rfl, HKB.out]))
            all_goals
              have HXN : Hid (∀ h s', h < m + 1 → S[h]? = some s' → okB k h s' = true ∧ (h ≠ k.self → upd (upd X m x5) m x6 h = s'.pl)) := Lib.hid (fun h s' hh he => by
                by_cases hm2 : h = m
                · subst hm2
                  have e1 := HSM.out
                  rw [he] at e1
                  cases e1
                  refine ⟨HO.out, fun _ => ?_⟩
                  rw [upd_same, HX6.out trivial, HX5.out trivial]
                  rfl
                · rw [upd_ne hm2, upd_ne hm2]
                  exact HX.out h s' (by omega) he)
              go_wp2
              exact ⟨⟨m + 1, _, _, by omega, by go_num, Lib.hid HT6.out.1, Lib.hid HT6.out.2.1, HXN⟩, by simp [intOf]; omega⟩
    · obtain rfl : m = k.hosts := by omega
      go_wp2
      go_ret2
      refine ⟨_, e, rfl, En.congr ⟨g, P, R, HEr.out, rfl⟩ (fun b hb hs => ?_), HS0.out.trans HSr.out⟩
      obtain ⟨s, hsx⟩ : ∃ s, S[b]? = some s := ⟨_, List.getElem?_eq_getElem (by have := Q1.out; omega)⟩
      rw [plX_of hsx]
      exact (HX.out b s hb hsx).2 hs
end Go.Proofs.Ytjepmckofocdnaa
