
/-
  XonceRefused: the walk.
-/
import Derived.Test.YtjepmckofocdnaaXoRefP
import Derived.Test.YtjepmckofocdnaaXoSendZ
import Derived.Test.YtjepmckofocdnaaXoTick
import Derived.Test.YtjepmckofocdnaaXoCalm
import Derived.Test.YtjepmckofocdnaaWSpent
namespace Go.Proofs.Ytjepmckofocdnaa
open Go.RowKit
set_option linter.unusedVariables false
set_option linter.unusedSimpArgs false

theorem Ob.stN {w w' : World} {g : Nat} {T : TypeId} {cs : Array Value} {G : Nat → Prop} (h : Ob w g T cs) (s : St No w G w') : Ob w' g T cs := h.move (s.block _ h.lt (fun e => e))
theorem Ob.stF {w w' : World} {g : Nat} {T : TypeId} {cs : Array Value} {F G : Nat → Prop} (h : Ob w g T cs) (s : St F w G w') (hn : ¬ F g) : Ob w' g T cs := h.move (s.block _ h.lt hn)
theorem St.quiet {w w1 w2 : World} {F : Nat → Prop} (h : St No w F w1) (s : St No w1 No w2) : St No w F w2 := h.trans (s.wide (F' := F) (G' := F) (fun _ e => e.elim) (fun _ e => .inl e))
/-- State, in one form -/
def StateK (w : World) (k : EC) (X : Nat → XP) (r : Ending) (w' : World) : Prop :=
  ∃ va vc rows, r = .returned (.agg #[.slice va k.hosts vc]) ∧ StM w' (.slice va k.hosts vc) rows ∧ (rows.map SB.sp).length = k.hosts ∧ (rows.map SB.sp).map SP.pl = stL k k.hosts X ∧ St No w (fpS (.slice va k.hosts vc) rows) w'
theorem state_callsK (w : World) (F : Nat → Prop) (e : Nat) (k : EC) (X : Nat → XP) (h : En w F e k X) (hk : k.hosts ≤ 16) (hx : EX k X) :
    Calls Try.prog 20 #[.pointer (some ⟨e, 0, none⟩)] w (StateK w k X) :=
  (state_calls w F e k X h hk hx).mono (fun r w' h => by
    obtain ⟨V, rows, rfl, h1, h2, h3⟩ := h
    obtain ⟨va, vc, rfl, _, _, _, _⟩ := h1.own.form
    have h4 := h1.all h2 hx
    rw [h4.2.1] at h1 h3 ⊢
    exact ⟨va, vc, rows, rfl, h1, by rw [List.length_map]; exact h4.2.1, h4.2.2.2, h3⟩)
theorem StM.rdK {w : World} {a : Option Addr} {c : Nat} {rows : List SB} {k : EC} {X : Nat → XP} (h : StM w (.slice a k.hosts c) rows) (hp : (rows.map SB.sp).map SP.pl = stL k k.hosts X) (hx : EX k X) : StR w a (rows.map SB.sp) :=
  (h.all (by rw [List.map_map] at hp; exact hp) hx).2.2.1
theorem StM.cap {w : World} {V : Value} {rows : List SB} (h : StM w V rows) : ∀ t ∈ rows.map SB.sp, t.v.qn ≤ t.v.qc := by
  intro t ht
  obtain ⟨r, hr, rfl⟩ := List.mem_map.1 ht
  obtain ⟨a, c, e, h1, _⟩ := (h.el r hr).lq.own.form
  unfold SB.Vq at e
  injection e with e1 e2 e3
  show r.v.qn ≤ r.v.qc
  omega
theorem num8_q (x : Int) (w : World) (n : Nat) : Calls Try.prog 18 #[.int .i64 x] (w.drewN n) fun e w'' => e = .returned (.int .i64 x) ∧ ∃ m, w'' = w.drewN m :=
  (num8_calls x _).mono (fun e w'' h => ⟨h.1, n, h.2.symm⟩)
theorem Bs.dj {w : World} {a : Option Addr} {bs : List B8} {F : Nat → Prop} (h : Bs w a bs) (hne : bs ≠ []) (hF : ∀ j, F j → w.heap.size ≤ j) : Dj F (fpA a) := by
  rintro j x ⟨y, rfl, rfl⟩
  have h1 := hF _ x
  obtain ⟨y0, hy0, hc0⟩ := h.at 0 (by cases bs with | nil => exact absurd rfl hne | cons b l => simp)
  cases hy0
  have h2 := World.block_lt_of_cell? w _ hc0
  rw [addr_block] at h2
  omega
theorem Bs.stE {w w' : World} {a : Option Addr} {bs : List B8} {F F' : Nat → Prop} (h : Bs w a bs) (s : St F w F' w') (hd : bs ≠ [] → Dj F (fpA a)) : Bs w' a bs := by
  by_cases hb : bs = []
  · subst hb; exact Rd.nil _ _
  · exact h.st s (hd hb)
/-- a step in its box -/
theorem boxed (wr : World) (Z : Array Value) (T : TypeId) (cs : Array Value) : Ob ((wr.alloc (.cells Z T)).setRow wr.heap.size cs) wr.heap.size T cs ∧ St No wr No ((wr.alloc (.cells Z T)).setRow wr.heap.size cs) :=
  ⟨(Ob.alloc wr Z T).setRow cs, (St.alloc' No wr _).own (St.setRow (F := fpB0 wr.heap.size) _ _ cs rfl) (Nat.le_refl _)⟩
theorem tkX_ex {k : EC} {X : Nat → XP} {a : Nat} {m : MV} {bs : List B8} (h : EX k X) (hs : m.seq ≤ 18446744073709551615) : EX k (tkX k X a m bs) := by
  unfold tkX
  split
  · exact takeX_ex h
  · exact takeDX_ex h hs
set_option maxRecDepth 100000 in
set_option maxHeartbeats 4000000 in
theorem refused_walk (k : EC) (V : Value) (rs : List StpR) (a : Option Addr) (c : Nat) (hk : k.Ok) (hl : rs.length ≤ 140737488351232) (w : World) (ha : StpsIn w a rs) :
    Calls Try.prog 14 #[.agg #[.int .i64 k.self, .int .i64 k.hosts, .int .i64 k.room, .int .i64 k.win, .bool false, V], .slice a rs.length c] w fun e w' => e = .returned (.bool true) ∧ Below w.heap.size w w' := by
  have HA := Lib.hid ha
  have HKO := Lib.hid hk
  have h1 := hk.self
  have h2 := hk.hosts
  have h3 := hk.win1
  have h4 := hk.win
  have h5 := hk.room
  have hwin : k.win ≤ 16 := by omega
  have HF := Lib.hid (fits8_calls k.hosts k.room k.win)
  have HFB : Hid (fits8B k.hosts k.room k.win = true) := Lib.hid (decide_eq_true (by omega))
  have d0 : decide ((k.self : Int) < 0) = false := decide_eq_false (by omega)
  have d1 : decide ((k.hosts : Int) ≤ (k.self : Int)) = false := decide_eq_false (by omega)
  have HMC := Lib.hid (made_calls k hk V)
  rw [HFB.out] at HF
  have HBX := Lib.hid (Ob.alloc w #[.int .i64 k.self, .int .i64 k.hosts, .int .i64 k.room, .int .i64 k.win, .bool false, V] 26)
  have HSX := Lib.hid (St.alloc' No w (.cells #[.int .i64 k.self, .int .i64 k.hosts, .int .i64 k.room, .int .i64 k.win, .bool false, V] 26))
  clear ha hk
  go_enter Try.func14, Try.ntmps14
  go_wp2_with (first
    | (go_at_call 34; refine (HF.out _).mono ?_; rintro r w1 ⟨rfl, rfl⟩))
  refine (HMC.out _).mono ?_
  rintro r w2 ⟨F0, e, rfl, he0, hs0⟩
  generalize w.alloc (.cells #[.int .i64 k.self, .int .i64 k.hosts, .int .i64 k.room, .int .i64 k.win, .bool false, V] 26) = wU at *
  have HE0 := Lib.hid he0
  have HS0 := Lib.hid hs0
  have HEX0 : Hid (EX k (fun _ => xp0)) := Lib.hid (fun h _ _ => xp0_ok (c := k.pc h) (by show k.room ≤ 16; omega) (by show k.win ≤ k.room; omega) (by show 1 ≤ k.win; omega))
  have u1 : w2.cell? ⟨w.heap.size, 1, none⟩ = some (.int .i64 k.hosts) := by rw [(HBX.out.stN hs0).cell 1]; rfl
  clear he0 hs0
  have HSTC : Hid (∀ W, St No w2 No W → Calls Try.prog 20 #[.pointer (some ⟨e, 0, none⟩)] W (StateK W k (fun _ => xp0))) := Lib.hid (fun W s => state_callsK W F0 e k _ (HE0.out.st s (Dj.no _)) h2 HEX0.out)
  have e1 : ((k.hosts : Int) != (k.hosts : Int)) = false := by rw [bne_eq_false_iff_eq]
  have hfd : ∀ (x : Value) (W : World), (Instr.field 24 (.agg #[x]) 0).run Try.prog W = .ok x W := fun _ _ => by kernel_rfl
  go_wp2_with fail
  go_region_held3 (fun w' => w'.cell? ⟨w.heap.size, 1, none⟩ = some (.int .i64 k.hosts)) (go_keep)
    (first
      | (go_at_call 18; refine (num8_calls _ _).mono ?_; rintro r w1 ⟨rfl, rfl⟩)
      | (go_at_call 20
         refine (HSTC.out _ (by first | exact St.refl No _ | exact St.drew No _ | exact (St.drewN No _ _).trans (St.drew No _) | exact St.drewN No _ _)).mono ?_
         rintro r w5 ⟨va, vc, rows, rfl, hm5, hl5, hp5, hs5⟩
         have hs5' : St No w2 No w5 := (by refine St.trans ?_ (hs5.drop (fun _ e => e.elim)); first | exact St.refl No _ | exact St.drew No _ | exact (St.drewN No _ _).trans (St.drew No _) | exact St.drewN No _ _)
         have y1 := hs5'.cellN u1
         have HS5 := Lib.hid hs5'
         clear hs5 hs5' hm5 hl5 hp5))
  clear hfd
  have HEB := Lib.hid (HE0.out.st HS5.out (Dj.no _))
  have HSB := Lib.hid (HS0.out.quiet HS5.out)
  clear y1 u1 HS5 HSTC
  go_wp2_with fail
  go_loopw [7] (fun i wr => ∃ (n : Nat) (F : Nat → Prop) (X : Nat → XP), n ≤ rs.length ∧ i = .int .i64 n ∧ Hid (En wr F e k X) ∧ Hid (EX k X) ∧ Hid (St No wU F wr)) (fun i _ => rs.length - (intOf i).toNat)
  case atStart => exact ⟨0, F0, _, by omega, rfl, HEB, HEX0, HSB⟩
  case round =>
    obtain ⟨n, F, X, hn, rfl, HE, HX, HS⟩ := hrel
    by_cases hlt : n < rs.length
    · obtain ⟨r0, hr0⟩ : ∃ r0, rs[n]? = some r0 := ⟨_, List.getElem?_eq_getElem hlt⟩
      obtain ⟨x, rfl, hcx, hok⟩ := ((HA.out.st HSX.out).st HS.out) n r0 hr0
      have HC := Lib.hid hcx
      have HOK := Lib.hid hok
      have m1 : (n : Int) < (rs.length : Int) := by omega
      have HBW : Hid (r0.m_payload ≠ [] → Dj F (fpA r0.m_payloadA)) := Lib.hid (fun hne => by
        obtain ⟨_, _, _, hokw⟩ := HA.out n r0 hr0
        exact hokw.m_payload.1.dj hne (fun j hj => by have h7 := HS.out.news j hj; have h8 := HSX.out.size; omega))
      clear hr0 hcx
      obtain ⟨am, ham⟩ : ∃ am : Nat, IntKind.u8.wrap r0.who = (am : Int) ∧ am ≤ 255 := ⟨(r0.who % 256).toNat, by simp [IntKind.wrap, IntKind.bits, IntKind.signed]; omega, by omega⟩
      have hw8 := ham.1
      have hw64 : IntKind.i64.wrap (am : Int) = (am : Int) := IntWalk.i64_in _ (by have := ham.2; omega)
      have hw82 : IntKind.u8.wrap (am : Int) = (am : Int) := by have := ham.2; simp [IntKind.wrap, IntKind.bits, IntKind.signed]; omega
      go_upto_region 10 with (first
        | (refine wpList_load_at rfl 100 (.tmp 71) rfl (x.add (n * 19)) rfl r0.cells _ HC.out Try.underlying100 rfl stpInfo ?_)
        | (refine wpList_store_row rfl 100 (.tmp 8) (.tmp 72) rfl wr.heap.size _ rfl rfl _ _ (heap_alloc_new wr _) stpInfo rfl (StpR.one r0) ?_))
      have hbx := boxed wr #[.int .i64 0, .int .i64 0, .int .u8 0, .int .u64 0, .int .u64 0, .int .u64 0, .slice none 0 0, .slice none 0 0, .bool false, .int .u8 0, .int .u8 0, .int .u8 0, .int .u32 0, .int .u32 0, .int .u64 0, .int .u8 0, .slice none 0 0, .slice none 0 0, .slice none 0 0] 100 r0.cells.toArray
      generalize (wr.alloc (.cells #[.int .i64 0, .int .i64 0, .int .u8 0, .int .u64 0, .int .u64 0, .int .u64 0, .slice none 0 0, .slice none 0 0, .bool false, .int .u8 0, .int .u8 0, .int .u8 0, .int .u32 0, .int .u32 0, .int .u64 0, .int .u8 0, .slice none 0 0, .slice none 0 0, .slice none 0 0] 100)).setRow wr.heap.size r0.cells.toArray = w1 at *
      have HB1 := Lib.hid hbx.1
      have HS1 := Lib.hid hbx.2
      clear hbx
      have c1 : w1.cell? ⟨wr.heap.size, 1, none⟩ = some (.int .i64 r0.who) := by rw [HB1.out.cell 1]; rfl
      have c18 : w1.cell? ⟨wr.heap.size, 18, none⟩ = some (.slice r0.m_payloadA r0.m_payload.length r0.m_payloadC) := by rw [HB1.out.cell 18]; rfl
      have HU1 := Lib.hid ((HBX.out.stN HS.out).stN HS1.out)
      have u0 : w1.cell? ⟨w.heap.size, 0, none⟩ = some (.int .i64 k.self) := by rw [HU1.out.cell 0]; rfl
      have u1 : w1.cell? ⟨w.heap.size, 1, none⟩ = some (.int .i64 k.hosts) := by rw [HU1.out.cell 1]; rfl
      have HE1 := Lib.hid (HE.out.st HS1.out (Dj.no _))
      go_upto_region 11 with fail
      go_cut [10] from 63 to 203 (fun v wx => v = .bool (isP k am) ∧ wx = w1)
      case first =>
        --HEAVY
        by_cases q1 : am < k.hosts
        · have q1i : (am : Int) < (k.hosts : Int) := by omega
          by_cases q2 : am = k.self
          · have q2i : ((am : Int) != (k.self : Int)) = false := by rw [bne_eq_false_iff_eq]; omega
            have HP : Hid (isP k am = false) := Lib.hid (decide_eq_false (fun e => e.2 q2))
            have HQ := Lib.hid q2
            clear q1 q2
            go_wp2_with fail
            all_goals go_meet
            all_goals exact ⟨by rw [HP.out], rfl⟩
          · have q2i : ((am : Int) != (k.self : Int)) = true := by rw [bne_iff_ne]; omega
            have HP : Hid (isP k am = true) := Lib.hid (decide_eq_true ⟨q1, q2⟩)
            clear q1 q2
            go_wp2_with fail
            all_goals go_meet
            all_goals exact ⟨by rw [HP.out], rfl⟩
        · have q1i : decide ((am : Int) < (k.hosts : Int)) = false := decide_eq_false (by omega)
          have q1n : decide (am < k.hosts) = false := decide_eq_false q1
          have HP : Hid (isP k am = false) := Lib.hid (decide_eq_false (fun e => q1 e.1))
          clear q1
          go_wp2_with fail
          all_goals go_meet
          all_goals exact ⟨by rw [HP.out], rfl⟩
        --END
      case rest =>
        obtain ⟨rfl, rfl⟩ := hcut
        have HSTC := Lib.hid (state_callsK wc F e k X HE1.out h2 HX.out)
        clear c1 u0 u1
        go_wp2_with fail
        refine HSTC.out.mono ?_
        rintro r w2 ⟨va1, vc1, rows1, rfl, hm2, hl2, hp2, hs2⟩
        have HM2 := Lib.hid hm2
        have HL2 := Lib.hid hl2
        have HP2 := Lib.hid hp2
        have HS2 := Lib.hid hs2
        have c18' := hs2.cellN c18
        clear hm2 hl2 hp2 hs2 HSTC
        go_upto_region 13 with fail
        have HB3 := Lib.hid (Ob.alloc w2 #[.slice va1 k.hosts vc1] 24)
        have HS3 := Lib.hid (St.alloc' No w2 (.cells #[.slice va1 k.hosts vc1] 24))
        generalize w2.alloc (.cells #[.slice va1 k.hosts vc1] 24) = w3 at *
        have c18 := HS3.out.cellN c18'
        have HQ3 : Hid (St No wc No w3) := Lib.hid ((HS2.out.drop (fun _ e => e.elim)).trans HS3.out)
        have HE3 := Lib.hid (HE1.out.st HQ3.out (Dj.no _))
        have HM3 := Lib.hid (HM2.out.st HS3.out (Dj.no _))
        have HBS3 : Hid (Bs w3 r0.m_payloadA r0.m_payload) := Lib.hid (HOK.out.m_payload.1.st (HS1.out.trans HQ3.out) (Dj.no _))
        have HDJ : Hid (sizedB r0.m_payload.length = true → Dj F (fpA r0.m_payloadA)) := Lib.hid (fun hz => HBW.out (fun e => by
          have hz2 : 1 ≤ r0.m_payload.length ∧ r0.m_payload.length ≤ 3072 := of_decide_eq_true (show decide _ = true from hz)
          rw [e] at hz2
          exact absurd hz2.1 (by decide)))
        obtain ⟨er, her⟩ : ∃ er, sendE k X am r0.m_payload = er := ⟨_, rfl⟩
        have HSD := Lib.hid (send_callsD w3 F e k X HE3.out h2 HX.out am ham.2 r0.m_payloadA r0.m_payloadC r0.m_payload HBS3.out HDJ.out HOK.out.m_payload.2.2)
        rw [her] at HSD
        have HER := Lib.hid her
        clear c18' her
        go_wp2_with fail
        refine HSD.out.mono ?_
        rintro r w4 ⟨V4, os4, F4, rfl, ho4, hp4, he4, hs4, hd4⟩
        obtain ⟨oa, oc, rfl, _, _, _, _⟩ := ho4.own.form
        have HO4 := Lib.hid hp4
        have HE4 := Lib.hid he4
        have HS4 := Lib.hid (hs4.drop (fun j x => .inr (.inl x)) : St F w3 F4 w4)
        have HX4 : Hid (EX k (sendX k X am r0.m_payload)) := Lib.hid (sendX_ex HX.out)
        have HST4 := Lib.hid (state_callsK w4 F4 e k _ HE4.out h2 HX4.out)
        clear ho4 hp4 he4 hs4 hd4 HSD
        go_wp2_with fail
        refine HST4.out.mono ?_
        rintro r w5 ⟨va2, vc2, rows2, rfl, hm5, hl5, hp5, hs5⟩
        have HM5 := Lib.hid hm5
        have HL5 := Lib.hid hl5
        have HP5 := Lib.hid hp5
        have HS5 := Lib.hid hs5
        clear hm5 hl5 hp5 hs5 HST4 c18
        go_upto_region 15 with fail
        have HB6 := Lib.hid (Ob.alloc w5 #[.slice va2 k.hosts vc2] 24)
        have HS6 := Lib.hid (St.alloc' No w5 (.cells #[.slice va2 k.hosts vc2] 24))
        generalize w5.alloc (.cells #[.slice va2 k.hosts vc2] 24) = w6 at *
        -- the boxes are not among the end's places
        have HF3 : Hid (∀ j, F j → j < wr.heap.size) := Lib.hid (fun j hj => HE.out.in j hj)
        have HZ : Hid (wr.heap.size < wc.heap.size ∧ wc.heap.size ≤ w2.heap.size ∧ w2.heap.size < w3.heap.size) := Lib.hid ⟨HB1.out.lt, HS2.out.size, HB3.out.lt⟩
        have HQ6 : Hid (St No w4 No w6) := Lib.hid ((HS5.out.drop (fun _ e => e.elim)).trans HS6.out)
        have HBX6 := Lib.hid (((((HB1.out.stN HQ3.out).stF HS4.out (fun e => by have := HF3.out _ e; omega))).stN HQ6.out))
        have HBB6 := Lib.hid (((HB3.out.stF HS4.out (fun e => by have := HF3.out _ e; have := HZ.out; omega))).stN HQ6.out)
        have HM36 := Lib.hid ((HM3.out.st HS4.out (fun j x y => by
          have := HF3.out _ x
          have h7 := HS2.out.news j y
          have := HZ.out
          omega)).st HQ6.out (Dj.no _))
        have HM56 := Lib.hid (HM5.out.st HS6.out (Dj.no _))
        have HBS6 : Hid (Bs w6 r0.m_payloadA r0.m_payload) := Lib.hid ((HBS3.out.stE HS4.out HBW.out).st HQ6.out (Dj.no _))
        have HSN : Hid (∀ W, St No w6 No W → Calls Try.prog 44 #[.agg #[.slice va1 k.hosts vc1], .agg #[.slice va2 k.hosts vc2], .int .i64 am, .bool (decide (er = 0)), .slice r0.m_payloadA r0.m_payload.length r0.m_payloadC] W (fun e w' => e = .returned (.bool true) ∧ St No W No w')) := Lib.hid (fun W s => by
          have h := sent_calls va1 vc1 (rows1.map SB.sp) va2 vc2 (rows2.map SB.sp) am (decide (er = 0)) r0.m_payloadA r0.m_payloadC r0.m_payload (by rw [HL2.out]; omega) ham.2 HOK.out.m_payload.2.1 W ((HM36.out.rdK HP2.out HX.out).st s) ((HM56.out.rdK HP5.out HX4.out).st s) (HBS6.out.st s (Dj.no _)) (by rw [HL2.out, HL5.out]) (fun h s t hs ht => by
            have h2 := send_sent HX.out HP2.out HP5.out HM56.out.cap h s t hs ht
            rw [HER.out] at h2
            exact h2)
          rw [HL2.out, HL5.out] at h
          exact h)
        have HSC : Hid ((isP k am = false ∧ er = 80) ∨ (isP k am = true ∧ (er = 81 ∨ (er = 82 ∧ k.room ≤ (X am).queue.length) ∨ er = 83 ∨ er = 0))) := Lib.hid (by rw [← HER.out]; exact sendE_cases k X am r0.m_payload)
        have b11 : w6.cell? ⟨w2.heap.size, 0, none⟩ = some (.slice va1 k.hosts vc1) := by rw [HBB6.out.cell 0]; rfl
        have b14 : w6.cell? ⟨w5.heap.size, 0, none⟩ = some (.slice va2 k.hosts vc2) := by rw [HB6.out.cell 0]; rfl
        have c18 : w6.cell? ⟨wr.heap.size, 18, none⟩ = some (.slice r0.m_payloadA r0.m_payload.length r0.m_payloadC) := by rw [HBX6.out.cell 18]; rfl
        go_cut [128] from 63 to 127 (fun v wx => v = .bool false ∧ Hid (St No w6 No wx))
        case first =>
          --HEAVY a
          by_cases he : er = 0
          · subst he
            have hp1 : isP k am = true := by
              rcases HSC.out with h | h
              · exact absurd h.2 (by decide)
              · exact h.1
            generalize isP k am = pk at *
            subst hp1
            rw [decide_eq_true rfl] at HSN
            first
              | go_region_held (fun w' => w'.cell? ⟨w2.heap.size, 0, none⟩ = some (.slice va1 k.hosts vc1) ∧ w'.cell? ⟨w5.heap.size, 0, none⟩ = some (.slice va2 k.hosts vc2) ∧ w'.cell? ⟨wr.heap.size, 18, none⟩ = some (.slice r0.m_payloadA r0.m_payload.length r0.m_payloadC)) (go_keep) (first
                | (go_at_call 18; refine (num8_calls _ _).mono ?_; rintro r w7 ⟨rfl, rfl⟩)
                | (go_at_call 44
                   have sd : St No w6 No _ := (by first | exact St.drew No _ | exact (St.drewN No _ _).trans (St.drew No _) | exact St.drewN No _ _)
                   refine (HSN.out _ sd).mono ?_
                   rintro r w7 ⟨rfl, hs7⟩
                   have hs7' := sd.trans hs7
                   have b11' := hs7'.cellN b11
                   have b14' := hs7'.cellN b14
                   have c18' := hs7'.cellN c18
                   have HS7 := Lib.hid hs7'
                   clear hs7 hs7' sd))
              | fail
            go_wp2_with fail
            go_meet
            exact ⟨rfl, Lib.hid (HS7.out.trans (by first | exact St.refl No _ | exact St.drew No _ | exact (St.drewN No _ _).trans (St.drew No _) | exact St.drewN No _ _))⟩
          · have e2 : (er == 0) = false := by rw [beq_eq_false_iff_ne]; exact he
            have e3 : (er != 0) = true := by rw [bne_iff_ne]; exact he
            have e4 : decide (er = 0) = false := decide_eq_false he
            have HSM : Hid (os4.length = 0) := Lib.hid (by
              have h := (send_refused (k := k) (X := X) (a := am) (bs := r0.m_payload) (by rw [HER.out]; exact he)).1
              have h6 := HO4.out
              rw [h] at h6
              have := congrArg List.length h6
              simpa using this)
            have HE80 : Hid ((er == 80) = !isP k am) := Lib.hid (by
              rcases HSC.out with h | h
              · rw [h.1, h.2]; rfl
              · rw [h.1]
                rcases h.2 with h | h | h | h
                · rw [h]; rfl
                · rw [h.1]; rfl
                · rw [h]; rfl
                · exact absurd h he)
            generalize isP k am = pk at *
            have hsm := HSM.out
            clear HSM
            generalize os4.length = ln4 at *
            subst hsm
            rw [e4] at HSN
            obtain ⟨e80, he80⟩ : ∃ e80, (er == 80) = e80 := ⟨_, rfl⟩
            rw [he80] at HE80
            have hp2 : pk = !e80 := by rw [HE80.out, Bool.not_not]
            subst hp2
            first
              | go_region_held (fun w' => w'.cell? ⟨w2.heap.size, 0, none⟩ = some (.slice va1 k.hosts vc1) ∧ w'.cell? ⟨w5.heap.size, 0, none⟩ = some (.slice va2 k.hosts vc2) ∧ w'.cell? ⟨wr.heap.size, 18, none⟩ = some (.slice r0.m_payloadA r0.m_payload.length r0.m_payloadC)) (go_keep) (first
                | (go_at_call 18; refine (num8_calls _ _).mono ?_; rintro r w7 ⟨rfl, rfl⟩)
                | (go_at_call 44
                   have sd : St No w6 No _ := (by first | exact St.drew No _ | exact (St.drewN No _ _).trans (St.drew No _) | exact St.drewN No _ _)
                   refine (HSN.out _ sd).mono ?_
                   rintro r w7 ⟨rfl, hs7⟩
                   have hs7' := sd.trans hs7
                   have b11' := hs7'.cellN b11
                   have b14' := hs7'.cellN b14
                   have c18' := hs7'.cellN c18
                   have HS7 := Lib.hid hs7'
                   clear hs7 hs7' sd))
              | fail
            go_wp2_with fail
            go_meet
            exact ⟨by cases e80 <;> rfl, HS7⟩
          --END
        case rest =>
          obtain ⟨rfl, HSR⟩ := hcut
          clear b11 b14 c18
          have HU6 := Lib.hid (((HU1.out.stN HQ3.out).stF HS4.out (fun e => by have h7 := HS.out.news _ e; have h8 := HBX.out.lt; omega)).stN HQ6.out)
          have HU7 := Lib.hid (HU6.out.stN HSR.out)
          have HBB7 := Lib.hid (HBB6.out.stN HSR.out)
          have HM37 := Lib.hid (HM36.out.st HSR.out (Dj.no _))
          have HM57 := Lib.hid (HM56.out.st HSR.out (Dj.no _))
          have HBX7 := Lib.hid (HBX6.out.stN HSR.out)
          have b11 : wc.cell? ⟨w2.heap.size, 0, none⟩ = some (.slice va1 k.hosts vc1) := by rw [HBB7.out.cell 0]; rfl
          have u2 : wc.cell? ⟨w.heap.size, 2, none⟩ = some (.int .i64 k.room) := by rw [HU7.out.cell 2]; rfl
          go_upto_region 17 with fail
          go_cut [147] from 63 to 146 (fun v wx => v = .bool false ∧ Hid (St No wc No wx))
          case first =>
            --HEAVY b
            by_cases he : er = 82
            · subst he
              have hs82 : isP k am = true ∧ k.room ≤ (X am).queue.length := by
                rcases HSC.out with h | h
                · exact absurd h.2 (by decide)
                · refine ⟨h.1, ?_⟩
                  rcases h.2 with h | h | h | h
                  · exact absurd h (by decide)
                  · exact h.2
                  · exact absurd h (by decide)
                  · exact absurd h (by decide)
              have hpi := isP_iff.1 hs82.1
              have hql := (HX.out am hpi.1 hpi.2).ql
              have hqe : (X am).queue.length = k.room := by have : (k.pc am).room = k.room := rfl; omega
              have hls := HL2.out
              obtain ⟨s0, hs0⟩ : ∃ s0, (rows1.map SB.sp)[am]? = some s0 := ⟨_, List.getElem?_eq_getElem (by rw [hls]; exact hpi.1)⟩
              obtain ⟨hrd, y, hy, hrow⟩ := (HM37.out.rdK HP2.out HX.out) am s0 hs0
              have hpl := (stL_row HP2.out hs0).2
              rw [if_pos hpi] at hpl
              have hqn : s0.v.qn = k.room := by
                rw [hrd.qn, ← hqe, ← hpl]; rfl
              subst hy
              have c2 := hrow.c2
              rw [hqn] at c2
              have hp1 := hs82.1
              have q1 : (am : Int) < (k.hosts : Int) := by omega
              have q3 : ((k.room : Int) != (k.room : Int)) = false := by rw [bne_eq_false_iff_eq]
              clear hs82 hpi hql hqe hls hs0 hrd hrow hpl hqn
              generalize isP k am = pk at *
              subst hp1
              go_quiet ((go_at_call 18; exact num8_q _ _ _))
              go_wp2_with fail
              go_meet
              exact ⟨rfl, Lib.hid (St.drewN No _ _)⟩
            · have e2 : (er == 82) = false := by rw [beq_eq_false_iff_ne]; exact he
              go_quiet ((go_at_call 18; exact num8_q _ _ _))
              go_wp2_with fail
              go_meet
              exact ⟨rfl, Lib.hid (St.drewN No _ _)⟩
            --END
          case rest =>
            obtain ⟨rfl, HSR2⟩ := hcut
            clear b11 u2
            have HSB : Hid (St No w6 No wc) := Lib.hid (HSR.out.trans HSR2.out)
            have HBX8 := Lib.hid (HBX6.out.stN HSB.out)
            have HM58 := Lib.hid (HM56.out.st HSB.out (Dj.no _))
            have HB148 := Lib.hid (HB6.out.stN HSB.out)
            have HE8 := Lib.hid ((HE4.out.st HQ6.out (Dj.no _)).st HSB.out (Dj.no _))
            have HBS8 := Lib.hid (HBS6.out.st HSB.out (Dj.no _))
            have HMR : Hid (wc.rangeAt wr.heap.size 2 r0.mv.cells.toList) := Lib.hid (fun j v hv => by
              rw [HBX8.out.cell (2 + j)]
              have e := StpR.cells_mv HOK.out
              rw [show r0.cells.toArray[2 + j]? = r0.cells[2 + j]? by simp, e, show 2 + j = j + 1 + 1 by omega, List.getElem?_cons_succ, List.getElem?_cons_succ]
              exact hv)
            obtain ⟨er2, her2⟩ : ∃ er2, tkE k (sendX k X am r0.m_payload) am r0.mv r0.m_payload = er2 := ⟨_, rfl⟩
            have HTK := Lib.hid (take_calls wc F4 e k _ HE8.out h2 HX4.out am ham.2 r0.mv (StpR.mv_wf HOK.out) r0.m_payload rfl HBS8.out HOK.out.m_payload.2.2)
            rw [her2] at HTK
            have HER2 := Lib.hid her2
            clear her2
            go_wp2_with (refine wpList_load_mid rfl 60 (.tmp 152) rfl wr.heap.size 2 rfl r0.mv.cells.toList _ HMR.out Try.underlying60 rfl msgInfo ?_)
            refine HTK.out.mono ?_
            rintro r w8 ⟨Vu, us, Vm, os8, F8, hr, hu8, hpu8, ho8, hpo8, he8, hs8, _, _, _⟩
            obtain ⟨ua, uc, rfl, _, _, _, _⟩ := hu8.own.form
            obtain ⟨ma, mc, rfl, _, _, _, _⟩ := ho8.own.form
            obtain ⟨dd, hdd⟩ : ∃ dd, decide (stL k k.hosts (sendX k X am r0.m_payload) = stL k k.hosts (tkX k (sendX k X am r0.m_payload) am r0.mv r0.m_payload)) = dd := ⟨_, rfl⟩
            have hch := take_ch k (sendX k X am r0.m_payload) am r0.mv r0.m_payload
            rw [hdd] at hch
            rw [hch] at hr
            subst hr
            have HCH := Lib.hid hch
            have HDD := Lib.hid hdd
            have htc := take_cases k (sendX k X am r0.m_payload) am r0.mv r0.m_payload
            rw [HER2.out] at htc
            have HTC := Lib.hid htc
            have HPU8 := Lib.hid hpu8
            have HPO8 := Lib.hid hpo8
            have HE8b := Lib.hid he8
            have HX8 : Hid (EX k (tkX k (sendX k X am r0.m_payload) am r0.mv r0.m_payload)) := Lib.hid (tkX_ex HX4.out (StpR.mv_wf HOK.out).seq)
            have HS8 := Lib.hid (hs8.drop (fun j x => .inr (.inl x)) : St F4 wc F8 w8)
            have HF4 : Hid (∀ j, F4 j → j < w4.heap.size) := Lib.hid (fun j hj => HE4.out.in j hj)
            have HB14b := Lib.hid (HB148.out.stF HS8.out (fun e => by have h7 := HF4.out _ e; have h8 := HS5.out.size; omega))
            have HM5b := Lib.hid (HM58.out.st HS8.out (fun j x y => by have h7 := HF4.out j x; have h8 := HS5.out.news j y; omega))
            have HST8 : Hid (∀ W, St No w8 No W → Calls Try.prog 20 #[.pointer (some ⟨e, 0, none⟩)] W (StateK W k (tkX k (sendX k X am r0.m_payload) am r0.mv r0.m_payload))) := Lib.hid (fun W s => state_callsK W F8 e k _ (HE8b.out.st s (Dj.no _)) h2 HX8.out)
            clear htc hch hdd hu8 hpu8 ho8 hpo8 he8 hs8 HTK
            generalize tkX k (sendX k X am r0.m_payload) am r0.mv r0.m_payload = X8 at *
            generalize tkT k (sendX k X am r0.m_payload) am r0.mv r0.m_payload = t8 at *
            go_wp2_with fail
            refine (HST8.out _ (St.alloc' No w8 _)).mono ?_
            have HB15 := Lib.hid (Ob.alloc w8 #[.slice ua us.length uc, .slice ma os8.length mc, .bool (!dd)] 77)
            have HS9 := Lib.hid (St.alloc' No w8 (.cells #[.slice ua us.length uc, .slice ma os8.length mc, .bool (!dd)] 77))
            generalize w8.alloc (.cells #[.slice ua us.length uc, .slice ma os8.length mc, .bool (!dd)] 77) = w9 at *
            rintro r w10 ⟨va3, vc3, rows3, rfl, hm10, hl10, hp10, hs10⟩
            have HM10 := Lib.hid hm10
            have HL10 := Lib.hid hl10
            have HP10 := Lib.hid hp10
            have HS10 := Lib.hid hs10
            clear hm10 hl10 hp10 hs10
            go_upto_region 21 with fail
            have HB17 := Lib.hid (Ob.alloc w10 #[.slice va3 k.hosts vc3] 24)
            have HS11 := Lib.hid (St.alloc' No w10 (.cells #[.slice va3 k.hosts vc3] 24))
            generalize w10.alloc (.cells #[.slice va3 k.hosts vc3] 24) = w11 at *
            have HQ11 : Hid (St No w8 No w11) := Lib.hid (HS9.out.trans ((HS10.out.drop (fun _ e => e.elim)).trans HS11.out))
            have HQ11b : Hid (St No w9 No w11) := Lib.hid ((HS10.out.drop (fun _ e => e.elim)).trans HS11.out)
            have HB1411 := Lib.hid (HB14b.out.stN HQ11.out)
            have HB1511 := Lib.hid (HB15.out.stN HQ11b.out)
            have b14 : w11.cell? ⟨w5.heap.size, 0, none⟩ = some (.slice va2 k.hosts vc2) := by rw [HB1411.out.cell 0]; rfl
            have b15 : w11.cell? ⟨w8.heap.size, 2, none⟩ = some (.bool (!dd)) := by rw [HB1511.out.cell 2]; rfl
            have b17 : w11.cell? ⟨w10.heap.size, 0, none⟩ = some (.slice va3 k.hosts vc3) := by rw [HB17.out.cell 0]; rfl
            have HM511 := Lib.hid (HM5b.out.st HQ11.out (Dj.no _))
            have HM1011 := Lib.hid (HM10.out.st HS11.out (Dj.no _))
            have HSTA : Hid (∀ W, St No w11 No W → Calls Try.prog 19 #[.agg #[.slice va2 k.hosts vc2], .agg #[.slice va3 k.hosts vc3]] W (fun e w' => e = .returned (.bool dd) ∧ St No W No w')) := Lib.hid (fun W s => by
              have h := states8_calls va2 vc2 (rows2.map SB.sp) va3 vc3 (rows3.map SB.sp) (by rw [HL5.out]; omega) W ((HM511.out.rdK HP5.out HX4.out).st s) ((HM1011.out.rdK HP10.out HX8.out).st s)
              rw [HL5.out, HL10.out, HP5.out, HP10.out, HDD.out] at h
              exact h)
            have HE80b : Hid ((er2 == 80) = !isP k am) := Lib.hid (by
              rcases HTC.out with h | h
              · rw [h.1, h.2.1]; rfl
              · rw [h.1]
                rcases h.2 with h | ⟨h | h | h | h, _⟩
                · rw [h]; rfl
                · rw [h]; rfl
                · rw [h]; rfl
                · rw [h]; rfl
                · rw [h]; rfl)
            go_cut [171] from 63 to 170 (fun v wx => v = .bool false ∧ Hid (St No w11 No wx))
            case first =>
              --HEAVY c
              generalize isP k am = pk at *
              obtain ⟨e80, he80⟩ : ∃ e80, (er2 == 80) = e80 := ⟨_, rfl⟩
              rw [he80] at HE80b
              have hp2 : pk = !e80 := by rw [HE80b.out, Bool.not_not]
              subst hp2
              cases dd
              · have b15x : w11.cell? ⟨w8.heap.size, 2, none⟩ = some (.bool true) := b15
                clear b15
                first
                  | go_region_held (fun w' => w'.cell? ⟨w5.heap.size, 0, none⟩ = some (.slice va2 k.hosts vc2) ∧ w'.cell? ⟨w10.heap.size, 0, none⟩ = some (.slice va3 k.hosts vc3) ∧ w'.cell? ⟨w8.heap.size, 2, none⟩ = some (.bool true)) (go_keep) (first
                    | (go_at_call 18; refine (num8_calls _ _).mono ?_; rintro r w12 ⟨rfl, rfl⟩)
                    | (go_at_call 19
                       have sd : St No w11 No _ := (by first | exact St.drew No _ | exact (St.drewN No _ _).trans (St.drew No _) | exact St.drewN No _ _)
                       refine (HSTA.out _ sd).mono ?_
                       rintro r w12 ⟨rfl, hs12⟩
                       have hs12' := sd.trans hs12
                       have b14' := hs12'.cellN b14
                       have b15' := hs12'.cellN b15x
                       have b17' := hs12'.cellN b17
                       have HS12 := Lib.hid hs12'
                       clear hs12 hs12' sd))
                  | fail
                go_wp2_with fail
                go_meet
                exact ⟨by cases e80 <;> rfl, HS12⟩
              · have b15x : w11.cell? ⟨w8.heap.size, 2, none⟩ = some (.bool false) := b15
                clear b15
                first
                  | go_region_held (fun w' => w'.cell? ⟨w5.heap.size, 0, none⟩ = some (.slice va2 k.hosts vc2) ∧ w'.cell? ⟨w10.heap.size, 0, none⟩ = some (.slice va3 k.hosts vc3) ∧ w'.cell? ⟨w8.heap.size, 2, none⟩ = some (.bool false)) (go_keep) (first
                    | (go_at_call 18; refine (num8_calls _ _).mono ?_; rintro r w12 ⟨rfl, rfl⟩)
                    | (go_at_call 19
                       have sd : St No w11 No _ := (by first | exact St.drew No _ | exact (St.drewN No _ _).trans (St.drew No _) | exact St.drewN No _ _)
                       refine (HSTA.out _ sd).mono ?_
                       rintro r w12 ⟨rfl, hs12⟩
                       have hs12' := sd.trans hs12
                       have b14' := hs12'.cellN b14
                       have b15' := hs12'.cellN b15x
                       have b17' := hs12'.cellN b17
                       have HS12 := Lib.hid hs12'
                       clear hs12 hs12' sd))
                  | fail
                go_wp2_with fail
                go_meet
                exact ⟨by cases e80 <;> rfl, HS12⟩
              --END
            case rest =>
              obtain ⟨rfl, HSR3⟩ := hcut
              have HB1512 := Lib.hid (HB1511.out.stN HSR3.out)
              have HB1712 := Lib.hid (HB17.out.stN HSR3.out)
              have HM1012 := Lib.hid (HM1011.out.st HSR3.out (Dj.no _))
              have HE12 := Lib.hid ((HE8b.out.st HQ11.out (Dj.no _)).st HSR3.out (Dj.no _))
              clear b14 b15 b17
              have b0 : wc.cell? ⟨w8.heap.size, 0, none⟩ = some (.slice ua us.length uc) := by rw [HB1512.out.cell 0]; rfl
              have b1 : wc.cell? ⟨w8.heap.size, 1, none⟩ = some (.slice ma os8.length mc) := by rw [HB1512.out.cell 1]; rfl
              have b2 : wc.cell? ⟨w8.heap.size, 2, none⟩ = some (.bool (!dd)) := by rw [HB1512.out.cell 2]; rfl
              go_upto_region 23 with fail
              go_cut [190] from 63 to 189 (fun v wx => v = .bool false ∧ Hid (St No wc No wx))
              case first =>
                --HEAVY d
                by_cases he : er2 = 0
                · subst he
                  go_wp2_with (go_at_call 18; refine (num8_calls _ _).mono ?_; rintro r w13 ⟨rfl, rfl⟩)
                  go_meet
                  exact ⟨rfl, Lib.hid (St.refl No _)⟩
                · have e2 : (er2 != 0) = true := by rw [bne_iff_ne]; exact he
                  have ht : t8 = XT.none := by
                    rcases HTC.out with h | h
                    · exact h.2.2
                    · rcases h.2 with h | h
                      · exact absurd h he
                      · exact h.2
                  have h1 : dd = true := by
                    have h := HCH.out
                    rw [ht] at h
                    cases dd with
                    | true => rfl
                    | false => exact absurd h (by decide)
                  have h3 : us.length = 0 := by
                    have h := congrArg List.length HPU8.out
                    rw [ht] at h
                    simpa [XT.none] using h
                  have h4 : os8.length = 0 := by
                    have h := congrArg List.length HPO8.out
                    rw [ht] at h
                    simpa [XT.none] using h
                  clear ht
                  generalize us.length = ul at *
                  generalize os8.length = ol at *
                  subst h1
                  subst h3
                  subst h4
                  have b2x : wc.cell? ⟨w8.heap.size, 2, none⟩ = some (.bool false) := b2
                  clear b2
                  go_wp2_with (go_at_call 18; refine (num8_calls _ _).mono ?_; rintro r w13 ⟨rfl, rfl⟩)
                  go_meet
                  exact ⟨rfl, Lib.hid (St.refl No _)⟩
                --END
              case rest =>
                obtain ⟨rfl, HSR4⟩ := hcut
                have HB1713 := Lib.hid (HB1712.out.stN HSR4.out)
                have HM1013 := Lib.hid (HM1012.out.st HSR4.out (Dj.no _))
                have HE13 := Lib.hid (HE12.out.st HSR4.out (Dj.no _))
                clear b0 b1 b2
                --STOP 1
                have HTI := Lib.hid (tick_calls wc F8 e k X8 HE13.out h2 hwin HX8.out)
                --STOP 1a
                go_wp2_with fail
                --STOP 1b
                refine HTI.out.mono ?_
                rintro r w14 ⟨V14, os14, rfl, _, _, hs14⟩
                have hs14' : St No wc No w14 := hs14.drop (fun _ e => e.elim)
                have HE14 := Lib.hid (HE13.out.st hs14' (Dj.no _))
                have HRO := Lib.hid (room_calls w14 F8 e k X8 HE14.out h2 HX8.out am ham.2)
                have HS14 := Lib.hid hs14'
                clear hs14 hs14'
                --STOP 2
                go_wp2_with fail
                --STOP 2b
                refine HRO.out.mono ?_
                rintro r w15 ⟨rfl, hd15⟩
                have HS15 := Lib.hid (HS14.out.trans (hd15.st No))
                have HE15 := Lib.hid (HE13.out.st HS15.out (Dj.no _))
                --STOP 2c
                have HCA := Lib.hid (calm_calls w15 F8 e k X8 HE15.out h2)
                clear hd15
                go_wp2_with fail
                --STOP 2d
                refine HCA.out.mono ?_
                rintro r w16 ⟨rfl, rfl⟩
                --STOP 3
                have b17 : w16.cell? ⟨w10.heap.size, 0, none⟩ = some (.slice va3 k.hosts vc3) := by rw [(HB1713.out.stN HS15.out).cell 0]; rfl
                have HSTL : Hid (∀ W, St No w16 No W → Calls Try.prog 20 #[.pointer (some ⟨e, 0, none⟩)] W (StateK W k X8)) := Lib.hid (fun W s => state_callsK W F8 e k X8 (HE15.out.st s (Dj.no _)) h2 HX8.out)
                go_upto_region 28 with fail
                go_region_held3 (fun w' => w'.cell? ⟨w10.heap.size, 0, none⟩ = some (.slice va3 k.hosts vc3)) (go_keep)
                  (first
                    | (go_at_call 20
                       have sd : St No w16 No _ := (by first | exact St.drew No _ | exact (St.drewN No _ _).trans (St.drew No _) | exact St.drewN No _ _)
                       refine (HSTL.out _ sd).mono ?_
                       rintro r w17 ⟨va4, vc4, rows4, rfl, hm17, hl17, hp17, hs17⟩
                       have hs17' := sd.trans (hs17.drop (G' := No) (fun _ e => e.elim))
                       have b17' := hs17'.cellN b17
                       have HS17 := Lib.hid hs17'
                       have HM17 := Lib.hid hm17
                       have HL17 := Lib.hid hl17
                       have HP17 := Lib.hid hp17
                       clear hm17 hl17 hp17 hs17 hs17' sd)
                    | (go_at_call 19
                       have h := states8_calls va3 vc3 (rows3.map SB.sp) va4 vc4 (rows4.map SB.sp) (by rw [HL10.out]; omega) w17 (((HM1013.out.rdK HP10.out HX8.out).st HS15.out).st HS17.out) (HM17.out.rdK HP17.out HX8.out)
                       rw [HL10.out, HL17.out, HP10.out, HP17.out, decide_eq_true rfl] at h
                       refine h.mono ?_
                       rintro r w18 ⟨rfl, hs18⟩
                       have HS18 := Lib.hid (HS17.out.trans hs18)
                       have b17'' := HS18.out.cellN b17
                       clear h hs18))
                --STOP 4
                have HEF := Lib.hid (HE15.out.st HS18.out (Dj.no _))
                have HSF : Hid (St No wU F8 w18) := Lib.hid (((((((((((HS.out.quiet HS1.out).quiet HQ3.out).trans HS4.out).quiet HQ6.out).quiet HSB.out).trans HS8.out).quiet HQ11.out).quiet HSR3.out).quiet HSR4.out).quiet HS15.out).quiet HS18.out)
                clear b17 b17' b17''
                go_wp2
                exact ⟨⟨n + 1, F8, X8, by omega, by go_num, HEF, HX8, HSF⟩, by simp [intOf]; omega⟩
    · obtain rfl : n = rs.length := by omega
      go_wp2
      go_ret
      exact ⟨rfl, (HSX.out.trans HS.out).below⟩
end Go.Proofs.Ytjepmckofocdnaa
