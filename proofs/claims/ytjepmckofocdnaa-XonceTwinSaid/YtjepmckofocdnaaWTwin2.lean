
/-
  XonceTwin: the walk.
  XonceTwin: the walk, whatever the setup.
-/
import Derived.Test.YtjepmckofocdnaaXoTwinP
namespace Go.Proofs.Ytjepmckofocdnaa
open Go.RowKit
set_option linter.unusedVariables false
set_option linter.unusedSimpArgs false

def setC (k : EC) (b : Bool) (V : Value) : Array Value := #[.int .i64 k.self, .int .i64 k.hosts, .int .i64 k.room, .int .i64 k.win, .bool b, V]
structure TwA (w wr : World) (k : EC) (V : Value) (e : Nat) (F : Nat → Prop) (X : Nat → XP) : Prop where
  en : En wr F e k X
  ex : EX k X
  st : St No w F wr
  ub : Ob wr w.heap.size 26 (setC k false V)
  nb : ¬ F w.heap.size
structure TwB (w wr : World) (k : EC) (e f : Nat) (F G : Nat → Prop) (X : Nat → XP) : Prop where
  en : En wr F e k X
  fn : En wr G f k X
  dj : Dj F G
  ex : EX k X
  st : St No w (Or2 F G) wr
def TwR (w wr : World) (k : EC) (V : Value) (e : Nat) (ai : Int) (n : Nat) (v : Value) : Prop :=
  (v = .pointer none ∧ ∃ F X, TwA w wr k V e F X) ∨ (∃ f F G X, v = .pointer (some ⟨f, 0, none⟩) ∧ TwB w wr k e f F G X ∧ ai < (n : Int))
theorem setC_n {k : EC} {w : World} {g : Nat} {b : Bool} {V : Value} (h : Ob w g 26 (setC k b V)) : w.cell? ⟨g, 0, none⟩ = some (.int .i64 k.self) ∧ w.cell? ⟨g, 1, none⟩ = some (.int .i64 k.hosts) ∧ w.cell? ⟨g, 2, none⟩ = some (.int .i64 k.room) ∧ w.cell? ⟨g, 3, none⟩ = some (.int .i64 k.win) ∧ w.cell? ⟨g, 4, none⟩ = some (.bool b) ∧ w.cell? ⟨g, 5, none⟩ = some V :=
  ⟨by rw [h.cell 0]; rfl, by rw [h.cell 1]; rfl, by rw [h.cell 2]; rfl, by rw [h.cell 3]; rfl, by rw [h.cell 4]; rfl, by rw [h.cell 5]; rfl⟩
set_option maxRecDepth 100000 in
set_option maxHeartbeats 4000000 in
theorem twin_walk (k : EC) (V : Value) (rs : List StpR) (a : Option Addr) (c : Nat) (ai : Int) (hk : k.Ok) (hl : rs.length ≤ 140737488351232) (w : World) (ha : StpsIn w a rs) :
    Calls Try.prog 12 #[.agg #[.int .i64 k.self, .int .i64 k.hosts, .int .i64 k.room, .int .i64 k.win, .bool false, V], .slice a rs.length c, .int .i64 ai] w fun e w' => e = .returned (.bool true) ∧ Below w.heap.size w w' := by
  have HA := Lib.hid ha
  have HKO := Lib.hid hk
  have h1 := hk.self
  have h2 := hk.hosts
  have h3 := hk.win1
  have h4 := hk.win
  have h5 := hk.room
  have HF := Lib.hid (fits8_calls k.hosts k.room k.win)
  have HFB : Hid (fits8B k.hosts k.room k.win = true) := Lib.hid (decide_eq_true (by omega))
  have d0 : decide ((k.self : Int) < 0) = false := decide_eq_false (by omega)
  have d1 : decide ((k.hosts : Int) ≤ (k.self : Int)) = false := decide_eq_false (by omega)
  have HMC := Lib.hid (made_calls k hk V)
  rw [HFB.out] at HF
  have HBX := Lib.hid (show Ob (w.alloc (.cells #[.int .i64 k.self, .int .i64 k.hosts, .int .i64 k.room, .int .i64 k.win, .bool false, V] 26)) w.heap.size 26 (setC k false V) from Ob.alloc w #[.int .i64 k.self, .int .i64 k.hosts, .int .i64 k.room, .int .i64 k.win, .bool false, V] 26)
  have HSX := Lib.hid (St.alloc' No w (.cells #[.int .i64 k.self, .int .i64 k.hosts, .int .i64 k.room, .int .i64 k.win, .bool false, V] 26))
  clear ha hk
  go_enter Try.func12, Try.ntmps12
  go_wp2_with (first
    | (go_at_call 34; refine (HF.out _).mono ?_; rintro r w1 ⟨rfl, rfl⟩))
  refine (HMC.out _).mono ?_
  rintro r w2 ⟨F0, e, rfl, he0, hs0⟩
  have HX0 : Hid (EX k (fun _ => xp0)) := Lib.hid (fun h _ _ => xp0_ok (c := k.pc h) (by show k.room ≤ 16; omega) (by show k.win ≤ k.room; omega) (by show 1 ≤ k.win; omega))
  have HTA : Hid (TwA w w2 k V e F0 (fun _ => xp0)) := Lib.hid ⟨he0, HX0.out, HSX.out.trans hs0, HBX.out.stN hs0, fun h => by have h7 := hs0.news _ h; have h8 := HBX.out.lt; omega⟩
  clear he0 hs0 d0 d1 HF HFB HMC HBX HSX
  go_wp2_with (first
    | (go_at_call 18; refine (num8_calls _ _).mono ?_; rintro r w3 ⟨rfl, rfl⟩))
  go_loopw [9, 10] (fun v i wr => ∃ n : Nat, n ≤ rs.length ∧ i = .int .i64 n ∧ Hid (TwR w wr k V e ai n v)) (fun _ i _ => rs.length - (intOf i).toNat)
  case atStart => exact ⟨0, by omega, rfl, Lib.hid (.inl ⟨rfl, _, _, HTA.out⟩)⟩
  case round =>
    obtain ⟨n, hn, rfl, HR⟩ := hrel
    have hr := HR.out
    clear HR
    have m0 : (n : Int) ≤ (rs.length : Int) := by omega
    rcases hr with ⟨rfl, F, X, hTA⟩ | ⟨f, F, G, X, rfl, hTB, hat⟩
    · have HT := Lib.hid hTA
      clear hTA
      by_cases hna : (n : Int) = ai
      · have b0 : ((n : Int) == ai) = true := by rw [beq_iff_eq]; exact hna
        have HNA : Hid (ai < ((n + 1 : Nat) : Int)) := Lib.hid (by omega)
        clear hna
        have HUB := Lib.hid HT.out.ub
        obtain ⟨u0, u1, u2, u3, u4, u5⟩ := setC_n HT.out.ub
        have uf4 := HUB.out.free 4
        have hul := HUB.out.lt
        have HSTA : Hid (∀ W, St (fpB0 w.heap.size) wr (fpB0 w.heap.size) W → Calls Try.prog 20 #[.pointer (some ⟨e, 0, none⟩)] W (StateK W k X)) := Lib.hid (fun W s => state_callsK W F e k X (HT.out.en.st s (fun j x y => HT.out.nb (by rw [← (show j = w.heap.size from x)]; exact y))) h2 HT.out.ex)
        go_wp2_with fail
        have HU1 : Hid (Ob (wr.setCell ⟨w.heap.size, 4, none⟩ (.bool true)) w.heap.size 26 (setC k true V)) := Lib.hid (HUB.out.set 4 (.bool true))
        have HS1 : Hid (St (fpB0 w.heap.size) wr (fpB0 w.heap.size) (wr.setCell ⟨w.heap.size, 4, none⟩ (.bool true))) := Lib.hid (St.setCell _ _ _ rfl)
        refine (HSTA.out _ HS1.out).mono ?_
        generalize wr.setCell ⟨w.heap.size, 4, none⟩ (.bool true) = ws at *
        rintro r wt ⟨va, vc, rows, rfl, hmt, hlt0, hpt, hst⟩
        have HMt := Lib.hid hmt
        have HLt := Lib.hid hlt0
        have HPt := Lib.hid hpt
        have HSt := Lib.hid (hst.drop (fun _ e => e.elim) : St No ws No wt)
        have HStn := Lib.hid hst
        have HUt := Lib.hid (HU1.out.stN hst)
        have uf5 := HUt.out.free 5
        have hut := HUt.out.lt
        obtain ⟨v0, v1, v2, v3, v4, v5⟩ := setC_n HUt.out
        clear hmt hlt0 hpt hst HSTA
        have HU2 : Hid (Ob (wt.setCell ⟨w.heap.size, 5, none⟩ (.slice va k.hosts vc)) w.heap.size 26 (setC k true (.slice va k.hosts vc))) := Lib.hid (HUt.out.set 5 (.slice va k.hosts vc))
        have HS2 : Hid (St (fpB0 w.heap.size) wt (fpB0 w.heap.size) (wt.setCell ⟨w.heap.size, 5, none⟩ (.slice va k.hosts vc))) := Lib.hid (St.setCell _ _ _ rfl)
        go_upto_region 13 with fail
        generalize wt.setCell ⟨w.heap.size, 5, none⟩ (.slice va k.hosts vc) = wv at *
        clear v0 v1 v2 v3 v4 v5 u0 u1 u2 u3 u4 u5 uf4 uf5
        obtain ⟨v0, v1, v2, v3, v4, v5⟩ := setC_n HU2.out
        have hwl : w.heap.size < wr.heap.size := HUB.out.lt
        have HMv := Lib.hid (HMt.out.st HS2.out (fun j x y => by
          have h7 := HStn.out.news j y
          have h8 := HU1.out.lt
          have h9 : j = w.heap.size := x
          omega))
        have HRv : Hid (StR wv va (rows.map SB.sp)) := Lib.hid (HMv.out.rdK HPt.out HT.out.ex)
        have HEv : Hid (En wv F e k X) := Lib.hid (((HT.out.en.st HS1.out (fun j x y => HT.out.nb (by rw [← (show j = w.heap.size from x)]; exact y))).st HSt.out (Dj.no _)).st HS2.out (fun j x y => HT.out.nb (by rw [← (show j = w.heap.size from x)]; exact y)))
        have HML := Lib.hid (madeL_calls k HKO.out wv va vc (rows.map SB.sp) HRv.out (loadB_of HT.out.ex HRv.out HLt.out HPt.out))
        go_wp2_with fail
        refine HML.out.mono ?_
        rintro r wl ⟨G, f, rfl, hfl, hsl⟩
        have HFl : Hid (En wl G f k X) := Lib.hid (hfl.congr (fun b hb hs => plX_stL HLt.out HPt.out hb hs))
        have HSl := Lib.hid hsl
        have HDl : Hid (Dj F G) := Lib.hid (fun j x y => by have h7 := hsl.news j y; have h8 := HEv.out.in j x; omega)
        have HEl := Lib.hid (HEv.out.st hsl (Dj.no _))
        have HUl := Lib.hid (HU2.out.stN hsl)
        have HRl := Lib.hid (HRv.out.st hsl)
        clear hfl hsl v0 v1 v2 v3 v4 v5 HML
        have w1c : wl.cell? ⟨w.heap.size, 1, none⟩ = some (.int .i64 k.hosts) := (setC_n HUl.out).2.1
        have w5c : wl.cell? ⟨w.heap.size, 5, none⟩ = some (.slice va k.hosts vc) := (setC_n HUl.out).2.2.2.2.2
        have HSF : Hid (∀ W, St No wl No W → Calls Try.prog 20 #[.pointer (some ⟨f, 0, none⟩)] W (StateK W k X)) := Lib.hid (fun W s => state_callsK W G f k X (HFl.out.st s (Dj.no _)) h2 HT.out.ex)
        have e1 : ((k.hosts : Int) != (k.hosts : Int)) = false := by rw [bne_eq_false_iff_eq]
        go_upto_region 14 with fail
        go_cut [100] from 49 to 99 (fun v wx => v = .bool false ∧ Hid (St No wl No wx))
        case first =>
          go_region_held3 (fun w' => w'.cell? ⟨w.heap.size, 1, none⟩ = some (.int .i64 k.hosts) ∧ w'.cell? ⟨w.heap.size, 5, none⟩ = some (.slice va k.hosts vc)) (go_keep)
            (first
              | (go_at_call 18; refine (num8_calls _ _).mono ?_; rintro r w1 ⟨rfl, rfl⟩)
              | (go_at_call 20
                 have sd : St No wl No _ := (by first | exact St.drew No _ | exact (St.drewN No _ _).trans (St.drew No _) | exact St.drewN No _ _)
                 refine (HSF.out _ sd).mono ?_
                 rintro r w5 ⟨vb, vd, rowsb, rfl, hm5, hl5, hp5, hs5⟩
                 have hs5' : St No wl No w5 := sd.trans (hs5.drop (fun _ e => e.elim))
                 have y1 := hs5'.cellN w1c
                 have y5 := hs5'.cellN w5c
                 have HS5 := Lib.hid hs5'
                 have HM5 := Lib.hid hm5
                 have HL5 := Lib.hid hl5
                 have HP5 := Lib.hid hp5
                 clear hs5 hs5' hm5 hl5 hp5 sd)
              | (go_at_call 19
                 have h := states8_calls vb vd (rowsb.map SB.sp) va vc (rows.map SB.sp) (by rw [HL5.out]; omega) w5 (HM5.out.rdK HP5.out HT.out.ex) (HRl.out.st HS5.out)
                 rw [HL5.out, HLt.out, HP5.out, HPt.out, decide_eq_true rfl] at h
                 refine h.mono ?_
                 rintro r w6 ⟨rfl, hs6⟩
                 have HS6 := Lib.hid (HS5.out.trans hs6)
                 have z1 := HS6.out.cellN w1c
                 have z5 := HS6.out.cellN w5c
                 clear h hs6))
          go_wp2_with fail
          go_meet
          exact ⟨rfl, HS6⟩
        case rest =>
          obtain ⟨rfl, HSc⟩ := hcut
          clear w1c w5c
          have HTB : Hid (TwB w wc k e f F G X) := Lib.hid (by
            refine ⟨HEl.out.st HSc.out (Dj.no _), HFl.out.st HSc.out (Dj.no _), HDl.out, HT.out.ex, ?_⟩
            have z0 := HT.out.st
            have z1 := HS1.out
            have z2 := HSt.out
            have z3 := HS2.out
            have z4 := HSl.out
            have z5 := HSc.out
            have y0 := z0.size
            have y1 := z1.size
            have y2 := z2.size
            have y3 := z3.size
            have y4 := z4.size
            have y5 := z5.size
            refine ⟨z5.os.trans (z4.os.trans (z3.os.trans (z2.os.trans (z1.os.trans z0.os)))), z5.tape.trans (z4.tape.trans (z3.tape.trans (z2.tape.trans (z1.tape.trans z0.tape)))), z5.output.trans (z4.output.trans (z3.output.trans (z2.output.trans (z1.output.trans z0.output)))), by omega, fun j hj _ => ?_, ?_⟩
            · have hne : ¬ fpB0 w.heap.size j := fun e => by have e' : j = w.heap.size := e; omega
              rw [z5.block j (by omega) (fun e => e), z4.block j (by omega) (fun e => e), z3.block j (by omega) hne, z2.block j (by omega) (fun e => e), z1.block j (by omega) hne, z0.block j hj (fun e => e)]
            · rintro j (hj | hj)
              · exact z0.new j hj
              · exact .inr (by have h7 := z4.news j hj; omega))
          clear HUB hul hut HU1 HS1 HMt HStn HSt HUt HU2 HS2 hwl HMv HRv HEv HFl HSl HDl HEl HUl HRl HSF e1 HSc
          by_cases hlt : n < rs.length
          · have b1 : ((n : Int) == (rs.length : Int)) = false := by rw [beq_eq_false_iff_ne]; omega
            obtain ⟨r0, hr0⟩ : ∃ r0, rs[n]? = some r0 := ⟨_, List.getElem?_eq_getElem hlt⟩
            obtain ⟨x, hxa, hcx, hok⟩ := (HA.out.st HTB.out.st) n r0 hr0
            have hpd : ∀ j, Or2 F G j → w.heap.size ≤ j := fun j hj => (HTB.out.st).news j hj
            have HBW : Hid (r0.m_payload ≠ [] → Dj (Or2 F G) (fpA r0.m_payloadA)) := Lib.hid (fun hne => by
              obtain ⟨_, _, _, hokw⟩ := HA.out n r0 hr0
              exact hokw.m_payload.1.dj hne hpd)
            subst hxa
            have HC := Lib.hid hcx
            have HOK := Lib.hid hok
            have m1 : (n : Int) < (rs.length : Int) := by omega
            clear hr0 hcx hpd
            obtain ⟨am, ham⟩ : ∃ am : Nat, IntKind.u8.wrap r0.who = (am : Int) ∧ am ≤ 255 := ⟨(r0.who % 256).toNat, by simp [IntKind.wrap, IntKind.bits, IntKind.signed]; omega, by omega⟩
            have hw8 := ham.1
            go_upto_region 19 with (first
              | (refine wpList_load_at rfl 100 (.tmp 108) rfl (x.add (n * 19)) rfl r0.cells _ HC.out Try.underlying100 rfl stpInfo ?_)
              | (refine wpList_load_at rfl 100 (.tmp 107) rfl (x.add (n * 19)) rfl r0.cells _ HC.out Try.underlying100 rfl stpInfo ?_)
              | (refine wpList_store_row rfl 100 (.tmp 11) (.tmp 108) rfl wc.heap.size _ rfl rfl _ _ (heap_alloc_new wc _) stpInfo rfl (StpR.one r0) ?_))
            have hbx := boxed wc #[.int .i64 0, .int .i64 0, .int .u8 0, .int .u64 0, .int .u64 0, .int .u64 0, .slice none 0 0, .slice none 0 0, .bool false, .int .u8 0, .int .u8 0, .int .u8 0, .int .u32 0, .int .u32 0, .int .u64 0, .int .u8 0, .slice none 0 0, .slice none 0 0, .slice none 0 0] 100 r0.cells.toArray
            generalize (wc.alloc (.cells #[.int .i64 0, .int .i64 0, .int .u8 0, .int .u64 0, .int .u64 0, .int .u64 0, .slice none 0 0, .slice none 0 0, .bool false, .int .u8 0, .int .u8 0, .int .u8 0, .int .u32 0, .int .u32 0, .int .u64 0, .int .u8 0, .slice none 0 0, .slice none 0 0, .slice none 0 0] 100)).setRow wc.heap.size r0.cells.toArray = wb at *
            have HBb := Lib.hid hbx.1
            have HSb := Lib.hid hbx.2
            clear hbx
            have c0 : wb.cell? ⟨wc.heap.size, 0, none⟩ = some (.int .i64 r0.kind) := by rw [HBb.out.cell 0]; rfl
            have c1 : wb.cell? ⟨wc.heap.size, 1, none⟩ = some (.int .i64 r0.who) := by rw [HBb.out.cell 1]; rfl

            have HAC := Lib.hid (alike_calls wb F G e f k X (HTB.out.en.st HSb.out (Dj.no _)) (HTB.out.fn.st HSb.out (Dj.no _)) HTB.out.dj HKO.out HTB.out.ex am ham.2 r0 (HOK.out.st HSb.out) HBW.out)
            go_wp2_with (refine wpList_load_row rfl 100 (.tmp 11) rfl wc.heap.size rfl 100 r0.cells.toArray (0, 0) _ HBb.out Try.underlying100 rfl stpInfo ?_)
            refine HAC.out.mono ?_
            rintro r w9 ⟨rfl, F', G', X', he9, hf9, hd9, hx9, hs9⟩
            have HT9 : Hid (TwB w w9 k e f F' G' X') := Lib.hid ⟨he9, hf9, hd9, hx9, (HTB.out.st.quiet HSb.out).trans hs9⟩
            clear he9 hf9 hd9 hx9 hs9 HAC c0 c1
            go_wp2
            exact ⟨⟨n + 1, by omega, by go_num, Lib.hid (.inr ⟨f, F', G', X', rfl, HT9.out, HNA.out⟩)⟩, by simp [intOf]; omega⟩
          · obtain rfl : n = rs.length := by omega
            have b1 : ((rs.length : Int) == (rs.length : Int)) = true := by rw [beq_iff_eq]
            go_wp2
            go_ret
            exact ⟨rfl, HTB.out.st.below⟩
      · have b0 : ((n : Int) == ai) = false := by rw [beq_eq_false_iff_ne]; exact hna
        by_cases hlt : n < rs.length
        · have b1 : ((n : Int) == (rs.length : Int)) = false := by rw [beq_eq_false_iff_ne]; omega
          clear hna
          obtain ⟨r0, hr0⟩ : ∃ r0, rs[n]? = some r0 := ⟨_, List.getElem?_eq_getElem hlt⟩
          obtain ⟨x, hxa, hcx, hok⟩ := (HA.out.st HT.out.st) n r0 hr0
          have hpd : ∀ j, F j → w.heap.size ≤ j := fun j hj => (HT.out.st).news j hj
          have HBW : Hid (r0.m_payload ≠ [] → Dj (F) (fpA r0.m_payloadA)) := Lib.hid (fun hne => by
            obtain ⟨_, _, _, hokw⟩ := HA.out n r0 hr0
            exact hokw.m_payload.1.dj hne hpd)
          subst hxa
          have HC := Lib.hid hcx
          have HOK := Lib.hid hok
          have m1 : (n : Int) < (rs.length : Int) := by omega
          clear hr0 hcx hpd
          obtain ⟨am, ham⟩ : ∃ am : Nat, IntKind.u8.wrap r0.who = (am : Int) ∧ am ≤ 255 := ⟨(r0.who % 256).toNat, by simp [IntKind.wrap, IntKind.bits, IntKind.signed]; omega, by omega⟩
          have hw8 := ham.1
          go_upto_region 19 with (first
            | (refine wpList_load_at rfl 100 (.tmp 108) rfl (x.add (n * 19)) rfl r0.cells _ HC.out Try.underlying100 rfl stpInfo ?_)
            | (refine wpList_load_at rfl 100 (.tmp 107) rfl (x.add (n * 19)) rfl r0.cells _ HC.out Try.underlying100 rfl stpInfo ?_)
            | (refine wpList_store_row rfl 100 (.tmp 11) (.tmp 108) rfl wr.heap.size _ rfl rfl _ _ (heap_alloc_new wr _) stpInfo rfl (StpR.one r0) ?_))
          have hbx := boxed wr #[.int .i64 0, .int .i64 0, .int .u8 0, .int .u64 0, .int .u64 0, .int .u64 0, .slice none 0 0, .slice none 0 0, .bool false, .int .u8 0, .int .u8 0, .int .u8 0, .int .u32 0, .int .u32 0, .int .u64 0, .int .u8 0, .slice none 0 0, .slice none 0 0, .slice none 0 0] 100 r0.cells.toArray
          generalize (wr.alloc (.cells #[.int .i64 0, .int .i64 0, .int .u8 0, .int .u64 0, .int .u64 0, .int .u64 0, .slice none 0 0, .slice none 0 0, .bool false, .int .u8 0, .int .u8 0, .int .u8 0, .int .u32 0, .int .u32 0, .int .u64 0, .int .u8 0, .slice none 0 0, .slice none 0 0, .slice none 0 0] 100)).setRow wr.heap.size r0.cells.toArray = wb at *
          have HBb := Lib.hid hbx.1
          have HSb := Lib.hid hbx.2
          clear hbx
          have c0 : wb.cell? ⟨wr.heap.size, 0, none⟩ = some (.int .i64 r0.kind) := by rw [HBb.out.cell 0]; rfl
          have c1 : wb.cell? ⟨wr.heap.size, 1, none⟩ = some (.int .i64 r0.who) := by rw [HBb.out.cell 1]; rfl

          have HEb := Lib.hid (HT.out.en.st HSb.out (Dj.no _))
          have HMR : Hid (wb.rangeAt wr.heap.size 2 r0.mv.cells.toList) := Lib.hid (fun j v hv => by
            rw [HBb.out.cell (2 + j)]
            have e := StpR.cells_mv HOK.out
            rw [show r0.cells.toArray[2 + j]? = r0.cells[2 + j]? by simp, e, show 2 + j = j + 1 + 1 by omega, List.getElem?_cons_succ, List.getElem?_cons_succ]
            exact hv)
          have HTK := Lib.hid (take_calls wb F e k X HEb.out h2 HT.out.ex am ham.2 r0.mv (StpR.mv_wf HOK.out) r0.m_payload rfl (HOK.out.m_payload.1.st HSb.out (Dj.no _)) HOK.out.m_payload.2.2)
          go_wp2_with (refine wpList_load_mid rfl 60 (.tmp 116) rfl wr.heap.size 2 rfl r0.mv.cells.toList _ HMR.out Try.underlying60 rfl msgInfo ?_)
          refine HTK.out.mono ?_
          rintro r wd ⟨Vu, us, Vm, os8, F8, rfl, _, _, _, _, he8, hs8, _, _, _⟩
          have hnF : ¬ F wr.heap.size := fun e => by have := HT.out.en.in _ e; omega
          have HBd := Lib.hid (HBb.out.stF hs8 hnF)
          have HT8 : Hid (TwA w wd k V e F8 (tkX k X am r0.mv r0.m_payload)) := Lib.hid ⟨he8, tkX_ex HT.out.ex (StpR.mv_wf HOK.out).seq, (HT.out.st.quiet HSb.out).trans (hs8.drop (fun j x => .inr (.inl x))), (HT.out.ub.stN HSb.out).stF hs8 HT.out.nb, fun h => by
            rcases hs8.new _ (.inl h) with h7 | h7
            · exact HT.out.nb h7
            · have h9 := (HT.out.ub.stN HSb.out).lt; omega⟩
          have HN8 : Hid (∀ j, F8 j → F j ∨ wb.heap.size ≤ j) := Lib.hid (fun j hj => hs8.new j (.inl hj))
          have HBSd : Hid (Bs wd r0.m_payloadA r0.m_payload) := Lib.hid ((HOK.out.m_payload.1.st HSb.out (Dj.no _)).stE hs8 HBW.out)
          have HNP : Hid (∀ j, F8 j → w.heap.size ≤ j) := Lib.hid (fun j hj => HT8.out.st.news j hj)
          have HPW : Hid (r0.m_payload ≠ [] → Dj F8 (fpA r0.m_payloadA)) := Lib.hid (fun hne j x y => by
            rcases HN8.out j x with h7 | h7
            · exact HBW.out hne j h7 y
            · obtain ⟨z, hz, hzb⟩ := y
              obtain ⟨y0, hy0, hc0⟩ := HOK.out.m_payload.1.at 0 (by cases hb : r0.m_payload with | nil => exact absurd hb hne | cons b l => simp)
              rw [hz] at hy0
              cases hy0
              have h9 := World.block_lt_of_cell? wr _ hc0
              rw [addr_block] at h9
              have h10 := HSb.out.size
              omega)
          have d0c : wd.cell? ⟨wr.heap.size, 0, none⟩ = some (.int .i64 r0.kind) := by rw [HBd.out.cell 0]; rfl
          have d18 : wd.cell? ⟨wr.heap.size, 18, none⟩ = some (.slice r0.m_payloadA r0.m_payload.length r0.m_payloadC) := by rw [HBd.out.cell 18]; rfl
          clear he8 hs8 c0 c1 HTK HMR hnF
          generalize tkX k X am r0.mv r0.m_payload = X8 at *
          by_cases hkd : r0.kind = 1
          · have k1 : (r0.kind == 1) = true := by rw [beq_iff_eq]; exact hkd
            have HSD := Lib.hid (send_callsD wd F8 e k X8 HT8.out.en h2 HT8.out.ex am ham.2 r0.m_payloadA r0.m_payloadC r0.m_payload HBSd.out (fun hz => HPW.out (fun e => by
              have hz2 : 1 ≤ r0.m_payload.length ∧ r0.m_payload.length ≤ 3072 := of_decide_eq_true (show decide _ = true from hz)
              rw [e] at hz2
              exact absurd hz2.1 (by decide))) HOK.out.m_payload.2.2)
            clear hkd
            go_wp2_with fail
            refine HSD.out.mono ?_
            rintro r w9 ⟨V9, os9, F9, rfl, _, _, he9, hs9, _⟩
            have HT9 : Hid (TwA w w9 k V e F9 (sendX k X8 am r0.m_payload)) := Lib.hid ⟨he9, sendX_ex HT8.out.ex, HT8.out.st.trans (hs9.drop (fun j x => .inr (.inl x))), HT8.out.ub.stF hs9 HT8.out.nb, fun h => by
              rcases hs9.new _ (.inl h) with h7 | h7
              · exact HT8.out.nb h7
              · have h9 := HT8.out.ub.lt; omega⟩
            clear he9 hs9 HSD d0c d18
            go_wp2
            exact ⟨⟨n + 1, by omega, by go_num, Lib.hid (.inl ⟨rfl, _, _, HT9.out⟩)⟩, by simp [intOf]; omega⟩
          · have k1 : (r0.kind == 1) = false := by rw [beq_eq_false_iff_ne]; exact hkd
            clear hkd d18
            go_wp2
            exact ⟨⟨n + 1, by omega, by go_num, Lib.hid (.inl ⟨rfl, _, _, HT8.out⟩)⟩, by simp [intOf]; omega⟩
        · obtain rfl : n = rs.length := by omega
          have b1 : ((rs.length : Int) == (rs.length : Int)) = true := by rw [beq_iff_eq]
          have HNA : Hid (True) := Lib.hid trivial
          clear hna
          have HUB := Lib.hid HT.out.ub
          obtain ⟨u0, u1, u2, u3, u4, u5⟩ := setC_n HT.out.ub
          have uf4 := HUB.out.free 4
          have hul := HUB.out.lt
          have HSTA : Hid (∀ W, St (fpB0 w.heap.size) wr (fpB0 w.heap.size) W → Calls Try.prog 20 #[.pointer (some ⟨e, 0, none⟩)] W (StateK W k X)) := Lib.hid (fun W s => state_callsK W F e k X (HT.out.en.st s (fun j x y => HT.out.nb (by rw [← (show j = w.heap.size from x)]; exact y))) h2 HT.out.ex)
          go_wp2_with fail
          have HU1 : Hid (Ob (wr.setCell ⟨w.heap.size, 4, none⟩ (.bool true)) w.heap.size 26 (setC k true V)) := Lib.hid (HUB.out.set 4 (.bool true))
          have HS1 : Hid (St (fpB0 w.heap.size) wr (fpB0 w.heap.size) (wr.setCell ⟨w.heap.size, 4, none⟩ (.bool true))) := Lib.hid (St.setCell _ _ _ rfl)
          refine (HSTA.out _ HS1.out).mono ?_
          generalize wr.setCell ⟨w.heap.size, 4, none⟩ (.bool true) = ws at *
          rintro r wt ⟨va, vc, rows, rfl, hmt, hlt0, hpt, hst⟩
          have HMt := Lib.hid hmt
          have HLt := Lib.hid hlt0
          have HPt := Lib.hid hpt
          have HSt := Lib.hid (hst.drop (fun _ e => e.elim) : St No ws No wt)
          have HStn := Lib.hid hst
          have HUt := Lib.hid (HU1.out.stN hst)
          have uf5 := HUt.out.free 5
          have hut := HUt.out.lt
          obtain ⟨v0, v1, v2, v3, v4, v5⟩ := setC_n HUt.out
          clear hmt hlt0 hpt hst HSTA
          have HU2 : Hid (Ob (wt.setCell ⟨w.heap.size, 5, none⟩ (.slice va k.hosts vc)) w.heap.size 26 (setC k true (.slice va k.hosts vc))) := Lib.hid (HUt.out.set 5 (.slice va k.hosts vc))
          have HS2 : Hid (St (fpB0 w.heap.size) wt (fpB0 w.heap.size) (wt.setCell ⟨w.heap.size, 5, none⟩ (.slice va k.hosts vc))) := Lib.hid (St.setCell _ _ _ rfl)
          go_upto_region 13 with fail
          generalize wt.setCell ⟨w.heap.size, 5, none⟩ (.slice va k.hosts vc) = wv at *
          clear v0 v1 v2 v3 v4 v5 u0 u1 u2 u3 u4 u5 uf4 uf5
          obtain ⟨v0, v1, v2, v3, v4, v5⟩ := setC_n HU2.out
          have hwl : w.heap.size < wr.heap.size := HUB.out.lt
          have HMv := Lib.hid (HMt.out.st HS2.out (fun j x y => by
            have h7 := HStn.out.news j y
            have h8 := HU1.out.lt
            have h9 : j = w.heap.size := x
            omega))
          have HRv : Hid (StR wv va (rows.map SB.sp)) := Lib.hid (HMv.out.rdK HPt.out HT.out.ex)
          have HEv : Hid (En wv F e k X) := Lib.hid (((HT.out.en.st HS1.out (fun j x y => HT.out.nb (by rw [← (show j = w.heap.size from x)]; exact y))).st HSt.out (Dj.no _)).st HS2.out (fun j x y => HT.out.nb (by rw [← (show j = w.heap.size from x)]; exact y)))
          have HML := Lib.hid (madeL_calls k HKO.out wv va vc (rows.map SB.sp) HRv.out (loadB_of HT.out.ex HRv.out HLt.out HPt.out))
          go_wp2_with fail
          refine HML.out.mono ?_
          rintro r wl ⟨G, f, rfl, hfl, hsl⟩
          have HFl : Hid (En wl G f k X) := Lib.hid (hfl.congr (fun b hb hs => plX_stL HLt.out HPt.out hb hs))
          have HSl := Lib.hid hsl
          have HDl : Hid (Dj F G) := Lib.hid (fun j x y => by have h7 := hsl.news j y; have h8 := HEv.out.in j x; omega)
          have HEl := Lib.hid (HEv.out.st hsl (Dj.no _))
          have HUl := Lib.hid (HU2.out.stN hsl)
          have HRl := Lib.hid (HRv.out.st hsl)
          clear hfl hsl v0 v1 v2 v3 v4 v5 HML
          have w1c : wl.cell? ⟨w.heap.size, 1, none⟩ = some (.int .i64 k.hosts) := (setC_n HUl.out).2.1
          have w5c : wl.cell? ⟨w.heap.size, 5, none⟩ = some (.slice va k.hosts vc) := (setC_n HUl.out).2.2.2.2.2
          have HSF : Hid (∀ W, St No wl No W → Calls Try.prog 20 #[.pointer (some ⟨f, 0, none⟩)] W (StateK W k X)) := Lib.hid (fun W s => state_callsK W G f k X (HFl.out.st s (Dj.no _)) h2 HT.out.ex)
          have e1 : ((k.hosts : Int) != (k.hosts : Int)) = false := by rw [bne_eq_false_iff_eq]
          go_upto_region 14 with fail
          go_cut [100] from 49 to 99 (fun v wx => v = .bool false ∧ Hid (St No wl No wx))
          case first =>
            go_region_held3 (fun w' => w'.cell? ⟨w.heap.size, 1, none⟩ = some (.int .i64 k.hosts) ∧ w'.cell? ⟨w.heap.size, 5, none⟩ = some (.slice va k.hosts vc)) (go_keep)
              (first
                | (go_at_call 18; refine (num8_calls _ _).mono ?_; rintro r w1 ⟨rfl, rfl⟩)
                | (go_at_call 20
                   have sd : St No wl No _ := (by first | exact St.drew No _ | exact (St.drewN No _ _).trans (St.drew No _) | exact St.drewN No _ _)
                   refine (HSF.out _ sd).mono ?_
                   rintro r w5 ⟨vb, vd, rowsb, rfl, hm5, hl5, hp5, hs5⟩
                   have hs5' : St No wl No w5 := sd.trans (hs5.drop (fun _ e => e.elim))
                   have y1 := hs5'.cellN w1c
                   have y5 := hs5'.cellN w5c
                   have HS5 := Lib.hid hs5'
                   have HM5 := Lib.hid hm5
                   have HL5 := Lib.hid hl5
                   have HP5 := Lib.hid hp5
                   clear hs5 hs5' hm5 hl5 hp5 sd)
                | (go_at_call 19
                   have h := states8_calls vb vd (rowsb.map SB.sp) va vc (rows.map SB.sp) (by rw [HL5.out]; omega) w5 (HM5.out.rdK HP5.out HT.out.ex) (HRl.out.st HS5.out)
                   rw [HL5.out, HLt.out, HP5.out, HPt.out, decide_eq_true rfl] at h
                   refine h.mono ?_
                   rintro r w6 ⟨rfl, hs6⟩
                   have HS6 := Lib.hid (HS5.out.trans hs6)
                   have z1 := HS6.out.cellN w1c
                   have z5 := HS6.out.cellN w5c
                   clear h hs6))
            go_wp2_with fail
            go_meet
            exact ⟨rfl, HS6⟩
          case rest =>
            obtain ⟨rfl, HSc⟩ := hcut
            clear w1c w5c
            have HTB : Hid (TwB w wc k e f F G X) := Lib.hid (by
              refine ⟨HEl.out.st HSc.out (Dj.no _), HFl.out.st HSc.out (Dj.no _), HDl.out, HT.out.ex, ?_⟩
              have z0 := HT.out.st
              have z1 := HS1.out
              have z2 := HSt.out
              have z3 := HS2.out
              have z4 := HSl.out
              have z5 := HSc.out
              have y0 := z0.size
              have y1 := z1.size
              have y2 := z2.size
              have y3 := z3.size
              have y4 := z4.size
              have y5 := z5.size
              refine ⟨z5.os.trans (z4.os.trans (z3.os.trans (z2.os.trans (z1.os.trans z0.os)))), z5.tape.trans (z4.tape.trans (z3.tape.trans (z2.tape.trans (z1.tape.trans z0.tape)))), z5.output.trans (z4.output.trans (z3.output.trans (z2.output.trans (z1.output.trans z0.output)))), by omega, fun j hj _ => ?_, ?_⟩
              · have hne : ¬ fpB0 w.heap.size j := fun e => by have e' : j = w.heap.size := e; omega
                rw [z5.block j (by omega) (fun e => e), z4.block j (by omega) (fun e => e), z3.block j (by omega) hne, z2.block j (by omega) (fun e => e), z1.block j (by omega) hne, z0.block j hj (fun e => e)]
              · rintro j (hj | hj)
                · exact z0.new j hj
                · exact .inr (by have h7 := z4.news j hj; omega))
            clear HUB hul hut HU1 HS1 HMt HStn HSt HUt HU2 HS2 hwl HMv HRv HEv HFl HSl HDl HEl HUl HRl HSF e1 HSc
            go_wp2
            go_ret
            exact ⟨rfl, HTB.out.st.below⟩
    · have HTB := Lib.hid hTB
      have b0 : ((n : Int) == ai) = false := by rw [beq_eq_false_iff_ne]; omega
      have HNA : Hid (ai < ((n + 1 : Nat) : Int)) := Lib.hid (by omega)
      clear hTB hat
      by_cases hlt : n < rs.length
      · have b1 : ((n : Int) == (rs.length : Int)) = false := by rw [beq_eq_false_iff_ne]; omega
        obtain ⟨r0, hr0⟩ : ∃ r0, rs[n]? = some r0 := ⟨_, List.getElem?_eq_getElem hlt⟩
        obtain ⟨x, hxa, hcx, hok⟩ := (HA.out.st HTB.out.st) n r0 hr0
        have hpd : ∀ j, Or2 F G j → w.heap.size ≤ j := fun j hj => (HTB.out.st).news j hj
        have HBW : Hid (r0.m_payload ≠ [] → Dj (Or2 F G) (fpA r0.m_payloadA)) := Lib.hid (fun hne => by
          obtain ⟨_, _, _, hokw⟩ := HA.out n r0 hr0
          exact hokw.m_payload.1.dj hne hpd)
        subst hxa
        have HC := Lib.hid hcx
        have HOK := Lib.hid hok
        have m1 : (n : Int) < (rs.length : Int) := by omega
        clear hr0 hcx hpd
        obtain ⟨am, ham⟩ : ∃ am : Nat, IntKind.u8.wrap r0.who = (am : Int) ∧ am ≤ 255 := ⟨(r0.who % 256).toNat, by simp [IntKind.wrap, IntKind.bits, IntKind.signed]; omega, by omega⟩
        have hw8 := ham.1
        go_upto_region 19 with (first
          | (refine wpList_load_at rfl 100 (.tmp 108) rfl (x.add (n * 19)) rfl r0.cells _ HC.out Try.underlying100 rfl stpInfo ?_)
          | (refine wpList_load_at rfl 100 (.tmp 107) rfl (x.add (n * 19)) rfl r0.cells _ HC.out Try.underlying100 rfl stpInfo ?_)
          | (refine wpList_store_row rfl 100 (.tmp 11) (.tmp 108) rfl wr.heap.size _ rfl rfl _ _ (heap_alloc_new wr _) stpInfo rfl (StpR.one r0) ?_))
        have hbx := boxed wr #[.int .i64 0, .int .i64 0, .int .u8 0, .int .u64 0, .int .u64 0, .int .u64 0, .slice none 0 0, .slice none 0 0, .bool false, .int .u8 0, .int .u8 0, .int .u8 0, .int .u32 0, .int .u32 0, .int .u64 0, .int .u8 0, .slice none 0 0, .slice none 0 0, .slice none 0 0] 100 r0.cells.toArray
        generalize (wr.alloc (.cells #[.int .i64 0, .int .i64 0, .int .u8 0, .int .u64 0, .int .u64 0, .int .u64 0, .slice none 0 0, .slice none 0 0, .bool false, .int .u8 0, .int .u8 0, .int .u8 0, .int .u32 0, .int .u32 0, .int .u64 0, .int .u8 0, .slice none 0 0, .slice none 0 0, .slice none 0 0] 100)).setRow wr.heap.size r0.cells.toArray = wb at *
        have HBb := Lib.hid hbx.1
        have HSb := Lib.hid hbx.2
        clear hbx
        have c0 : wb.cell? ⟨wr.heap.size, 0, none⟩ = some (.int .i64 r0.kind) := by rw [HBb.out.cell 0]; rfl
        have c1 : wb.cell? ⟨wr.heap.size, 1, none⟩ = some (.int .i64 r0.who) := by rw [HBb.out.cell 1]; rfl

        have HAC := Lib.hid (alike_calls wb F G e f k X (HTB.out.en.st HSb.out (Dj.no _)) (HTB.out.fn.st HSb.out (Dj.no _)) HTB.out.dj HKO.out HTB.out.ex am ham.2 r0 (HOK.out.st HSb.out) HBW.out)
        go_wp2_with (refine wpList_load_row rfl 100 (.tmp 11) rfl wr.heap.size rfl 100 r0.cells.toArray (0, 0) _ HBb.out Try.underlying100 rfl stpInfo ?_)
        refine HAC.out.mono ?_
        rintro r w9 ⟨rfl, F', G', X', he9, hf9, hd9, hx9, hs9⟩
        have HT9 : Hid (TwB w w9 k e f F' G' X') := Lib.hid ⟨he9, hf9, hd9, hx9, (HTB.out.st.quiet HSb.out).trans hs9⟩
        clear he9 hf9 hd9 hx9 hs9 HAC c0 c1
        go_wp2
        exact ⟨⟨n + 1, by omega, by go_num, Lib.hid (.inr ⟨f, F', G', X', rfl, HT9.out, HNA.out⟩)⟩, by simp [intOf]; omega⟩
      · obtain rfl : n = rs.length := by omega
        have b1 : ((rs.length : Int) == (rs.length : Int)) = true := by rw [beq_iff_eq]
        go_wp2
        go_ret
        exact ⟨rfl, HTB.out.st.below⟩
end Go.Proofs.Ytjepmckofocdnaa
namespace Go.Proofs.Ytjepmckofocdnaa
open Go.RowKit
set_option linter.unusedVariables false
set_option linter.unusedSimpArgs false

set_option maxRecDepth 100000 in
set_option maxHeartbeats 4000000 in
theorem xonceTwin_walk (u : SetR) (rs : List StpR) (a : Option Addr) (c : Nat) (ai : Int) (hl : rs.length ≤ 140737488351232) (w : World) (ha : StpsIn w a rs) :
    Calls Try.prog 12 #[.agg u.cells.toArray, .slice a rs.length c, .int .i64 ai] w fun e w' => e = .returned (.bool true) ∧ Below w.heap.size w w' := by
  obtain ⟨self, hosts, room, win, loaded, pa, pc, ps⟩ := u
  show Calls Try.prog 12 #[.agg #[.int .i64 self, .int .i64 hosts, .int .i64 room, .int .i64 win, .bool loaded, .slice pa ps.length pc], .slice a rs.length c, .int .i64 ai] w fun e w' => e = .returned (.bool true) ∧ Below w.heap.size w w'
  have HF := Lib.hid (fits8_calls hosts room win)
  have HSX := Lib.hid (St.alloc' No w (.cells #[.int .i64 self, .int .i64 hosts, .int .i64 room, .int .i64 win, .bool loaded, .slice pa ps.length pc] 26)).below
  cases loaded with
  | true =>
    go_enter Try.func12, Try.ntmps12
    go_wp2
    go_ret
    exact ⟨rfl, HSX.out⟩
  | false =>
    cases hf : fits8B hosts room win with
    | false =>
      rw [hf] at HF
      clear hf
      go_enter Try.func12, Try.ntmps12
      go_wp2_with (first
        | (go_at_call 34; refine (HF.out _).mono ?_; rintro r w1 ⟨rfl, rfl⟩))
      go_ret
      exact ⟨rfl, HSX.out⟩
    | true =>
      have hd : 1 ≤ hosts ∧ hosts ≤ 16 ∧ 1 ≤ room ∧ room ≤ 16 ∧ 1 ≤ win ∧ win ≤ room := of_decide_eq_true (show decide _ = true from hf)
      rw [hf] at HF
      clear hf
      by_cases s0 : 0 ≤ self
      case neg =>
        have s0i : self < 0 := by omega
        clear hd s0
        go_enter Try.func12, Try.ntmps12
        go_wp2_with (first
          | (go_at_call 34; refine (HF.out _).mono ?_; rintro r w1 ⟨rfl, rfl⟩))
        go_ret
        exact ⟨rfl, HSX.out⟩
      by_cases s1 : self < hosts
      case neg =>
        have s0i : decide (self < 0) = false := decide_eq_false (by omega)
        have s1i : hosts ≤ self := by omega
        clear hd s0 s1
        go_enter Try.func12, Try.ntmps12
        go_wp2_with (first
          | (go_at_call 34; refine (HF.out _).mono ?_; rintro r w1 ⟨rfl, rfl⟩))
        go_ret
        exact ⟨rfl, HSX.out⟩
      obtain ⟨sn, rfl⟩ : ∃ n : Nat, self = (n : Int) := ⟨self.toNat, by omega⟩
      obtain ⟨hn, rfl⟩ : ∃ n : Nat, hosts = (n : Int) := ⟨hosts.toNat, by omega⟩
      obtain ⟨rn, rfl⟩ : ∃ n : Nat, room = (n : Int) := ⟨room.toNat, by omega⟩
      obtain ⟨wn, rfl⟩ : ∃ n : Nat, win = (n : Int) := ⟨win.toNat, by omega⟩
      exact twin_walk ⟨sn, hn, rn, wn⟩ (.slice pa ps.length pc) rs a c ai ⟨by show sn < hn; omega, by show hn ≤ 16; omega, by show 1 ≤ wn; omega, by show wn ≤ rn; omega, by show rn ≤ 16; omega⟩ hl w ha
end Go.Proofs.Ytjepmckofocdnaa
