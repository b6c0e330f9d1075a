
/-
  heard: an acknowledgement.
-/
import Derived.Test.YtjepmckofocdnaaXoAgain
namespace Go.Proofs.Ytjepmckofocdnaa
open Go.RowKit
set_option linter.unusedVariables false
set_option linter.unusedSimpArgs false

theorem Own.xempty (w : World) (T : TypeId) (s : Nat) : Own (w.alloc (.cells #[] T)) T s (.slice (some ⟨w.heap.size, 0, none⟩) 0 0) 0 [] :=
  ⟨by simp, .inr ⟨w.heap.size, 0, #[], rfl, Nat.zero_le _, Ob.alloc w #[] T, by simp, by unfold maxLen; omega, by simp, by simp⟩⟩
set_option maxRecDepth 100000 in
/-- slices.Clone of a queue: the same payloads in a row of its own -/
theorem qclone_calls (a : Option Addr) (c : Nat) (vs : List Value) (hn : vs.length ≤ 4294967296) (h1 : ∀ u ∈ vs, u.oneCell' = true) (hac : a = none → c = 0) (w : World) (hb : Rd w a vs) :
    Calls Try.prog 94 #[.slice a vs.length c] w fun e w' => ∃ V, e = .returned V ∧ Own w' 48 1 V vs.length vs ∧ St No w (fpV V) w' := by
  cases a with
  | none =>
    obtain rfl : vs = [] := by
      cases vs with
      | nil => rfl
      | cons u us => obtain ⟨x, e, _⟩ := hb 0 u rfl; cases e
    obtain rfl := hac rfl
    clear hac h1
    have he := fun W => Lib.run_eql_slice_nil (P := Try.prog) W 44 48 none 0 0 0 0 Try.underlying44
    go_enter Try.func94, Try.ntmps94
    go_wp2
    go_ret
    exact ⟨_, rfl, Own.nil _ _ _, St.refl _ _ |>.drop (fun k hk => by simp [fpV, Value.ownBlock] at hk)⟩
  | some x =>
    have HB := Lib.hid hb
    have H1 := Lib.hid h1
    clear hb hac h1
    obtain ⟨i, z, hi, hz, hzs, hsz, hby⟩ := info_z infQ
    have HI := Lib.hid hi
    have HZ := Lib.hid hz
    have HZS := Lib.hid hzs
    have HSZ := Lib.hid hsz
    have HBY := Lib.hid hby
    clear hi hz hzs hsz hby
    have he := fun W => Lib.run_eql_slice_nil (P := Try.prog) W 44 48 (some x) vs.length c 0 0 Try.underlying44
    go_enter Try.func94, Try.ntmps94
    go_wp2_with (at_builtin; refine wpList_app rfl (.tmp 5) (.tmp 6) 44 rfl 48 i z 1 i.bytes Try.underlying44 HI.out HZ.out HSZ.out rfl HZS.out (by decide) _ 0 [] rfl (Own.xempty w _ 1) (some x) vs.length c vs rfl ⟨by omega, HB.out.st (St.alloc' No w _) (Dj.no _), H1.out⟩ (fun h => by cases h) (by unfold maxLen; omega) (Nat.le_trans (Nat.mul_le_mul (show 0 + vs.length ≤ 4294967297 by omega) HBY.out) (by omega)) ?_; intro v2 w2 ho2 hs2 hn2; have HO2 := Lib.hid ho2; have HS2 := Lib.hid hs2; clear ho2 hs2 hn2)
    go_ret
    refine ⟨v2, rfl, ?_, St.xgrow HS2.out⟩
    have h := HO2.out
    rw [Nat.zero_add, List.nil_append] at h
    exact h
/-- a message's cells -/
structure MV where
  kind : Int
  seq : Nat
  mask : BitVec 64
  k2 : Int
  k3 : Int
  s4 : Option Addr × Nat × Nat
  s5 : Option Addr × Nat × Nat
  b6 : Bool
  k7 : Int
  k8 : Int
  k9 : Int
  k10 : Int
  k11 : Int
  k13 : Int
  s14 : Option Addr × Nat × Nat
  s15 : Option Addr × Nat × Nat
  pa : Option Addr
  pn : Nat
  pc : Nat
def MV.cells (m : MV) : Array Value := #[.int .u8 m.kind, .int .u64 m.seq, .int .u64 m.k2, .int .u64 m.k3, .slice m.s4.1 m.s4.2.1 m.s4.2.2, .slice m.s5.1 m.s5.2.1 m.s5.2.2, .bool m.b6, .int .u8 m.k7, .int .u8 m.k8, .int .u8 m.k9, .int .u32 m.k10, .int .u32 m.k11, .int .u64 (m.mask.toNat : Int), .int .u8 m.k13, .slice m.s14.1 m.s14.2.1 m.s14.2.2, .slice m.s15.1 m.s15.2.1 m.s15.2.2, .slice m.pa m.pn m.pc]
/-- what comes up -/
structure UB where
  adr : Int
  seq : Nat
  v : Value
  b : List B8
structure XU where
  adr : Int
  seq : Nat
  b : List B8
def UB.cells (u : UB) : List Value := [.int .u8 u.adr, .int .u64 u.seq, u.v]
def UB.pl (u : UB) : XU := ⟨u.adr, u.seq, u.b⟩
abbrev LsU := LsG UB.cells UB.v UB.b 3 136
structure XT where
  ups : List XU
  mails : List XM
  ch : Bool
/-- what a Take answers; the peer behind it -/
def TakenJ (w : World) (F : Nat → Prop) (p : Nat) (c : PC) (x' : XP) (t : XT) (er : Int) (e : Ending) (w' : World) : Prop :=
  ∃ Vu us Vm os F', e = .returned (.tuple #[.agg #[Vu, Vm, .bool t.ch], .int .i64 er]) ∧ LsU w' Vu us ∧ us.map UB.pl = t.ups ∧ LsO w' Vm os ∧ os.map OB.pl = t.mails ∧ Pr w' F' p c x' ∧ St F w (fun k => F' k ∨ fpL UB.v Vu us k ∨ fpL OB.v Vm os k) w' ∧ Dj F' (fpL UB.v Vu us) ∧ Dj F' (fpL OB.v Vm os) ∧ Dj (fpL UB.v Vu us) (fpL OB.v Vm os)
def XT.none : XT := ⟨[], [], false⟩
def heardE (x : XP) (seq : Nat) (mask : BitVec 64) : Int := if x.sent < seq ∨ beyondB x.sent seq mask = true then 85 else 0
def heardX (x : XP) (seq : Nat) (mask : BitVec 64) : XP :=
  if heardE x seq mask = 0 then if seq < x.acked then x else if seq = x.acked then { x with mask := x.mask ||| mask } else { x with acked := seq, mask := mask, queue := x.queue.drop (seq - x.acked) } else x
/-- the Datas of the places from lo below hi -/
def dataL (adr : Int) (acked : Nat) (q : List (List B8)) (lo : Nat) : Nat → List XM
  | 0 => []
  | k + 1 => dataL adr acked q lo k ++ [xdata adr (acked + 1 + (lo + k)) (q.getD (lo + k) [])]
def heardT (c : PC) (x : XP) (seq : Nat) (mask : BitVec 64) : XT :=
  if heardE x seq mask = 0 then if seq < x.acked then XT.none else if seq = x.acked then ⟨[], [], decide ((x.mask ||| mask) ≠ x.mask)⟩ else
    ⟨[], dataL c.adr seq (x.queue.drop (seq - x.acked)) (min x.queue.length c.win - (seq - x.acked)) (min (x.queue.length - (seq - x.acked)) c.win - (min x.queue.length c.win - (seq - x.acked))), true⟩ else XT.none
theorem TakenJ.nil {w w' : World} {F : Nat → Prop} {p : Nat} {c : PC} {x : XP} {ch : Bool} {er : Int} (h : Pr w F p c x) (s : St No w No w') : TakenJ w F p c x ⟨[], [], ch⟩ er (.returned (.tuple #[.agg #[.slice none 0 0, .slice none 0 0, .bool ch], .int .i64 er])) w' :=
  ⟨_, [], _, [], F, rfl, LsG.nil _, rfl, LsG.nil _, rfl, h.st s (Dj.no _), s.wide (fun _ h => h.elim) (fun k hk => hk.elim .inl (fun h => h.elim (fun h => (fpL_nil h).elim) (fun h => (fpL_nil h).elim))), fun k _ b => fpL_nil b, fun k _ b => fpL_nil b, fun k _ b => fpL_nil b⟩
/-- the start of a call that takes a message: the box and the result's cells -/
structure Start (w wA : World) (m : MV) : Prop where
  st : St No w No wA
  box : Ob wA w.heap.size 60 m.cells
  res : Ob wA (w.heap.size + 1) 77 #[.slice none 0 0, .slice none 0 0, .bool false]
theorem Start.of (w : World) (m : MV) : Start w ((w.alloc (.cells m.cells 60)).alloc (.cells #[.slice none 0 0, .slice none 0 0, .bool false] 77)) m := by
  have h1 := Ob.alloc w m.cells 60
  have h2 := Ob.alloc (w.alloc (.cells m.cells 60)) #[.slice none 0 0, .slice none 0 0, .bool false] 77
  rw [World.size_alloc] at h2
  exact ⟨(St.alloc' No w _).trans (St.alloc' No _ _), h1.move ((St.alloc' No (w.alloc (.cells m.cells 60)) _).block _ h1.lt (fun e => e)), h2⟩
theorem Start.cells {w wA : World} {m : MV} (h : Start w wA m) : wA.cell? ⟨w.heap.size, 0, none⟩ = some (.int .u8 m.kind) ∧ wA.cell? ⟨w.heap.size, 1, none⟩ = some (.int .u64 m.seq) ∧ wA.cell? ⟨w.heap.size, 12, none⟩ = some (.int .u64 (m.mask.toNat : Int)) ∧ wA.cell? ⟨w.heap.size, 16, none⟩ = some (.slice m.pa m.pn m.pc) :=
  ⟨by rw [h.box.cell 0]; rfl, by rw [h.box.cell 1]; rfl, by rw [h.box.cell 12]; rfl, by rw [h.box.cell 16]; rfl⟩
theorem results_cell_row_tmp2 {P : Program} {fn : Func} {p u : Tmp} {ty : TypeId} (h : fn.results = #[.cell p ty, .tmp u]) (tmps : Array Value) (w : World) (g : Nat) (t : TypeId) (cs : Array Value) (fr : Nat × Nat) (d : TypeDesc)
    (hp : tmps.getD p undef = .pointer (some ⟨g, 0, none⟩)) (hg : w.heap[g]? = some (.cells cs t fr))
    (hu : P.underlying ty = some d) (hd : (match d with | .struct _ | .array _ _ => true | _ => false) = true) (hi : (P.info? ty).map (·.size) = some cs.size) :
    (results fn tmps).run P w = .ok (.tuple #[.agg cs, tmps.getD u undef]) w := by
  rw [results_cell_tmp h, hp]
  simp [asAddr, run_loadVar_row w g t ty cs fr d hg hu hd hi, Result.andThen]
/-- the result's cells stored -/
theorem taken_row {w : World} {g : Nat} {a b d : Value} (h : Ob w g 77 #[a, b, d]) (a' b' d' : Value) : Ob (((w.setCell ⟨g, 0, none⟩ a').setCell ⟨g, 1, none⟩ b').setCell ⟨g, 2, none⟩ d') g 77 #[a', b', d'] :=
  ((h.set 0 a').set 1 b').set 2 d'
/-- a step into a block that is new -/
theorem St.own {w w1 w2 : World} {g : Nat} (h : St No w No w1) (s : St (fpB0 g) w1 (fpB0 g) w2) (hg : w.heap.size ≤ g) : St No w No w2 :=
  ⟨s.os.trans h.os, s.tape.trans h.tape, s.output.trans h.output, Nat.le_trans h.size s.size, fun k hk hn => (s.block k (Nat.lt_of_lt_of_le hk h.size) (fun e => by have e' : k = g := e; omega)).trans (h.block k hk hn), fun k hk => hk.elim⟩
theorem tkInfo : (Try.prog.info? 77).map (·.size) = some 3 := by kernel_rfl
/-- the block behind the dropped queue: its numbers, and a new result -/
structure Dropped (wA wD : World) (g r p : Nat) (c : PC) (x : XP) (seq : Nat) (mask : BitVec 64) (Vq V Ve : Value) (qs : List PB) (gn : Nat) (es : List FB) : Prop where
  pr : PrM wD p c x.sent seq mask x.delivered V Ve (qs.drop gn) es
  st : St (fpP p Vq Ve qs es) wA (fpP p V Ve (qs.drop gn) es) wD
  res : Ob wD r 77 #[.slice none 0 0, .slice none 0 0, .bool false]
  new : Ob wD g 77 #[.slice none 0 0, .slice none 0 0, .bool true]
  lg : g < wD.heap.size
  ng : ¬ fpP p V Ve (qs.drop gn) es g
  hg : wA.heap.size ≤ g
theorem sub_fpL {V V' : Value} {qs : List PB} {gn : Nat} {k : Nat} (h : fpL PB.v V' (qs.drop gn) k) : fpV V' k ∨ fpL PB.v V qs k := by
  rcases fpL_iff.1 h with h | ⟨b, hb, h⟩
  · exact .inl h
  · exact .inr (fpL_iff.2 (.inr ⟨b, List.mem_of_mem_drop hb, h⟩))
theorem dropped {wA w5 wC : World} {r p : Nat} {c : PC} {x : XP} {Vq V Ve : Value} {qs : List PB} {gn : Nat} {es : List FB}
    (hob : Ob wC p 124 (#[.int .u8 c.adr, .int .i64 c.room, .int .i64 c.win, .int .u64 x.sent, .int .u64 x.acked, Vq, .int .u64 (x.mask.toNat : Int), .int .u8 c.adr, .int .u64 c.win, .int .u64 x.delivered, Ve].setIfInBounds 5 V)) (hr : Ob wC r 77 #[.slice none 0 0, .slice none 0 0, .bool false])
    (h5 : PrM w5 p c x.sent x.acked x.mask x.delivered Vq Ve qs es) (ho : Own w5 48 1 V (qs.length - gn) ((qs.drop gn).map (·.v))) (hs : St No wA (fpV V) w5) (sx : St (fpB0 p) w5 (fpB0 p) wC) (hA : PrM wA p c x.sent x.acked x.mask x.delivered Vq Ve qs es) (hrp : r ≠ p) (seq : Nat) (mask : BitVec 64) :
    Dropped wA ((((wC.setCell ⟨p, 4, none⟩ (.int .u64 seq)).setCell ⟨p, 6, none⟩ (.int .u64 (mask.toNat : Int))).alloc (.cells #[.slice none 0 0, .slice none 0 0, .bool true] 77)).drew) wC.heap.size r p c x seq mask Vq V Ve qs gn es := by
  have s4 : St (fpB0 p) wC (fpB0 p) ((wC.setCell ⟨p, 4, none⟩ (.int .u64 seq)).setCell ⟨p, 6, none⟩ (.int .u64 (mask.toNat : Int))) := (St.setCell (F := fpB0 p) _ ⟨p, 4, none⟩ _ rfl).trans (St.setCell (F := fpB0 p) _ ⟨p, 6, none⟩ _ rfl)
  have ob4 := (hob.set 4 (.int .u64 seq)).set 6 (.int .u64 (mask.toNat : Int))
  have hsz : ((wC.setCell ⟨p, 4, none⟩ (.int .u64 seq)).setCell ⟨p, 6, none⟩ (.int .u64 (mask.toNat : Int))).heap.size = wC.heap.size := by simp
  have r4 := hr.move (s4.block _ hr.lt (fun e => hrp e))
  generalize (wC.setCell ⟨p, 4, none⟩ (.int .u64 seq)).setCell ⟨p, 6, none⟩ (.int .u64 (mask.toNat : Int)) = w4 at *
  have sa : St No w4 No (w4.alloc (.cells #[.slice none 0 0, .slice none 0 0, .bool true] 77)).drew := (St.alloc' No w4 _).trans (St.drew No _)
  have hnew : Ob (w4.alloc (.cells #[.slice none 0 0, .slice none 0 0, .bool true] 77)).drew wC.heap.size 77 #[.slice none 0 0, .slice none 0 0, .bool true] := by rw [← hsz]; exact Ob.drew (Ob.alloc w4 _ _)
  have sp : St (fpB0 p) w5 (fpB0 p) (w4.alloc (.cells #[.slice none 0 0, .slice none 0 0, .bool true] 77)).drew := (sx.trans s4).trans (sa.wide (fun _ e => e.elim) (fun _ e => .inl e))
  have obD := ob4.move (sa.block _ ob4.lt (fun e => e))
  have rD := r4.move (sa.block _ r4.lt (fun e => e))
  have hszD : wC.heap.size < (w4.alloc (.cells #[.slice none 0 0, .slice none 0 0, .bool true] 77)).drew.heap.size := hnew.lt
  generalize (w4.alloc (.cells #[.slice none 0 0, .slice none 0 0, .bool true] 77)).drew = wD at *
  have hpA : p < wA.heap.size := hA.ob.lt
  have hnV : ¬ fpV V p := fun e => by have := hs.news p e; omega
  have hdq : ¬ fpL PB.v V (qs.drop gn) p := fun e => (sub_fpL (V := Vq) e).elim hnV hA.dq
  have hl5 : wA.heap.size ≤ w5.heap.size := hs.size
  have hl6 : w5.heap.size ≤ wC.heap.size := sx.size
  have lq5 : LsQ w5 V (qs.drop gn) := by
    have hsep := h5.lq.sep
    refine ⟨by rw [qmap, List.length_drop]; exact ho, fun b hb => h5.lq.el b (List.mem_of_mem_drop hb), ?_⟩
    refine List.pairwise_cons.2 ⟨?_, ?_⟩
    · intro R hR
      obtain ⟨b, hb, rfl⟩ := List.mem_map.1 hR
      exact fun k a e => absurd ((hA.lq.el b (List.mem_of_mem_drop hb)).in k e) (Nat.not_lt.2 (hs.news k a))
    · have h2 := (List.pairwise_cons.1 hsep).2
      exact h2.sublist ((List.drop_sublist gn qs).map _)
  have hpr : PrM wD p c x.sent seq mask x.delivered V Ve (qs.drop gn) es := ⟨obD, lq5.st sp (fun k a b => by cases (show k = p from a); exact hdq b), h5.lf.st sp (fun k a b => by cases (show k = p from a); exact h5.df b), hdq, h5.df, fun k a b => (sub_fpL (V := Vq) a).elim (fun a => absurd (hA.lf.in k b) (Nat.not_lt.2 (hs.news k a))) (fun a => h5.dd k a b)⟩
  have hin5 : In (fpP p V Ve (qs.drop gn) es) w5 := by
    rintro k (rfl | hk | hk)
    · exact h5.ob.lt
    · exact lq5.in k hk
    · exact h5.lf.in k hk
  refine ⟨hpr, ?_, rD, hnew, hszD, fun e => by have := hin5 _ e; omega, by omega⟩
  refine ⟨sp.os.trans hs.os, sp.tape.trans hs.tape, sp.output.trans hs.output, Nat.le_trans hs.size sp.size, fun k hk hn => (sp.block k (Nat.lt_of_lt_of_le hk hs.size) (fun e => hn (.inl e))).trans (hs.block k hk (fun e => e)), ?_⟩
  rintro k (hk | hk | hk)
  · exact .inl (.inl hk)
  · rcases sub_fpL (V := Vq) hk with hk | hk
    · exact .inr (hs.news k hk)
    · exact .inl (.inr (.inl hk))
  · exact .inl (.inr (.inr hk))
/-- append of one mail as a step of a region that draws, the mail's block as the walk spells it -/
theorem step_appO2 {ops : Array Oper} {o : Oper} {ac : Act} {w : World} {K : Act → World → Prop} {Q : Exit → Act → World → Prop} {E : Prop} (x : OB) (hgd : o.guard = none) (a b : Operand)
    (ho : o.op = .call { callee := .builtin .append, args := #[a, b], argTypes := #[49, 49] })
    (V : Value) (os : List OB) (hs : ac.eval a = V) (hown : LsO w V os) (hx : ac.eval b = .slice (some ⟨w.heap.size, 0, none⟩) 1 1) (hv : OwB w x.v x.b) (hd : Dj (fpV x.v) (fpL OB.v V os))
    (hlen : os.length ≤ 4294967296)
    (h : ∀ V' w', LsO w' V' (os ++ [x]) → St (fpV V) (w.alloc (.cells (outC x.adr x.kind x.seq x.mask x.v) 62)) (fpV V') w' → K (ac.put o.dst V') w') :
    if Region.wanted o (yielded ops ac.tmps) = true then Oper.wp Try.prog o ac (w.alloc (.cells (Array.foldl (fun (cs : Array Value) x => cs.setIfInBounds x.snd x.fst) #[.int .u8 0, .int .u8 0, .int .u64 0, .int .u64 0, .int .u64 0, .slice none 0 0, .slice none 0 0, .bool false, .int .u8 0, .int .u8 0, .int .u8 0, .int .u32 0, .int .u32 0, .int .u64 0, .int .u8 0, .slice none 0 0, .slice none 0 0, .slice none 0 0] (outC x.adr x.kind x.seq x.mask x.v).zipIdx 0 18) 62)) K Q else E := by
  rw [outFold]
  exact step_appL 49 infO Try.underlying49 (by decide) hgd a b ho V os hs (hown.st (St.alloc' No w _) (Dj.no _)) x _ hx (outOb w x) (OB.cells_len x) (outOne x hv.one) (hv.st (St.alloc' No w _) (Dj.no _)) hd hlen h
/-- a mail behind the result's mails -/
theorem mail_stored {wr w1 w3 : World} {g : Nat} {V V3 a d : Value} {os : List OB} {x : OB} {o : Obj} (ho : LsO wr V os) (ht : Ob wr g 77 #[a, V, d]) (hn : ¬ fpL OB.v V os g) (hs1 : St No wr (fpV x.v) w1) (hg : LsO w3 V3 (os ++ [x])) (hs3 : St (fpV V) (w1.alloc o) (fpV V3) w3) :
    LsO (w3.setCell ⟨g, 1, none⟩ V3) V3 (os ++ [x]) ∧ Ob (w3.setCell ⟨g, 1, none⟩ V3) g 77 #[a, V3, d] ∧ (¬ fpL OB.v V3 (os ++ [x]) g) ∧ St (fun j => j = g ∨ fpL OB.v V os j) wr (fun j => j = g ∨ fpL OB.v V3 (os ++ [x]) j) (w3.setCell ⟨g, 1, none⟩ V3) := by
  have hgl : g < wr.heap.size := ht.lt
  have h1 := hs1.size
  have h3 := hs3.size
  rw [World.size_alloc] at h3
  have hq : ∀ k, fpL OB.v V3 (os ++ [x]) k → fpL OB.v V os k ∨ wr.heap.size ≤ k := fun k hk => by
    rcases fpL_iff.1 hk with hk | ⟨b, hb, hk⟩
    · rcases hs3.new k hk with hk | hk
      · exact .inl (fpL_iff.2 (.inl hk))
      · rw [World.size_alloc] at hk
        exact .inr (by omega)
    · rcases List.mem_append.1 hb with hb | hb
      · exact .inl (fpL_iff.2 (.inr ⟨b, hb, hk⟩))
      · rw [List.mem_singleton.1 hb] at hk
        exact .inr (hs1.news k hk)
  have hng : ¬ fpL OB.v V3 (os ++ [x]) g := fun e => (hq g e).elim hn (fun e => by omega)
  have hb : ∀ k, k < wr.heap.size → ¬ fpV V k → w3.heap[k]? = wr.heap[k]? := fun k hk hv => by
    have hk1 := Nat.lt_of_lt_of_le hk h1
    rw [hs3.block k (by rw [World.size_alloc]; omega) hv, Below.heap_alloc w1 o k hk1, hs1.block k hk (fun e => e)]
  have hgV : ¬ fpV V g := fun e => hn (fpL_iff.2 (.inl e))
  have s8 : St (fpB0 g) w3 (fpB0 g) (w3.setCell ⟨g, 1, none⟩ V3) := St.setCell (F := fpB0 g) _ _ _ rfl
  refine ⟨hg.st s8 (fun k a b => by cases (show k = g from a); exact hng b), (ht.move (hb g hgl hgV)).set 1 V3, hng, ?_⟩
  have s3 := hs3
  have sA := St.alloc' No w1 o
  refine ⟨s8.os.trans (hs3.os.trans (sA.os.trans hs1.os)), s8.tape.trans (hs3.tape.trans (sA.tape.trans hs1.tape)), s8.output.trans (hs3.output.trans (sA.output.trans hs1.output)), by have := s8.size; omega, fun k hk hv => ?_, ?_⟩
  · rw [s8.block k (by omega) (fun e => hv (.inl e)), hb k hk (fun e => hv (.inr (fpL_iff.2 (.inl e))))]
  · rintro k (hk | hk)
    · exact .inl (.inl hk)
    · exact (hq k hk).elim (fun e => .inl (.inr e)) .inr
theorem dataL_len (adr : Int) (acked : Nat) (q : List (List B8)) (lo : Nat) : ∀ k, (dataL adr acked q lo k).length = k
  | 0 => rfl
  | k + 1 => by unfold dataL; rw [List.length_append, dataL_len adr acked q lo k]; rfl
theorem heard_end {w wA wD wr w' : World} {g p : Nat} {c : PC} {x : XP} {m : MV} {Vq V Ve Vo : Value} {qs : List PB} {es : List FB} {os : List OB} {gn lo nl t : Nat} (hst : Start w wA m) (hm : PrM w p c x.sent x.acked x.mask x.delivered Vq Ve qs es) (hd : Dropped wA wD g (w.heap.size + 1) p c x m.seq m.mask Vq V Ve qs gn es)
    (hq : x.queue = qs.map (·.b)) (he : x.early = es.map (fun f => (f.seq, f.b))) (hgn : m.seq = x.acked + gn) (hg1 : 1 ≤ gn) (hE : heardE x m.seq m.mask = 0) (hlo : lo = min qs.length c.win - gn) (hnl : qs.length - gn = nl) (ht : t = min nl c.win)
    (hs : St (fpB0 g) wD (fun j => j = g ∨ fpL OB.v Vo os j) wr) (ho : LsO wr Vo os) (hmap : os.map OB.pl = dataL c.adr m.seq ((qs.drop gn).map (·.b)) lo (t - lo)) (hng : ¬ fpL OB.v Vo os g) (s2 : St (fpB0 (w.heap.size + 1)) wr (fpB0 (w.heap.size + 1)) w') :
    TakenJ w (fpP p Vq Ve qs es) p c (heardX x m.seq m.mask) (heardT c x m.seq m.mask) (heardE x m.seq m.mask) (.returned (.tuple #[.agg #[.slice none 0 0, Vo, .bool true], .int .i64 0])) w' := by
  have hql : x.queue.length = qs.length := by rw [hq, List.length_map]
  have h3 : ¬ m.seq < x.acked := by omega
  have h4 : ¬ m.seq = x.acked := by omega
  have hsub : m.seq - x.acked = gn := by omega
  have eX : heardX x m.seq m.mask = { x with acked := m.seq, mask := m.mask, queue := x.queue.drop gn } := by
    unfold heardX
    rw [if_pos hE, if_neg h3, if_neg h4, hsub]
  have eT : heardT c x m.seq m.mask = ⟨[], dataL c.adr m.seq ((qs.drop gn).map (·.b)) lo (t - lo), true⟩ := by
    unfold heardT
    rw [if_pos hE, if_neg h3, if_neg h4, hsub, hql, ← hlo, hnl, ← ht, hq, List.map_drop]
  rw [eX, eT, hE]
  have z1 : w.heap.size + 1 < wA.heap.size := hst.res.lt
  have z2 := hd.st.size
  have z3 := hs.size
  have hmn : ∀ j, fpL OB.v Vo os j → wD.heap.size ≤ j := fun j hj => by
    rcases hs.new j (.inr hj) with e | e
    · have e' : j = g := e
      subst e'
      exact absurd hj hng
    · exact e
  have hFin : In (fpP p V Ve (qs.drop gn) es) wD := hd.pr.in
  have hrF : ¬ fpP p V Ve (qs.drop gn) es (w.heap.size + 1) := fun e => by
    rcases hd.st.new _ e with e | e
    · have := hm.in _ e; omega
    · omega
  have prr := (hd.pr.st hs (fun k a b => by cases (show k = g from a); exact hd.ng b)).st s2 (fun k a b => by cases (show k = w.heap.size + 1 from a); exact hrF b)
  refine ⟨_, [], Vo, os, fpP p V Ve (qs.drop gn) es, rfl, LsG.nil _, rfl, ho.st s2 (fun k a b => by have e : k = w.heap.size + 1 := a; have := hmn k b; omega), hmap, ⟨V, Ve, qs.drop gn, es, prr, by simp [hq, List.map_drop], he, rfl⟩, ?_, fun k _ b => fpL_nil b, fun k a b => by have := hFin k a; have := hmn k b; omega, fun k a _ => fpL_nil a⟩
  have s0 := hst.st
  have s1 := hd.st
  refine ⟨s2.os.trans (hs.os.trans (s1.os.trans s0.os)), s2.tape.trans (hs.tape.trans (s1.tape.trans s0.tape)), s2.output.trans (hs.output.trans (s1.output.trans s0.output)), by have := s2.size; omega, fun k hk hn => ?_, ?_⟩
  · have hgA := hd.hg
    rw [s2.block k (by omega) (fun e => by have e' : k = w.heap.size + 1 := e; omega), hs.block k (by omega) (fun e => by have e' : k = g := e; omega), s1.block k (by omega) hn, s0.block k hk (fun e => e)]
  · rintro k (hk | hk | hk)
    · rcases s1.new k hk with e | e
      · exact .inl e
      · exact .inr (by omega)
    · exact (fpL_nil hk).elim
    · exact .inr (by have := hmn k hk; omega)
set_option maxRecDepth 100000 in
set_option maxHeartbeats 4000000 in
theorem heard_calls (w : World) (F : Nat → Prop) (p : Nat) (c : PC) (x : XP) (h : Pr w F p c x) (hok : x.Ok c) (m : MV) (hms : m.seq ≤ 18446744073709551615) :
    Calls Try.prog 67 #[.pointer (some ⟨p, 0, none⟩), .agg m.cells] w (TakenJ w F p c (heardX x m.seq m.mask) (heardT c x m.seq m.mask) (heardE x m.seq m.mask)) := by
  obtain ⟨Vq, Ve, qs, es, hm, hq, he, rfl⟩ := h
  have hp : Pr w (fpP p Vq Ve qs es) p c x := ⟨Vq, Ve, qs, es, hm, hq, he, rfl⟩
  have hqlen : x.queue.length = qs.length := by rw [hq, List.length_map]
  have HP := Lib.hid hp
  have HM := Lib.hid hm
  have hpl := hm.ob.lt
  have hse := hok.se
  have hsz : m.cells.size = 17 := rfl
  clear hp hm
  by_cases h1 : x.sent < m.seq
  · have hE : heardE x m.seq m.mask = 85 := by unfold heardE; rw [if_pos (.inl h1)]
    have HR : Hid (∀ w', St No w No w' → TakenJ w (fpP p Vq Ve qs es) p c (heardX x m.seq m.mask) (heardT c x m.seq m.mask) (heardE x m.seq m.mask) (.returned (.tuple #[.agg #[.slice none 0 0, .slice none 0 0, .bool false], .int .i64 85])) w') := Lib.hid (fun w' s => by
      unfold heardX heardT
      rw [hE, if_neg (by decide), if_neg (by decide)]
      exact TakenJ.nil HP.out s)
    have HSt := Lib.hid (Start.of w m)
    have h1i : decide ((x.sent : Int) < (m.seq : Int)) = true := decide_eq_true (by omega)
    have h1j : (x.sent : Int) < (m.seq : Int) := by omega
    clear hE hq he hqlen
    go_enter Try.func67, Try.ntmps67
    go_wp2_with fail
    generalize (w.alloc (.cells m.cells 60)).alloc (.cells #[.slice none 0 0, .slice none 0 0, .bool false] 77) = wA at *
    obtain ⟨b0, b1, b12, b16⟩ := HSt.out.cells
    obtain ⟨d0, d1, d2, d3, d4, d5, d6, d7, d8, d9, d10, f0, f1, f2, f3, f4, f5, f6, f7, f8, f9, f10⟩ := (HM.out.st HSt.out.st (Dj.no _)).ob.n11
    have HRS := Lib.hid HSt.out.res
    obtain ⟨r0, r1, r2, rf0, rf1, rf2⟩ := HRS.out.n3
    go_quiet (fail)
    go_wp2_with fail
    have HS2 : Hid (St No wA No (wA.drewN nq)) := Lib.hid (St.drewN No wA nq)
    have HR2 := Lib.hid (HRS.out.move (HS2.out.block _ HRS.out.lt (fun e => e)))
    generalize wA.drewN nq = wB at *
    refine bodyPost_ret (results_cell_row_tmp2 rfl _ _ (w.heap.size + 1) _ _ _ _ rfl (taken_row HR2.out _ _ _) Try.underlying77 rfl tkInfo) rfl ?_
    exact HR.out _ ((HSt.out.st.trans HS2.out).own (St.xsets (F := fpB0 (w.heap.size + 1)) (w.heap.size + 1) rfl [_, _, _] 0 wB) (Nat.le_succ _))
  have h1 : m.seq ≤ x.sent := by omega
  have h1i : ¬ (x.sent : Int) < (m.seq : Int) := by omega
  by_cases h2 : beyondB x.sent m.seq m.mask = true
  · have hE : heardE x m.seq m.mask = 85 := by unfold heardE; rw [if_pos (.inr h2)]
    have HR : Hid (∀ w', St No w No w' → TakenJ w (fpP p Vq Ve qs es) p c (heardX x m.seq m.mask) (heardT c x m.seq m.mask) (heardE x m.seq m.mask) (.returned (.tuple #[.agg #[.slice none 0 0, .slice none 0 0, .bool false], .int .i64 85])) w') := Lib.hid (fun w' s => by
      unfold heardX heardT
      rw [hE, if_neg (by decide), if_neg (by decide)]
      exact TakenJ.nil HP.out s)
    have HSt := Lib.hid (Start.of w m)
    have HBY := Lib.hid h2
    clear hE hq he hqlen h2
    go_enter Try.func67, Try.ntmps67
    go_wp2_with fail
    generalize (w.alloc (.cells m.cells 60)).alloc (.cells #[.slice none 0 0, .slice none 0 0, .bool false] 77) = wA at *
    obtain ⟨b0, b1, b12, b16⟩ := HSt.out.cells
    obtain ⟨d0, d1, d2, d3, d4, d5, d6, d7, d8, d9, d10, f0, f1, f2, f3, f4, f5, f6, f7, f8, f9, f10⟩ := (HM.out.st HSt.out.st (Dj.no _)).ob.n11
    have HRS := Lib.hid HSt.out.res
    obtain ⟨r0, r1, r2, rf0, rf1, rf2⟩ := HRS.out.n3
    have hby : ∀ n, Calls Try.prog 86 #[.pointer (some ⟨p, 0, none⟩), .int .u64 m.seq, .int .u64 (m.mask.toNat : Int)] (wA.drewN n) fun e w'' => e = .returned (.bool (beyondB x.sent m.seq m.mask)) ∧ ∃ k, w'' = wA.drewN k := fun n =>
      (beyond_calls (wA.drewN n) p c x.sent 0 0 0 (.slice none 0 0) (.slice none 0 0) d3 m.seq h1 hse m.mask).mono (fun e w'' h => ⟨h.1, by obtain ⟨k, hk⟩ := h.2; exact ⟨n + k, by rw [hk]; unfold World.drewN; simp [Nat.add_assoc]⟩⟩)
    rw [HBY.out] at hby
    go_quiet ((go_at_call 86; exact hby _))
    go_wp2_with fail
    have HS2 : Hid (St No wA No (wA.drewN nq)) := Lib.hid (St.drewN No wA nq)
    have HR2 := Lib.hid (HRS.out.move (HS2.out.block _ HRS.out.lt (fun e => e)))
    generalize wA.drewN nq = wB at *
    refine bodyPost_ret (results_cell_row_tmp2 rfl _ _ (w.heap.size + 1) _ _ _ _ rfl (taken_row HR2.out _ _ _) Try.underlying77 rfl tkInfo) rfl ?_
    exact HR.out _ ((HSt.out.st.trans HS2.out).own (St.xsets (F := fpB0 (w.heap.size + 1)) (w.heap.size + 1) rfl [_, _, _] 0 wB) (Nat.le_succ _))
  have hE : heardE x m.seq m.mask = 0 := by unfold heardE; rw [if_neg (fun h => h.elim (fun h => by omega) h2)]
  have h2 : beyondB x.sent m.seq m.mask = false := by simpa using h2
  by_cases h3 : m.seq < x.acked
  · have HR : Hid (∀ w', St No w No w' → TakenJ w (fpP p Vq Ve qs es) p c (heardX x m.seq m.mask) (heardT c x m.seq m.mask) (heardE x m.seq m.mask) (.returned (.tuple #[.agg #[.slice none 0 0, .slice none 0 0, .bool false], .int .i64 0])) w') := Lib.hid (fun w' s => by
      unfold heardX heardT
      rw [hE, if_pos rfl, if_pos rfl, if_pos h3, if_pos h3]
      exact TakenJ.nil HP.out s)
    have HSt := Lib.hid (Start.of w m)
    have HBY := Lib.hid h2
    have h3i : (m.seq : Int) < (x.acked : Int) := by omega
    clear hE hq he hqlen h2
    go_enter Try.func67, Try.ntmps67
    go_wp2_with fail
    generalize (w.alloc (.cells m.cells 60)).alloc (.cells #[.slice none 0 0, .slice none 0 0, .bool false] 77) = wA at *
    obtain ⟨b0, b1, b12, b16⟩ := HSt.out.cells
    obtain ⟨d0, d1, d2, d3, d4, d5, d6, d7, d8, d9, d10, f0, f1, f2, f3, f4, f5, f6, f7, f8, f9, f10⟩ := (HM.out.st HSt.out.st (Dj.no _)).ob.n11
    have HRS := Lib.hid HSt.out.res
    obtain ⟨r0, r1, r2, rf0, rf1, rf2⟩ := HRS.out.n3
    have hby : ∀ n, Calls Try.prog 86 #[.pointer (some ⟨p, 0, none⟩), .int .u64 m.seq, .int .u64 (m.mask.toNat : Int)] (wA.drewN n) fun e w'' => e = .returned (.bool (beyondB x.sent m.seq m.mask)) ∧ ∃ k, w'' = wA.drewN k := fun n =>
      (beyond_calls (wA.drewN n) p c x.sent 0 0 0 (.slice none 0 0) (.slice none 0 0) d3 m.seq h1 hse m.mask).mono (fun e w'' h => ⟨h.1, by obtain ⟨k, hk⟩ := h.2; exact ⟨n + k, by rw [hk]; unfold World.drewN; simp [Nat.add_assoc]⟩⟩)
    rw [HBY.out] at hby
    go_quiet ((go_at_call 86; exact hby _))
    go_wp2_with fail
    go_quiet (fail)
    go_wp2_with fail
    refine bodyPost_ret (results_cell_row_tmp2 rfl _ _ (w.heap.size + 1) _ _ _ _ rfl (taken_row (HRS.out.drewN _) _ _ _) Try.underlying77 rfl tkInfo) rfl ?_
    exact HR.out _ ((HSt.out.st.trans (St.drewN No wA _)).own (St.xsets (F := fpB0 (w.heap.size + 1)) (w.heap.size + 1) rfl [_, _, _] 0 _) (Nat.le_succ _))
  have h3i : ¬ (m.seq : Int) < (x.acked : Int) := by omega
  by_cases h4 : m.seq = x.acked
  · have h4i : ((m.seq : Int) == (x.acked : Int)) = true := by rw [beq_iff_eq]; omega
    have HSt := Lib.hid (Start.of w m)
    have HBY := Lib.hid h2
    have H4 := Lib.hid h4
    obtain ⟨nm, HNM⟩ : ∃ nm : BitVec 64, Hid (nm = x.mask ||| m.mask) := ⟨_, Lib.hid rfl⟩
    obtain ⟨cb, HCB⟩ : ∃ cb : Bool, Hid (cb = decide ((x.mask ||| m.mask) ≠ x.mask)) := ⟨_, Lib.hid rfl⟩
    have hor : bits .or .u64 (x.mask.toNat : Int) (m.mask.toNat : Int) = (nm.toNat : Int) := by rw [HNM.out]; exact bits_or_u64 _ _
    have hbn : ((nm.toNat : Int) != (x.mask.toNat : Int)) = cb := by
      rw [HCB.out, ← HNM.out]
      by_cases h : nm = x.mask
      · rw [h]; simp
      · have h2 : ¬ nm.toNat = x.mask.toNat := fun e => h (BitVec.eq_of_toNat_eq e)
        rw [decide_eq_true h, bne_iff_ne]
        omega
    have HR : Hid (∀ wB w', PrM wB p c x.sent x.acked nm x.delivered Vq Ve qs es → St (fpB0 p) w (fpB0 p) wB → St (fpB0 (w.heap.size + 1)) wB (fpB0 (w.heap.size + 1)) w' → TakenJ w (fpP p Vq Ve qs es) p c (heardX x m.seq m.mask) (heardT c x m.seq m.mask) (heardE x m.seq m.mask) (.returned (.tuple #[.agg #[.slice none 0 0, .slice none 0 0, .bool cb], .int .i64 0])) w') := Lib.hid (fun wB w' hB s s2 => by
      unfold heardX heardT
      rw [HNM.out] at hB
      rw [HCB.out, hE, if_pos rfl, if_pos rfl, if_neg h3, if_neg h3, if_pos h4, if_pos h4]
      have hin : In (fpP p Vq Ve qs es) w := HM.out.in
      have hd2 : Dj (fpB0 (w.heap.size + 1)) (fpP p Vq Ve qs es) := fun k a b => by have e : k = w.heap.size + 1 := a; have := hin k b; omega
      refine ⟨_, [], _, [], fpP p Vq Ve qs es, rfl, LsG.nil _, rfl, LsG.nil _, rfl, ⟨Vq, Ve, qs, es, hB.st s2 hd2, hq, he, rfl⟩, ?_, fun k _ b => fpL_nil b, fun k _ b => fpL_nil b, fun k _ b => fpL_nil b⟩
      refine ⟨s2.os.trans s.os, s2.tape.trans s.tape, s2.output.trans s.output, Nat.le_trans s.size s2.size, fun k hk hn => (s2.block k (Nat.lt_of_lt_of_le hk s.size) (fun e => by have e' : k = w.heap.size + 1 := e; omega)).trans (s.block k hk (fun e => hn (.inl e))), ?_⟩
      rintro k (hk | hk | hk)
      · exact .inl hk
      · exact (fpL_nil hk).elim
      · exact (fpL_nil hk).elim)
    clear hq he hqlen h2 h4
    go_enter Try.func67, Try.ntmps67
    go_wp2_with fail
    generalize (w.alloc (.cells m.cells 60)).alloc (.cells #[.slice none 0 0, .slice none 0 0, .bool false] 77) = wA at *
    obtain ⟨b0, b1, b12, b16⟩ := HSt.out.cells
    obtain ⟨d0, d1, d2, d3, d4, d5, d6, d7, d8, d9, d10, f0, f1, f2, f3, f4, f5, f6, f7, f8, f9, f10⟩ := (HM.out.st HSt.out.st (Dj.no _)).ob.n11
    have HRS := Lib.hid HSt.out.res
    obtain ⟨r0, r1, r2, rf0, rf1, rf2⟩ := HRS.out.n3
    have hby : ∀ n, Calls Try.prog 86 #[.pointer (some ⟨p, 0, none⟩), .int .u64 m.seq, .int .u64 (m.mask.toNat : Int)] (wA.drewN n) fun e w'' => e = .returned (.bool (beyondB x.sent m.seq m.mask)) ∧ ∃ k, w'' = wA.drewN k := fun n =>
      (beyond_calls (wA.drewN n) p c x.sent 0 0 0 (.slice none 0 0) (.slice none 0 0) d3 m.seq h1 hse m.mask).mono (fun e w'' h => ⟨h.1, by obtain ⟨k, hk⟩ := h.2; exact ⟨n + k, by rw [hk]; unfold World.drewN; simp [Nat.add_assoc]⟩⟩)
    rw [HBY.out] at hby
    go_quiet ((go_at_call 86; exact hby _))
    go_wp2_with fail
    go_quiet (fail)
    go_wp2_with fail
    go_quiet (fail)
    go_wp2_with fail
    go_region
    go_wp2_with fail
    have hne : w.heap.size + 1 ≠ p := by omega
    refine bodyPost_ret (results_cell_row_tmp2 rfl _ _ (w.heap.size + 1) _ _ _ _ rfl (taken_row ((HRS.out.drewN _).move ((St.setCell (F := fpB0 p) _ ⟨p, 6, none⟩ _ rfl).block _ HRS.out.lt (fun e => hne e))) _ _ _) Try.underlying77 rfl tkInfo) rfl ?_
    have hA := (HM.out.st HSt.out.st (Dj.no _))
    exact HR.out _ _ ((hA.st (St.drewN No wA _) (Dj.no _)).ob' (c' := c) (St.setCell (F := fpB0 p) _ ⟨p, 6, none⟩ _ rfl) ((hA.st (St.drewN No wA _) (Dj.no _)).ob.set 6 _)) (((HSt.out.st.trans (St.drewN No wA _)).wide (fun _ e => e.elim) (fun _ e => .inl e)).trans (St.setCell (F := fpB0 p) _ ⟨p, 6, none⟩ _ rfl)) (St.xsets (F := fpB0 (w.heap.size + 1)) (w.heap.size + 1) rfl [_, _, _] 0 _)
  obtain ⟨gn, hgn⟩ : ∃ gn, m.seq = x.acked + gn := ⟨m.seq - x.acked, by omega⟩
  have hqs := hok.qs
  have hql := hok.ql
  have hrm := hok.rm
  have hwn := hok.wn
  have hw1 := hok.w1
  rw [hqlen] at hqs hql
  have hgn1 : 1 ≤ gn := by omega
  have hgn2 : gn ≤ qs.length := by omega
  have h4i : ((m.seq : Int) == (x.acked : Int)) = false := by rw [beq_eq_false_iff_ne]; omega
  have wd : IntKind.u64.wrap ((m.seq : Int) - (x.acked : Int)) = (gn : Int) := by rw [wrap_u64]; omega
  have wc : IntKind.i64.wrap (gn : Int) = (gn : Int) := IntWalk.i64_in _ (by omega)
  have wsb : IntKind.i64.wrap (min (qs.length : Int) (c.win : Int) - (gn : Int)) = min (qs.length : Int) (c.win : Int) - (gn : Int) := IntWalk.i64_in _ (by omega)
  obtain ⟨qa, qc, rfl, hqc, hqcm, _, hqn⟩ := HM.out.lq.own.form
  have hqa : ∃ y, qa = some y := by
    cases qa with
    | none => have := (hqn rfl).1; omega
    | some y => exact ⟨y, rfl⟩
  obtain ⟨y, rfl⟩ := hqa
  obtain ⟨lo, HLO⟩ : ∃ lo, Hid (lo = min qs.length c.win - gn) := ⟨_, Lib.hid rfl⟩
  have wmx : max (min (qs.length : Int) (c.win : Int) - (gn : Int)) 0 = (lo : Int) := by have := HLO.out; omega
  have hi0 : (0 : Int) ≤ (gn : Int) := by omega
  have hi1 : (gn : Int) ≤ (qs.length : Int) := by omega
  have hi2 : (gn : Int) ≤ (qc : Int) := by omega
  have hi3 : (qs.length : Int) ≤ (qc : Int) := by omega
  have HSt := Lib.hid (Start.of w m)
  have HBY := Lib.hid h2
  have HGN := Lib.hid hgn
  have HQ := Lib.hid hq
  have HEA := Lib.hid he
  have HOK := Lib.hid hok
  clear hq he hqlen h2 h4 hgn hok hqs hqn
  go_enter Try.func67, Try.ntmps67
  go_wp2_with fail
  generalize (w.alloc (.cells m.cells 60)).alloc (.cells #[.slice none 0 0, .slice none 0 0, .bool false] 77) = wA at *
  obtain ⟨b0, b1, b12, b16⟩ := HSt.out.cells
  obtain ⟨d0, d1, d2, d3, d4, d5, d6, d7, d8, d9, d10, f0, f1, f2, f3, f4, f5, f6, f7, f8, f9, f10⟩ := (HM.out.st HSt.out.st (Dj.no _)).ob.n11
  have HRS := Lib.hid HSt.out.res
  have hneb : w.heap.size ≠ p := by omega
  have hner : w.heap.size + 1 ≠ p := by omega
  have hneb' : p ≠ w.heap.size := by omega
  have hner' : p ≠ w.heap.size + 1 := by omega
  have HMA := Lib.hid (HM.out.st HSt.out.st (Dj.no _))
  have HCL : Hid (∀ W a' c', St No wA No W → (a' = some (y.add gn) ∨ qs.length = gn) → a' ≠ none → Calls Try.prog 94 #[.slice a' (qs.length - gn) c'] W fun e w' => ∃ V, e = .returned V ∧ Own w' 48 1 V (qs.length - gn) ((qs.drop gn).map (·.v)) ∧ St No W (fpV V) w') := Lib.hid (fun W a' c' s ha hn => by
    have hl : ((qs.drop gn).map (·.v)).length = qs.length - gn := by simp
    have hrd : Rd W a' ((qs.drop gn).map (·.v)) := by
      rcases ha with rfl | ha
      · intro i v hv
        have hr := (HMA.out.lq.st s (Dj.no _)).own.rd (gn + i) v (by rw [qmap, List.getElem?_map]; rw [List.getElem?_map, List.getElem?_drop] at hv; exact hv)
        obtain ⟨z, e, hz⟩ := hr
        cases e
        exact ⟨_, rfl, by rw [Go.Deep.add_add]; exact hz⟩
      · rw [List.drop_eq_nil_of_le (by omega)]
        exact Rd.nil _ _
    have h := qclone_calls a' c' ((qs.drop gn).map (·.v)) (by omega) (fun u hu => by
      obtain ⟨b, hb, rfl⟩ := List.mem_map.1 hu
      exact (HMA.out.lq.el b (List.mem_of_mem_drop hb)).one) (fun e => absurd e hn) W hrd
    rw [hl] at h
    exact h)
  have hby : ∀ n, Calls Try.prog 86 #[.pointer (some ⟨p, 0, none⟩), .int .u64 m.seq, .int .u64 (m.mask.toNat : Int)] (wA.drewN n) fun e w'' => e = .returned (.bool (beyondB x.sent m.seq m.mask)) ∧ ∃ k, w'' = wA.drewN k := fun n =>
    (beyond_calls (wA.drewN n) p c x.sent 0 0 0 (.slice none 0 0) (.slice none 0 0) d3 m.seq h1 hse m.mask).mono (fun e w'' h => ⟨h.1, by obtain ⟨k, hk⟩ := h.2; exact ⟨n + k, by rw [hk]; unfold World.drewN; simp [Nat.add_assoc]⟩⟩)
  rw [HBY.out] at hby
  go_quiet ((go_at_call 86; exact hby _))
  go_wp2_with fail
  go_quiet (fail)
  go_wp2_with fail
  go_quiet (fail)
  go_wp2_with fail
  go_quiet (fail)
  go_wp2_with fail
  go_quiet (fail)
  go_wp2_with fail
  all_goals
    refine (HCL.out _ _ _ (St.drewN No wA _) (by first | exact .inl rfl | exact .inr (by omega)) (by simp)).mono ?_
    rintro e w5 ⟨V5, rfl, ho5, hs5⟩
    have hs5' := (St.drewN No wA _).trans hs5
    have HA5 := Lib.hid (HMA.out.st hs5' (Dj.no _))
    have HBX5 := Lib.hid (HSt.out.box.move (hs5'.block _ HSt.out.box.lt (fun e => e)))
    have HRS5 := Lib.hid (HRS.out.move (hs5'.block _ HRS.out.lt (fun e => e)))
    obtain ⟨z0, z1, z2, z3, z4, z5, z6, z7, z8, z9, z10, zf0, zf1, zf2, zf3, zf4, zf5, zf6, zf7, zf8, zf9, zf10⟩ := HA5.out.ob.n11
    obtain ⟨va, vc, rfl, _, _, _, _⟩ := ho5.form
    have HO5 := Lib.hid ho5
    have HS5 := Lib.hid hs5'
    clear ho5 hs5 hs5' HCL
    go_wp2_with fail
  all_goals
    have SX := Lib.hid (St.setCell (F := fpB0 p) w5 ⟨p, 5, none⟩ (.slice va (qs.length - gn) vc) rfl)
    have HOBC := Lib.hid (HA5.out.ob.set 5 (.slice va (qs.length - gn) vc))
    have HBXC := Lib.hid (HBX5.out.move (SX.out.block _ HBX5.out.lt (fun e => hneb e)))
    have HRSC := Lib.hid (HRS5.out.move (SX.out.block _ HRS5.out.lt (fun e => hner e)))
    generalize w5.setCell ⟨p, 5, none⟩ (.slice va (qs.length - gn) vc) = wC at *
    clear d0 d1 d2 d3 d4 d5 d6 d7 d8 d9 d10 f0 f1 f2 f3 f4 f5 f6 f7 f8 f9 f10 z0 z1 z2 z3 z4 z5 z6 z7 z8 z9 z10 zf0 zf1 zf2 zf3 zf4 zf5 zf6 zf7 zf8 zf9 zf10 b0 b1 b12 b16 hby
    try clear r0 r1 r2 rf0 rf1 rf2
    obtain ⟨d0, d1, d2, d3, d4, d5, d6, d7, d8, d9, d10, f0, f1, f2, f3, f4, f5, f6, f7, f8, f9, f10⟩ := Ob.n11 HOBC.out
    have b1 : wC.cell? ⟨w.heap.size, 1, none⟩ = some (.int .u64 m.seq) := by rw [HBXC.out.cell 1]; rfl
    have b12 : wC.cell? ⟨w.heap.size, 12, none⟩ = some (.int .u64 (m.mask.toNat : Int)) := by rw [HBXC.out.cell 12]; rfl
    go_region
    go_wp2_with fail
  all_goals
    have HD := Lib.hid (dropped HOBC.out HRSC.out (HA5.out) HO5.out HS5.out SX.out HMA.out hner m.seq m.mask)
    generalize (((wC.setCell ⟨p, 4, none⟩ (.int .u64 m.seq)).setCell ⟨p, 6, none⟩ (.int .u64 (m.mask.toNat : Int))).alloc (.cells #[.slice none 0 0, .slice none 0 0, .bool true] 77)).drew = wD at *
  all_goals
    generalize hnl : qs.length - gn = nl at *
    have HNL := Lib.hid hnl
    have HLOW : Hid (lo ≤ min nl c.win ∧ lo = min qs.length c.win - gn) := Lib.hid ⟨by have := HLO.out; omega, HLO.out⟩
    have HSEQ : Hid (m.seq + nl ≤ 18446744073709551615) := Lib.hid (by have h1 := HGN.out; have h2 := HOK.out.qs; have h3 := HOK.out.se; have h4 := congrArg List.length HQ.out; rw [List.length_map] at h4; omega)
    clear d0 d1 d2 d3 d4 d5 d6 d7 d8 d9 d10 f0 f1 f2 f3 f4 f5 f6 f7 f8 f9 f10 b1 b12 wsb wd wc hnl HOBC HRSC HBXC SX HBX5 HRS5
    go_loopw [10] (fun i wr => ∃ (t : Nat) (V : Value) (os : List OB), lo ≤ t ∧ t ≤ min nl c.win ∧ i = .int .i64 t ∧ Hid (LsO wr V os) ∧ Hid (os.map OB.pl = dataL c.adr m.seq ((qs.drop gn).map (·.b)) lo (t - lo)) ∧ Hid (Ob wr wC.heap.size 77 #[.slice none 0 0, V, .bool true]) ∧ Hid (¬ fpL OB.v V os wC.heap.size) ∧ Hid (St (fpB0 wC.heap.size) wD (fun j => j = wC.heap.size ∨ fpL OB.v V os j) wr)) (fun i _ => min nl c.win - (intOf i).toNat)
    case atStart => exact ⟨lo, _, [], by omega, HLOW.out.1, rfl, Lib.hid (LsG.nil _), Lib.hid (by rw [Nat.sub_self]; rfl), Lib.hid HD.out.new, Lib.hid fpL_nil, Lib.hid ((St.refl _ _).drop (fun j hj => hj.elim .inl (fun e => (fpL_nil e).elim)))⟩
    case round =>
      obtain ⟨t, V, os, ht1, ht2, rfl, HO, HE2, HT, HNG, HS⟩ := hrel
      have HPR := Lib.hid (HD.out.pr.st HS.out (fun k a b => by cases (show k = wC.heap.size from a); exact HD.out.ng b))
      have hgl : wC.heap.size < wr.heap.size := Nat.lt_of_lt_of_le HD.out.lg HS.out.size
      obtain ⟨d0, d1, d2, d3, d4, d5, d6, d7, d8, d9, d10, f0, f1, f2, f3, f4, f5, f6, f7, f8, f9, f10⟩ := HPR.out.ob.n11
      obtain ⟨oa, oc, rfl, _, _, _, _⟩ := HO.out.own.form
      obtain ⟨t0, t1, t2, tf0, tf1, tf2⟩ := HT.out.n3
      by_cases hlt : t < min nl c.win
      · have hmi : (t : Int) < min (nl : Int) (c.win : Int) := by omega
        have hdl : (qs.drop gn).length = nl := by rw [List.length_drop]; exact HNL.out
        have hnm : t < (qs.drop gn).length := by omega
        have hqk := List.getElem?_eq_getElem hnm
        obtain ⟨sq, HSQ⟩ : ∃ sq, Hid (sq = m.seq + 1 + t) := ⟨_, Lib.hid rfl⟩
        have hbl : ((qs.drop gn)[t]).b.length ≤ 3072 := (of_decide_eq_true (HOK.out.qb _ (by rw [HQ.out]; exact List.mem_map.2 ⟨_, List.mem_of_mem_drop (List.getElem_mem hnm), rfl⟩)) : 1 ≤ ((qs.drop gn)[t]).b.length ∧ ((qs.drop gn)[t]).b.length ≤ 3072).2
        have HDT : ∀ W, St No wr No W → Calls Try.prog 85 #[.pointer (some ⟨p, 0, none⟩), .int .i64 t] W (DataJ W c.adr sq ((qs.drop gn)[t]).b) := fun W s => by
          rw [HSQ.out]
          exact data_calls W p c x.sent m.seq m.mask x.delivered _ Ve _ es (HPR.out.st s (Dj.no _)) t _ hqk hbl (by have := HSEQ.out; omega)
        have HGD : Hid (((qs.drop gn).map (·.b)).getD t [] = ((qs.drop gn)[t]).b) := Lib.hid (by rw [List.getD_eq_getElem?_getD, List.getElem?_map, hqk]; rfl)
        generalize (qs.drop gn)[t] = bk at *
        have HEN : Hid (∀ v, (os ++ [(⟨c.adr, 10, sq, 0, v, bk.b⟩ : OB)]).map OB.pl = dataL c.adr m.seq ((qs.drop gn).map (·.b)) lo (t + 1 - lo)) := Lib.hid (fun v => by
          rw [List.map_append, HE2.out, HSQ.out, show t + 1 - lo = (t - lo) + 1 by omega]
          show _ = dataL _ _ _ _ (t - lo) ++ _
          rw [show lo + (t - lo) = t by omega, HGD.out]; rfl)
        have HOL : Hid (os.length ≤ 4294967296) := Lib.hid (by have h1 := congrArg List.length HE2.out; rw [List.length_map, dataL_len] at h1; omega)
        clear hbl hnm hqk hdl
        go_wp2_with fail
        go_quiet (fail)
        go_wp2_with fail
        go_region_law (first
          | (refine step_appO2 (⟨c.adr, 10, sq, 0, .slice a1 bk.b.length c1, bk.b⟩ : OB) rfl (.tmp 122) (.tmp 126) rfl _ os rfl HL1.out rfl HO1.out HDJ.out HOL.out ?_
             intro V3 w3 hg3 hs3
             have hz := HT1.out.move (Below.heap_alloc w1 (.cells (outC c.adr 10 sq 0 (.slice a1 bk.b.length c1)) 62) wC.heap.size HT1.out.lt)
             have hz3 := hz.move (hs3.block _ hz.lt (fun e => HNG.out (fpL_iff.2 (.inl e))))
             have y1 : w3.cell? ⟨wC.heap.size, 1, none⟩ = some (.slice oa os.length oc) := by rw [hz3.cell 1]; rfl
             have yf1 := hz3.free 1
             obtain ⟨va3, vc3, e3, _, _, _, _⟩ := hg3.own.form
             rw [List.length_append, List.length_cons, List.length_nil, Nat.zero_add] at e3
             subst e3
             have HG3 := Lib.hid hg3
             have HS3 := Lib.hid hs3
             clear hg3 hs3 hz hz3)
          | (go_simp
             go_at_call 85
             refine (HDT _ (by first | exact (St.drewN No _ _).trans (St.drew No _) | exact St.drew No _ | exact St.drewN No _ _)).mono ?_
             rintro e w1 ⟨v1, rfl, ho1, hs1⟩
             have hs1' : St No wr (fpV v1) w1 := by first | exact ((St.drewN No wr _).trans (St.drew No _)).trans hs1 | exact (St.drewN No wr _).trans hs1 | exact (St.drew No wr).trans hs1
             obtain ⟨a1, c1, rfl, _, _, _, _⟩ := ho1.form
             have hsz1 : (outC c.adr 10 sq (0#64) (.slice a1 bk.b.length c1)).size = 18 := rfl
             have ht1' := HT.out.move (hs1'.block _ HT.out.lt (fun e => e))
             have x1 : w1.cell? ⟨wC.heap.size, 1, none⟩ = some (.slice oa os.length oc) := by rw [ht1'.cell 1]; rfl
             have xf1 := ht1'.free 1
             have hl1 := ht1'.lt
             have q3 : wC.heap.size ≠ w1.heap.size := by omega
             have q4 : w1.heap.size ≠ wC.heap.size := by omega
             have HT1 := Lib.hid ht1'
             have HO1 := Lib.hid ho1
             have HS1 := Lib.hid hs1'
             have HL1 := Lib.hid (HO.out.st hs1' (Dj.no _))
             have HDJ : Hid (Dj (fpV (.slice a1 bk.b.length c1)) (fpL OB.v (.slice oa os.length oc) os)) := Lib.hid (fun k a b => absurd (HO.out.in k b) (Nat.not_lt.2 (hs1'.news k a)))
             clear ho1 hs1 hs1' ht1'))
        all_goals
          have HX := Lib.hid (mail_stored HO.out HT.out HNG.out HS1.out HG3.out HS3.out)
          go_wp2
          exact ⟨⟨t + 1, _, os ++ [⟨c.adr, 10, sq, 0, .slice a1 bk.b.length c1, bk.b⟩], by omega, by omega, by go_num, Lib.hid HX.out.1, Lib.hid (HEN.out _), Lib.hid HX.out.2.1, Lib.hid HX.out.2.2.1, Lib.hid (HS.out.trans HX.out.2.2.2)⟩, by simp [intOf]; omega⟩
      · have hmi : ¬ (t : Int) < min (nl : Int) (c.win : Int) := by omega
        have HTE : Hid (t = min nl c.win) := Lib.hid (by omega)
        have hgr : w.heap.size + 1 ≠ wC.heap.size := by have := HSt.out.res.lt; have := HD.out.hg; omega
        have HRR := Lib.hid (HD.out.res.move (HS.out.block _ HD.out.res.lt (fun e => hgr e)))
        obtain ⟨r0, r1, r2, rf0, rf1, rf2⟩ := HRR.out.n3
        go_wp2_with fail
        go_quiet (fail)
        go_wp2_with fail
        refine bodyPost_ret (results_cell_row_tmp2 rfl _ _ (w.heap.size + 1) _ _ _ _ rfl (taken_row (HRR.out.drewN _) _ _ _) Try.underlying77 rfl tkInfo) rfl ?_
        exact heard_end HSt.out HM.out HD.out HQ.out HEA.out HGN.out hgn1 hE HLOW.out.2 HNL.out HTE.out (HS.out.trans (St.drewN _ _ _)) (HO.out.st (St.drewN No _ _) (Dj.no _)) HE2.out HNG.out (St.xsets (F := fpB0 (w.heap.size + 1)) (w.heap.size + 1) rfl [_, _, _] 0 _)
end Go.Proofs.Ytjepmckofocdnaa
