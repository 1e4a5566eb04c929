/- Parts of the proofs of this seat's laws. -/
import Derived.Test.YtkflapebfmcmaaaGreatBOnce09
section
set_option linter.all false
/- Rounds of a loop over a function. -/
namespace Go.Sv
open Go Go.RowKit

section
variable {P : Program} {b : Frame} {tm : Array Value} {ds : List Deferred} {k : List Item} {cs : List Frame} {w : World}

theorem s_begin {l : Nat} {L : Loop} (hr : b.roundOf = some l) (hl : w.heap[l]? = some (.loop L)) (hs : L.state = .ready) :
    step P (lone (mk b tm ds (.beginRound :: k)) cs w) = .next (lone (mk b tm ds k) cs { w with heap := w.heap.setIfInBounds l (.loop { L with state := .busy }) }) := by
  refine step_lone_go ?_
  have hE : (do Option.elim (some l) (stuck "beginRound: no round") Instr.beginRound; pure .skip : Sem Next).run P w = .ok .skip { w with heap := w.heap.setIfInBounds l (.loop { L with state := .busy }) } := by
    simp [Instr.beginRound, Instr.getLoop, getObj, setObj, Sem.run, hl, hs]
  simp only [stepG, stepG.exec, mk, hr, stepG.apply, if_true, Sem.runT_eq, hE, GStep.bare_after]
  rfl

theorem run_endRound {l : Nat} {L : Loop} {j : Option Code} (hl : w.heap[l]? = some (.loop L)) :
    (Instr.endRound l j).run P w = .ok (.bool j.isNone) { w with heap := w.heap.setIfInBounds l (.loop { L with state := if j.isNone then .ready else .done, pending := j }) } := by
  simp [Instr.endRound, Instr.getLoop, getObj, setObj, Sem.run, hl]

theorem s_leave_done {l : Nat} {L : Loop} {c : Frame} (hr : b.roundOf = some l) (hk : b.kind = .normal) (hl : w.heap[l]? = some (.loop L)) :
    step P (lone (mk b tm ds []) (c :: cs) w) = .next (lone (c.finish (.bool true)) cs { w with heap := w.heap.setIfInBounds l (.loop { L with state := .ready, pending := none }) }) := by
  refine step_lone_go ?_
  have := run_endRound (P := P) (j := none) hl
  simp only [stepG, stepG.exec, mk, hr, Sem.runT_eq, this, GStep.bare_after, doReturn, hk]
  rfl

theorem s_leave_ret {l : Nat} {L : Loop} {c : Frame} (hr : b.roundOf = some l) (hk : b.kind = .normal) (hl : w.heap[l]? = some (.loop L)) :
    step P (lone (mk b tm ds (.code .ret :: k)) (c :: cs) w) = .next (lone (c.finish (.bool false)) cs { w with heap := w.heap.setIfInBounds l (.loop { L with state := .done, pending := some .ret }) }) := by
  refine step_lone_go ?_
  have := run_endRound (P := P) (j := some .ret) hl
  simp only [stepG, stepG.exec, mk, hr, Sem.runT_eq, this, GStep.bare_after, doReturn, hk]
  rfl

theorem s_leave_exit {l id : Nat} {L : Loop} {c : Frame} (hr : b.roundOf = some l) (hk : b.kind = .normal) (he : exitTo id k = none) (hl : w.heap[l]? = some (.loop L)) :
    step P (lone (mk b tm ds (.code (.exit id) :: k)) (c :: cs) w) = .next (lone (c.finish (.bool false)) cs { w with heap := w.heap.setIfInBounds l (.loop { L with state := .done, pending := some (.exit id) }) }) := by
  refine step_lone_go ?_
  have := run_endRound (P := P) (j := some (.exit id)) hl
  simp only [stepG, stepG.exec, mk, hr, he, Option.elim, Sem.runT_eq, this, GStep.bare_after, doReturn, hk]
  rfl
end

section
variable {w0 : World} {k : K} {g : Gh} {S : St} {w : World}

theorem foldl_rt {g : Gh} {w : World} : ∀ (ps : List Nat) (us : List Value) (xs : List SV) (tm : Array Value) (ρ : Nat → SV), us.length = xs.length → (∀ t ∈ ps, t < tm.size) → (∀ i c, xs[i]? = some c → R g w (us.getD i undef) c) → RT g w tm ρ →
    RT g w ((ps.zip us).foldl (fun tmps p => tmps.setIfInBounds p.1 p.2) tm) ((ps.zip xs).foldl (fun ρ p => upd ρ p.1 p.2) ρ) ∧ ((ps.zip us).foldl (fun tmps p => tmps.setIfInBounds p.1 p.2) tm).size = tm.size
  | [], _, _, tm, ρ, _, _, _, hT => ⟨hT, rfl⟩
  | _ :: _, [], [], tm, ρ, _, _, _, hT => ⟨hT, rfl⟩
  | p :: ps, u :: us, x :: xs, tm, ρ, hl, hp, hR, hT => by
    simp only [List.zip_cons_cons, List.foldl_cons]
    have h0 := hR 0 x rfl
    have hT' : RT g w (tm.setIfInBounds p u) (upd ρ p x) := by
      have := hT.put (d := some p) (v := u) (x := x) (by simpa using hp p (by simp)) (by simpa using h0) []
      exact this
    have := foldl_rt ps us xs (tm.setIfInBounds p u) (upd ρ p x) (by simpa using hl) (fun t ht => by simpa using hp t (by simp [ht])) (fun i c hi => by simpa using hR (i + 1) c (by simpa using hi)) hT'
    simpa using this

theorem DsR.nil_inv {g : Gh} {w : World} {ds : List Deferred} (h : DsR g w ds []) : ds = [] := by
  cases ds with
  | nil => rfl
  | cons => exact h.elim

set_option maxHeartbeats 1000000 in
theorem round_sound (hk : KS k) {cf : CallF} (hcl : Closed k cf) (hcf : CFS w0 k cf) (n : Nat) {l : Nat} {r : LoopRec} (hl : l < g.n) (hget : S.get l = .loop r) {args : List SV} {x : SV} {S' : St} (h : evRound k cf n l r args S = some (x, S')) (hG : G w0 g S w) {us : Array Value} (ha : Rs g w us.toList args) :
    CallOK k.P (callSem (.func (.yield (g.box l)) #[] #[]) us) w (Good w0 S g w x S') := by
  have hfl : S.floor ≤ g.n := by rw [hG.n]; exact hG.floor
  unfold evRound at h
  split at h
  · cases h
  rename_i hc
  simp only [not_or, Bool.not_eq_true, Decidable.not_not] at hc
  obtain ⟨hbusy, hlen, hfloor, hpend⟩ := hc
  simp only [Option.bind_eq_some_iff] at h
  obtain ⟨⟨e, fr, S1⟩, hass, h⟩ := h
  have hO := hG.obj l hl
  rw [hget] at hO
  obtain ⟨hu, L, hh, hfn, hpar, hasg, hbod, hst, hpe, hwf, hT⟩ := hO
  have hus : us.size = args.length := by simpa using ha.1
  have hps : L.params.size = r.params.length := by rw [← hpar]; simp
  -- entering
  let tm := (L.params.zip us).foldl (fun tmps (p : Nat × Value) => tmps.setIfInBounds p.1 p.2) L.tmps
  have hy : (callSem (.func (.yield (g.box l)) #[] #[]) us).run k.P w = .ok (.round (g.box l) L.fn tm L.assign L.body) w := by
    have hsz : us.size = L.params.size := by omega
    simp [callSem, Deferred.ofValue, invoke, Instr.yield, Instr.getLoop, getObj, Sem.run, hh, hsz, tm]
  refine ⟨_, .inr ⟨_, _, _, _, _, hy, rfl⟩, fun c cs => ?_⟩
  have htm : tm = (L.params.toList.zip us.toList).foldl (fun tmps p => tmps.setIfInBounds p.1 p.2) L.tmps := by
    show Array.foldl _ _ _ = _
    rw [← Array.foldl_toList]
    simp
  have hf := foldl_rt L.params.toList us.toList args L.tmps r.ρ ha.1 hwf.params ha.2 hT
  rw [← htm, hpar] at hf
  obtain ⟨hT0, hz0⟩ := hf
  generalize htm' : tm = tm' at hT0 hz0
  generalize hbb : ({ fn := L.fn, tmps := #[], todo := [], defers := [], mode := .run, kind := .normal, roundOf := some (g.box l) } : Frame) = b
  have hbf : b.fn = r.fn := by rw [← hbb]; exact hfn
  have hbr : b.roundOf = some (g.box l) := by rw [← hbb]
  have hbk : b.kind = .normal := by rw [← hbb]
  have hent : Frame.round (g.box l) L.fn tm' L.assign L.body .normal = mk b tm' [] [.code L.assign, .beginRound, .code L.body] := by
    rw [← hbb]; rfl
  rw [hent]
  rw [← hasg] at hass
  obtain ⟨g1, w1, tm1, ds1, o1, G1, T1, RT1, D1, z1⟩ := code_sound hk hcl hcf n r.fn true L.assign _ _ _ _ _ hass b tm' [] g w hbf (by rw [hbr]; rfl) (.inr hwf.nda) hG hT0 trivial (by rw [hz0]; exact hwf.size) (by rw [hz0]; exact hwf.assign) [.beginRound, .code L.body] (c :: cs)
  cases e with
  | ret => cases h
  | exit id => cases h
  | normal =>
  simp only at h
  cases hg1 : S1.get l with
  | loop r1 =>
    simp only [hg1] at h
    split at h
    · cases h
    rename_i hc1
    simp only [not_or, Bool.not_eq_true] at hc1
    obtain ⟨hb1, hp1⟩ := hc1
    simp only [Option.bind_eq_some_iff] at h
    obtain ⟨⟨e2, fr2, S2⟩, hbd, h⟩ := h
    have hl1 : l < g1.n := Nat.lt_of_lt_of_le hl T1.ext.n
    have hbx1 : g1.box l = g.box l := T1.ext.box l hl
    have hO1 := G1.obj l hl1
    rw [hg1] at hO1
    obtain ⟨hu1, L1, hh1, hfn1, hpar1, hasg1, hbod1, hst1, hpe1, hwf1, hTL1⟩ := hO1
    have hready : L1.state = .ready := by
      rw [hst1]; unfold loopState
      rw [hb1]
      have : r1.pending.isNone = true := by cases hp : r1.pending <;> simp_all
      simp [this]
    have hpn : r1.pending = none := by cases hp : r1.pending <;> simp_all
    have hL1p : L1.pending = none := by rw [hpn] at hpe1; simpa using hpe1
    -- the round begins
    have hput := G1.put (w' := { w1 with heap := w1.heap.setIfInBounds (g1.box l) (.loop { L1 with state := .busy }) }) hl1 (by rw [hg1]; trivial) (by rw [T1.floor]; exact hfloor) (only_putObj w1 _ _) hu1 (.loop { r1 with busy := true }) ?_
    obtain ⟨G2, T2⟩ := hput
    · have T12 := T1.trans T2 hfl
      rw [hbx1] at hh1
      have s2 := s_begin (P := k.P) (b := b) (tm := tm1) (ds := ds1) (k := [.code L.body]) (cs := c :: cs) (w := w1) hbr hh1 hready
      rw [← hbx1] at s2
      have pre : Steps k.P (lone (mk b tm' [] [.code L.assign, .beginRound, .code L.body]) (c :: cs) w) (lone (mk b tm1 ds1 [.code L.body]) (c :: cs) { w1 with heap := w1.heap.setIfInBounds (g1.box l) (.loop { L1 with state := .busy }) }) := Steps.trans o1 (.one s2)
      generalize hw2 : ({ w1 with heap := w1.heap.setIfInBounds (g1.box l) (.loop { L1 with state := .busy }) } : World) = w2 at G2 T2 T12 pre
      have hbodL : r1.body = comp L.body ∨ True := .inr trivial
      have hsame : r.body = comp L.body := hbod.symm
      -- the body that runs is the one the loop had when the round was entered
      rw [hsame] at hbd
      obtain ⟨g3, w3, tm3, ds3, o3, G3, T3, RT3, D3, z3⟩ := code_sound hk hcl hcf n r.fn true L.body _ _ _ _ _ hbd b tm1 ds1 g1 w2 hbf (by rw [hbr]; rfl) (.inr hwf.ndb) G2 (RT1.ext T2.ext) (D1.ext T2.ext) (by rw [z1, hz0]; exact hwf.size) (by rw [z1, hz0]; exact hwf.body) [] (c :: cs)
      have T123 := T12.trans T3 hfl
      have hl3 : l < g3.n := Nat.lt_of_lt_of_le hl T123.ext.n
      have hbx3 : g3.box l = g.box l := T123.ext.box l hl
      cases hfd : fr2.ds with
      | cons _ _ => rw [hfd] at h; simp at h
      | nil =>
      rw [hfd] at h D3
      obtain rfl := D3.nil_inv
      cases hg3 : S2.get l with
      | loop r3 =>
        simp only [hg3] at h
        have hO3 := G3.obj l hl3
        rw [hg3] at hO3
        obtain ⟨hu3, L3, hh3, hfn3, hpar3, hasg3, hbod3, hst3, hpe3, hwf3, hTL3⟩ := hO3
        have fin : ∀ (L4 : Loop) (pe : Option CC) (v : Bool), L4 = { L3 with state := L4.state, pending := L4.pending } → L4.state = loopState { r3 with busy := false, pending := pe } → L4.pending.map comp = pe →
            Good w0 S g w (.v (.bool v)) (S2.put l (.loop { r3 with busy := false, pending := pe })) (.bool v) { w3 with heap := w3.heap.setIfInBounds (g3.box l) (.loop L4) } := by
          intro L4 pe v e1 e2 e3
          have hlt : g3.box l < w3.heap.size := (Array.getElem?_eq_some_iff.1 hh3).1
          have hput := G3.put (w' := { w3 with heap := w3.heap.setIfInBounds (g3.box l) (.loop L4) }) hl3 (by rw [hg3]; trivial) (by rw [T123.floor]; exact hfloor) (only_putObj w3 _ _) hu3 (.loop { r3 with busy := false, pending := pe }) ?_
          · obtain ⟨G4, T4⟩ := hput
            exact ⟨g3, .v _, G4, T123.trans T4 hfl⟩
          · have hext : Ext g3 w3 g3 { w3 with heap := w3.heap.setIfInBounds (g3.box l) (.loop L4) } := by
              refine ⟨rfl, Nat.le_refl _, fun _ _ => rfl, fun _ _ => rfl, fun _ => Nat.le_refl _, fun X i hX => ?_⟩
              refine cell_block ((only_putObj w3 (g3.box l) (.loop L4)).block X (G3.use_lt hX) ?_)
              intro e
              subst e
              omega
            refine ⟨hu3, L4, by simp [hlt], ?_, ?_, ?_, ?_, e2, e3, ?_, ?_⟩
            · rw [e1]; exact hfn3
            · rw [e1]; exact hpar3
            · rw [e1]; exact hasg3
            · rw [e1]; exact hbod3
            · rw [e1]; exact ⟨hwf3.size, hwf3.params, hwf3.assign, hwf3.body, hwf3.nda, hwf3.ndb⟩
            · have e : L4.tmps = L3.tmps := by rw [e1]
              rw [e]; exact hTL3.ext hext
        rw [hbx3] at hh3
        cases e2 with
        | normal =>
          simp only [Option.some.injEq, Prod.mk.injEq] at h
          obtain ⟨rfl, rfl⟩ := h
          have s4 := s_leave_done (P := k.P) (b := b) (tm := tm3) (ds := []) (cs := cs) (w := w3) (c := c) hbr hbk hh3
          rw [← hbx3] at s4
          exact ⟨_, _, fin { L3 with state := .ready, pending := none } none true rfl rfl rfl, pre.trans (Steps.trans o3 (.one s4))⟩
        | ret =>
          simp only [Option.some.injEq, Prod.mk.injEq] at h
          obtain ⟨rfl, rfl⟩ := h
          obtain ⟨k', o3⟩ := o3
          have s4 := s_leave_ret (P := k.P) (b := b) (tm := tm3) (ds := []) (k := k') (cs := cs) (w := w3) (c := c) hbr hbk hh3
          rw [← hbx3] at s4
          exact ⟨_, _, fin { L3 with state := .done, pending := some .ret } (some .ret) false rfl rfl rfl, pre.trans (Steps.trans o3 (.one s4))⟩
        | exit id =>
          simp only [Option.some.injEq, Prod.mk.injEq] at h
          obtain ⟨rfl, rfl⟩ := h
          obtain ⟨k', he, o3⟩ := o3
          have s4 := s_leave_exit (P := k.P) (b := b) (tm := tm3) (ds := []) (k := k') (cs := cs) (w := w3) (c := c) hbr hbk he hh3
          rw [← hbx3] at s4
          exact ⟨_, _, fin { L3 with state := .done, pending := some (.exit id) } (some (.exit id)) false rfl rfl rfl, pre.trans (Steps.trans o3 (.one s4))⟩
      | _ => simp [hg3] at h
    · have hlt : g1.box l < w1.heap.size := (Array.getElem?_eq_some_iff.1 hh1).1
      have hext : Ext g1 w1 g1 { w1 with heap := w1.heap.setIfInBounds (g1.box l) (.loop { L1 with state := .busy }) } := by
        refine ⟨rfl, Nat.le_refl _, fun _ _ => rfl, fun _ _ => rfl, fun _ => Nat.le_refl _, fun X i hX => ?_⟩
        refine cell_block ((only_putObj w1 (g1.box l) _).block X (G1.use_lt hX) ?_)
        intro e
        subst e
        omega
      exact ⟨hu1, { L1 with state := .busy }, by simp [hlt], hfn1, hpar1, hasg1, hbod1, by simp [loopState], hpe1, ⟨hwf1.size, hwf1.params, hwf1.assign, hwf1.body, hwf1.nda, hwf1.ndb⟩, hTL1.ext hext⟩
  | _ => simp [hg1] at h
end
end Go.Sv
end
section
set_option linter.all false
/- Calls of any depth. -/
namespace Go.Sv
open Go Go.RowKit

section
variable {w0 : World} {k : K} {g : Gh} {S : St} {w : World}

/-- What is asked of a function that is not stepped through. -/
structure PrimOK (P : Program) (f : FuncId) (p : List SV → St → Option (SV × St)) : Prop where
  ent : ∃ fn body, P.funcs[f]? = some fn ∧ (fn.name == "runtime.NumGoroutine") = false ∧ fn.body = some body
  run : ∀ w0 g S w us args x S', p args S = some (x, S') → G w0 g S w → Rs g w us.toList args → ∀ c cs, ∃ v w', Good w0 S g w x S' v w' ∧ Steps P (lone (Frame.enter P f us .normal) (c :: cs) w) (lone (c.finish v) cs w')

def KP (k : K) : Prop := ∀ f p, k.prim f = some p → PrimOK k.P f p

theorem KS.at (hk : KS k) (f : FuncId) : KS (k.at f) := ⟨hk.pg, hk.mixed, hk.fns, hk.eqT⟩

theorem Closed.at {k : K} {cf : CallF} (h : Closed k cf) (f : FuncId) : Closed (k.at f) cf := ⟨h.pure, h.peek, h.grow⟩

theorem lvl_closed {k : K} (hk : KS k) : ∀ n, Closed k (lvl k n)
  | 0 => ⟨fun f fst cap args S x S' _ _ h => by simp [lvl] at h, fun f fst cap args S x S' _ _ h => by simp [lvl] at h, fun f fst cap args S x S' _ h => by simp [lvl] at h⟩
  | n + 1 => by
    refine ⟨fun f fst cap args S x S' hp hm h => ?_, fun f fst cap args S x S' hp hm h => ?_, fun f fst cap args S x S' hg h => ?_⟩
    · simp only [lvl, hp, hm, Option.bind_eq_some_iff] at h ⊢
      obtain ⟨c, hc, h⟩ := h
      simp only [show ¬ (3 : Nat) = 0 by decide, if_false, if_true, Option.map_eq_some_iff, Prod.mk.injEq] at h
      obtain ⟨r, hr, rfl, rfl⟩ := h
      refine ⟨rfl, fun S2 => ⟨c, hc, ?_⟩⟩
      simp only [show ¬ (3 : Nat) = 0 by decide, if_false, if_true, hr, Option.map_some]
    · simp only [lvl, hp, hm, Option.bind_eq_some_iff, if_true, Option.map_eq_some_iff, Prod.mk.injEq] at h
      obtain ⟨c, hc, r, hr, _, h⟩ := h
      exact h.symm
    · obtain ⟨p, hp, hgr⟩ := hk.pg f hg
      simp only [lvl, hp] at h
      exact hgr _ _ _ _ h

/-- A function that is stepped through, up to where it is left. -/
theorem func_sound (hk : KS k) {n : Nat} (hcf : ∀ w0, CFS w0 k (lvl k n)) (hdf : ∀ w0, DFS w0 k (lvl k n)) {f : FuncId} {fst cap args : List SV} {x : SV} {S' : St} (hp : k.prim f = none) (h : lvl k (n + 1) (.func f fst cap) args S = some (x, S')) (hG : G w0 g S w) {us : Array Value} (ha : Rs g w us.toList (fst ++ args ++ cap)) (kind : CallKind) (cs : List Frame) :
    ∃ fr fn v w', Steps k.P (lone (Frame.enter k.P f us kind) cs w) (lone fr cs w') ∧ fr.fn = f ∧ fr.mode = .returning ∧ fr.defers = [] ∧ fr.kind = kind ∧ k.P.funcs[f]? = some fn ∧ (results fn fr.tmps).run k.P w' = .ok v w' ∧ Good w0 S g w x S' v w' := by
  simp only [lvl, hp, Option.bind_eq_some_iff] at h
  obtain ⟨c, hc, h⟩ := h
  have hka := hk.at f
  have hcl : Closed (k.at f) (lvl k n) := (lvl_closed hk n).at f
  have hcf' : ∀ w0, CFS w0 (k.at f) (lvl k n) := hcf
  have hdf' : ∀ w0, DFS w0 (k.at f) (lvl k n) := hdf
  have hc' : (k.at f).fns f = some c := hc
  split at h
  · simp only [Option.map_eq_some_iff, Prod.mk.injEq] at h
    obtain ⟨⟨y, S1⟩, h, rfl, rfl⟩ := h
    have hG0 : G w0 g { S with floor := S.next } w := ⟨hG.n, Nat.le_refl _, hG.obj, hG.lo, hG.ne, hG.fresh, hG.base, hG.below⟩
    obtain ⟨fr, fn, v, w1, h1, h2, h3, h4, h5, h6, h7, g1, hR, G1, T1⟩ := body_sound hka hcl (hcf' _) (hdf' _) n hc' h hG0 (Rs_weak ha) kind cs
    exact ⟨fr, fn, v, w1, h1, h2, h3, h4, h5, h6, h7, restore hG G1 T1 hR⟩
  split at h
  · simp only [Option.map_eq_some_iff, Prod.mk.injEq] at h
    obtain ⟨⟨y, S1⟩, h, rfl, rfl⟩ := h
    have ha' : Rs (g.cut w) w us.toList ((fst ++ args ++ cap).map fun x => weak (shut x)) := by
      refine ⟨by simp [ha.1], fun i c hi => ?_⟩
      rw [List.getElem?_map, Option.map_eq_some_iff] at hi
      obtain ⟨c', h1, rfl⟩ := hi
      exact R_weak (R_shut (ha.2 i c' h1))
    obtain ⟨fr, fn, v, w1, h1, h2, h3, h4, h5, h6, h7, g1, hR, G1, T1⟩ := body_sound hka hcl (hcf' _) (hdf' _) n hc' h hG.cut ha' kind cs
    exact ⟨fr, fn, v, w1, h1, h2, h3, h4, h5, h6, h7, apart hG G1 T1 hR⟩
  · split at h
    · simp only [Option.map_eq_some_iff, Prod.mk.injEq] at h
      obtain ⟨⟨y, S1⟩, h, rfl, rfl⟩ := h
      obtain ⟨fr, fn, v, w1, h1, h2, h3, h4, h5, h6, h7, g1, hR, G1, T1⟩ := body_sound hka hcl (hcf' _) (hdf' _) n hc' h hG ha kind cs
      exact ⟨fr, fn, v, w1, h1, h2, h3, h4, h5, h6, h7, g1, R_weak hR, G1, T1⟩
    · exact body_sound hka hcl (hcf' _) (hdf' _) n hc' h hG ha kind cs

theorem s_leave_def {P : Program} {fr c : Frame} {cs : List Frame} {fn : Func} {v : Value} {w : World} (hm : fr.mode = .returning) (hd : fr.defers = []) (hk : fr.kind = .deferred) (hf : P.funcs[fr.fn]? = some fn) (hr : (results fn fr.tmps).run P w = .ok v w) (hc : c.mode = .returning) :
    step P (lone fr (c :: cs) w) = .next (lone c cs w) := by
  refine step_lone_go ?_
  simp [stepG, unwind, doReturn, hm, hd, hk, hf, hr, hc, Sem.runT_eq]

theorem lvl_sound (hk : KS k) (hkp : KP k) : ∀ n, ∀ w0, CFS w0 k (lvl k n) ∧ DFS w0 k (lvl k n)
  | 0 => fun w0 => ⟨fun x args S x' S' h => by simp [lvl] at h, fun f args S x' S' _ h => by simp [lvl] at h⟩
  | n + 1 => fun w0 => by
    have ih1 := fun w0 => (lvl_sound hk hkp n w0).1
    have ih2 := fun w0 => (lvl_sound hk hkp n w0).2
    have info : ∀ {f c}, k.fns f = some c → ∃ fn body, k.P.funcs[f]? = some fn ∧ (fn.name == "runtime.NumGoroutine") = false ∧ fn.body = some body := by
      intro f c hc
      obtain ⟨fn, body, h1, h2, h3, h4, h5, h6⟩ := hk.fns f c hc
      exact ⟨fn, body, h1, h4, h3⟩
    refine ⟨?_, ?_⟩
    · intro x args S x' S' h g w u us hG hu ha
      cases x with
      | func f fst cap =>
        obtain ⟨fst', cap', rfl, hr1, hr2⟩ := func_parts hu
        have hrs : Rs g w (fst' ++ us ++ cap').toList (fst ++ args ++ cap) := by
          have := (hr1.append ha).append hr2
          simpa using this
        have ent : ∀ {fn body}, k.P.funcs[f]? = some fn → (fn.name == "runtime.NumGoroutine") = false → fn.body = some body → (callSem (.func (.func f) fst' cap') us).run k.P w = .ok (.enter f (fst' ++ us ++ cap')) w := by
          intro fn body h1 h2 h3
          simp only [callSem, Deferred.ofValue, pure_bind, invoke]
          exact run_callFunc h1 h2 h3
        cases hp : k.prim f with
        | some p =>
          simp only [lvl, hp] at h
          obtain ⟨fn, body, h1, h2, h3⟩ := (hkp f p hp).ent
          exact ⟨_, .inl ⟨_, _, ent h1 h2 h3, rfl⟩, (hkp f p hp).run w0 g S w _ _ x' S' h hG hrs⟩
        | none =>
          have hc : ∃ c, k.fns f = some c := by
            cases hc : k.fns f with
            | some c => exact ⟨c, rfl⟩
            | none => simp [lvl, hp, hc] at h
          obtain ⟨c, hc⟩ := hc
          obtain ⟨fn, body, h1, h2, h3⟩ := info hc
          refine ⟨_, .inl ⟨_, _, ent h1 h2 h3, rfl⟩, fun c cs => ?_⟩
          obtain ⟨fr, fn', v, w1, s1, s2, s3, s4, s5, s6, s7, s8⟩ := func_sound hk ih1 ih2 hp h hG hrs .normal (c :: cs)
          refine ⟨v, w1, s8, s1.trans (.one (step_leave_returned ⟨s3, s4, s5, fn', by rw [s2]; exact s6, s7⟩))⟩
      | yield l =>
        simp only [lvl] at h
        split at h
        · rename_i r hget
          cases hu with
          | yield _ hl => exact round_sound (hk.at r.fn) (cf := lvl k n) ((lvl_closed hk n).at r.fn) (ih1 w0) n hl hget h hG ha
        · cases h
      | _ => simp [lvl] at h
    · intro f args S x' S' hp h g w us hG ha
      have hc : ∃ c, k.fns f = some c := by
        cases hc : k.fns f with
        | some c => exact ⟨c, rfl⟩
        | none => simp [lvl, hp, hc] at h
      obtain ⟨c, hc⟩ := hc
      refine ⟨info hc, fun c cs hm => ?_⟩
      obtain ⟨fr, fn', v, w1, s1, s2, s3, s4, s5, s6, s7, s8⟩ := func_sound hk ih1 ih2 hp h hG (by simpa using ha) .deferred (c :: cs)
      exact ⟨v, w1, s8, s1.trans (.one (s_leave_def s3 s4 s5 (by rw [s2]; exact s6) s7 hm))⟩

/-- The start: no boxes yet. -/
def gh0 (w : World) : Gh := { base := w.heap.size, n := 0, box := fun _ => 0, cap := fun _ => 0, use := fun B => blockSize w B }

theorem G0 (w : World) : G w (gh0 w) St0 w := by
  refine ⟨rfl, Nat.le_refl _, fun b hb => ?_, fun b hb => ?_, fun b b' hb => ?_, fun B hB => ?_, Nat.le_refl _, .refl _ _⟩
  · exact absurd hb (Nat.not_lt_zero _)
  · exact absurd hb (Nat.not_lt_zero _)
  · exact absurd hb (Nat.not_lt_zero _)
  · have : w.heap[B]? = none := Array.getElem?_eq_none hB
    simp [gh0, blockSize, this]

/-- A call from the outside. -/
theorem lvl_calls (hk : KS k) (hkp : KP k) {n : Nat} {f : FuncId} {args : List SV} {x : SV} {S' : St} (hp : k.prim f = none) (h : lvl k n (.func f [] []) args St0 = some (x, S')) (w : World) {us : Array Value} (ha : Rs (gh0 w) w us.toList args) :
    Calls k.P f us w (fun e w' => ∃ v g', e = .returned v ∧ R g' w' v x ∧ Ext (gh0 w) w g' w' ∧ Below w.heap.size w w') := by
  intro cs
  cases n with
  | zero => simp [lvl] at h
  | succ n =>
    have ih1 := fun w0 => (lvl_sound hk hkp n w0).1
    have ih2 := fun w0 => (lvl_sound hk hkp n w0).2
    obtain ⟨fr, fn', v, w1, s1, s2, s3, s4, s5, s6, s7, g1, hR, G1, T1⟩ := func_sound hk ih1 ih2 hp h (G0 w) (by simpa using ha) .normal cs
    refine ⟨.returned v, w1, fr, ⟨v, g1, rfl, hR, T1.ext, ?_⟩, s1, s2, s3, s4, s5, fn', by rw [s2]; exact s6, s7⟩
    have := G1.below
    rw [T1.ext.base] at this
    exact this
end
end Go.Sv
end
