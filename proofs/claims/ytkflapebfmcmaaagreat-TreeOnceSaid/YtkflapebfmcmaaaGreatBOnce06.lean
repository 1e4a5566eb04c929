/- Parts of the proofs of this seat's laws. -/
import Derived.Test.YtkflapebfmcmaaaGreatBOnce05
section
set_option linter.all false
/- Steps of the machine, whatever frame it is: plain or a round. -/
namespace Go.Sv
open Go Go.RowKit

def mk (b : Frame) (tm : Array Value) (ds : List Deferred) (todo : List Item) : Frame := { b with tmps := tm, defers := ds, todo, mode := .run }

section
variable {P : Program} {b : Frame} {tm : Array Value} {ds : List Deferred} {k : List Item} {cs : List Frame} {w : World}

theorem mk_eval (x : Operand) : (mk b tm ds k).eval x = evalT tm x := by cases x <;> rfl
theorem mk_evalf : (mk b tm ds k).eval = evalT tm := funext mk_eval

theorem s_skip : step P (lone (mk b tm ds (.code .skip :: k)) cs w) = .next (lone (mk b tm ds k) cs w) := step_lone_go (by simp [stepG, stepG.exec, mk])
theorem s_inBlock {id : Nat} : step P (lone (mk b tm ds (.inBlock id :: k)) cs w) = .next (lone (mk b tm ds k) cs w) := step_lone_go (by simp [stepG, stepG.exec, mk])
theorem s_seq {x y : Code} : step P (lone (mk b tm ds (.code (.seq x y) :: k)) cs w) = .next (lone (mk b tm ds (.code x :: .code y :: k)) cs w) := step_lone_go (by simp [stepG, stepG.exec, mk])
theorem s_cond {c : Operand} {x y : Code} {t : Bool} (h : evalT tm c = .bool t) : step P (lone (mk b tm ds (.code (.cond c x y) :: k)) cs w) = .next (lone (mk b tm ds (.code (if t then x else y) :: k)) cs w) := step_lone_go (by
  have := mk_eval (b := b) (tm := tm) (ds := ds) (k := .code (.cond c x y) :: k) c
  simp only [mk] at this
  simp [stepG, stepG.exec, mk, this, h])
theorem s_block {id : Nat} {c : Code} : step P (lone (mk b tm ds (.code (.block id c) :: k)) cs w) = .next (lone (mk b tm ds (.code c :: .inBlock id :: k)) cs w) := step_lone_go (by simp [stepG, stepG.exec, mk])
theorem s_loop {c : Code} : step P (lone (mk b tm ds (.code (.loop c) :: k)) cs w) = .next (lone (mk b tm ds (.code c :: .inLoop c :: k)) cs w) := step_lone_go (by simp [stepG, stepG.exec, mk])
theorem s_inLoop {c : Code} : step P (lone (mk b tm ds (.inLoop c :: k)) cs w) = .next (lone (mk b tm ds (.code c :: .inLoop c :: k)) cs w) := step_lone_go (by simp [stepG, stepG.exec, mk])
theorem s_exit {id : Nat} {k' : List Item} (h : exitTo id k = some k') : step P (lone (mk b tm ds (.code (.exit id) :: k)) cs w) = .next (lone (mk b tm ds k') cs w) := step_lone_go (by simp [stepG, stepG.exec, mk, h])
theorem s_region {id : Nat} {ops : Array Oper} : step P (lone (mk b tm ds (.code (.region id ops false) :: k)) cs w) = .next (lone (mk b tm ds (.inRegion ops (List.range ops.size) :: k)) cs w) := step_lone_go (by simp [stepG, stepG.exec, mk])
theorem s_draw {id : Nat} {ops : Array Oper} : step P (lone (mk b tm ds (.code (.region id ops true) :: k)) cs w) = .next (lone (mk b tm ds (.inRegion ops (Region.schedule (P.follows .mixedOrders) ops (w.tape w.drawn (.order b.fn id))) :: k)) cs w.drew) :=
  step_lone_go (by simp [stepG, stepG.exec, mk, choose, Sem.run, Question.forced, Question.cut])
theorem s_regionEnd {ops : Array Oper} : step P (lone (mk b tm ds (.inRegion ops [] :: k)) cs w) = .next (lone (mk b tm ds k) cs w) := step_lone_go (by simp [stepG, stepG.exec, mk])

def putT (tm : Array Value) (d : Option Nat) (v : Value) : Array Value := match d with | some d => tm.setIfInBounds d v | none => tm

theorem mk_finish {ops : Array Oper} {i : Nat} {rest : List Nat} (v : Value) : (mk b tm ds (.inRegion ops (i :: rest) :: k)).finish v = mk b (putT tm ((ops[i]?).bind (·.dst)) v) ds (.inRegion ops rest :: k) := by
  cases h : (ops[i]?).bind (·.dst) <;> simp [Frame.finish, mk, putT, h]

theorem s_unwanted {ops : Array Oper} {i : Nat} {rest : List Nat} (h : ((ops[i]?).map (Region.wanted · (yielded ops tm))).getD false = false) :
    step P (lone (mk b tm ds (.inRegion ops (i :: rest) :: k)) cs w) = .next (lone (mk b (putT tm ((ops[i]?).bind (·.dst)) undef) ds (.inRegion ops rest :: k)) cs w) := by
  rw [← mk_finish]
  exact step_lone_go (by
    have h' := h
    simp only [mk] at *
    simp [stepG, stepG.exec, h'])

theorem g_op {ops : Array Oper} {i : Nat} {rest : List Nat} {o : Oper} (ho : ops[i]? = some o) (hw : Region.wanted o (yielded ops tm) = true) (hr : b.roundOf = none ∨ isDefer o.op = false) :
    stepG P true { frame := mk b tm ds (.inRegion ops (i :: rest) :: k), callers := cs, status := .running, dying := none } w =
      stepG.apply P true (mk b tm ds (.inRegion ops (i :: rest) :: k)) cs none (execOp (evalT tm) o) w := by
  have he := mk_evalf (b := b) (tm := tm) (ds := ds) (k := .inRegion ops (i :: rest) :: k)
  simp only [mk] at he
  simp only [stepG, stepG.exec, mk, ho, Option.map_some, Option.getD_some, hw, if_true, stepG.oper, Frame.oper?, he]
  rcases hr with hr | hr
  · simp [hr]
  · cases hb : b.roundOf with
    | none => simp
    | some l => cases hop : o.op <;> simp_all [isDefer]

theorem s_value {ops : Array Oper} {i : Nat} {rest : List Nat} {o : Oper} {v : Value} {w' : World} (ho : ops[i]? = some o) (hw : Region.wanted o (yielded ops tm) = true) (hr : b.roundOf = none ∨ isDefer o.op = false)
    (h : (execOp (evalT tm) o).run P w = .ok (.value v) w') : step P (lone (mk b tm ds (.inRegion ops (i :: rest) :: k)) cs w) = .next (lone (mk b (putT tm o.dst v) ds (.inRegion ops rest :: k)) cs w') := by
  have hf := mk_finish (b := b) (tm := tm) (ds := ds) (k := k) (ops := ops) (i := i) (rest := rest) v
  rw [ho] at hf
  simp only [Option.bind_some] at hf
  rw [← hf]
  exact step_lone_go (by rw [g_op ho hw hr]; simp [stepG.apply, Sem.runT_eq, h])

theorem s_noval {ops : Array Oper} {i : Nat} {rest : List Nat} {o : Oper} {w' : World} (ho : ops[i]? = some o) (hw : Region.wanted o (yielded ops tm) = true) (hr : b.roundOf = none ∨ isDefer o.op = false)
    (h : (execOp (evalT tm) o).run P w = .ok .skip w') : step P (lone (mk b tm ds (.inRegion ops (i :: rest) :: k)) cs w) = .next (lone (mk b (putT tm o.dst undef) ds (.inRegion ops rest :: k)) cs w') := by
  have hf := mk_finish (b := b) (tm := tm) (ds := ds) (k := k) (ops := ops) (i := i) (rest := rest) undef
  rw [ho] at hf
  simp only [Option.bind_some] at hf
  rw [← hf]
  exact step_lone_go (by rw [g_op ho hw hr]; simp [stepG.apply, Sem.runT_eq, h])

theorem s_defer {ops : Array Oper} {i : Nat} {rest : List Nat} {o : Oper} {d : Deferred} {w' : World} (ho : ops[i]? = some o) (hw : Region.wanted o (yielded ops tm) = true) (hr : b.roundOf = none)
    (h : (execOp (evalT tm) o).run P w = .ok (.defer d) w') : step P (lone (mk b tm ds (.inRegion ops (i :: rest) :: k)) cs w) = .next (lone (mk b (putT tm o.dst undef) (d :: ds) (.inRegion ops rest :: k)) cs w') := by
  have hf := mk_finish (b := b) (tm := tm) (ds := d :: ds) (k := k) (ops := ops) (i := i) (rest := rest) undef
  rw [ho] at hf
  simp only [Option.bind_some] at hf
  rw [← hf]
  exact step_lone_go (by rw [g_op ho hw (.inl hr)]; simp [stepG.apply, Sem.runT_eq, h]; rfl)

/-- A call is begun: the new frame. -/
def Enters (P : Program) (s : Sem Next) (w : World) (fr : Frame) : Prop :=
  (∃ f args, s.run P w = .ok (.enter f args) w ∧ fr = Frame.enter P f args .normal) ∨ (∃ l f tms as bd, s.run P w = .ok (.round l f tms as bd) w ∧ fr = Frame.round l f tms as bd .normal)

theorem s_enter {ops : Array Oper} {i : Nat} {rest : List Nat} {o : Oper} {fr : Frame} (ho : ops[i]? = some o) (hw : Region.wanted o (yielded ops tm) = true) (hr : b.roundOf = none ∨ isDefer o.op = false)
    (h : Enters P (execOp (evalT tm) o) w fr) : step P (lone (mk b tm ds (.inRegion ops (i :: rest) :: k)) cs w) = .next (lone fr (mk b tm ds (.inRegion ops (i :: rest) :: k) :: cs) w) := by
  rcases h with ⟨f, args, h, rfl⟩ | ⟨l, f, tms, as, bd, h, rfl⟩
  · exact step_lone_go (by rw [g_op ho hw hr]; simp [stepG.apply, Sem.runT_eq, h, mk])
  · exact step_lone_go (by rw [g_op ho hw hr]; simp [stepG.apply, Sem.runT_eq, h, mk])

def callSem (u : Value) (us : Array Value) : Sem Next := do let d ← Deferred.ofValue u us; invoke d.target d.args

theorem s_rangeFunc {f : Operand} {params : Array Tmp} {assign body : Code} {nf : Frame} (hr : b.roundOf = none)
    (h : Enters P (callSem (evalT tm f) #[.func (.yield (w.heap.size + 1)) #[] #[]]) ((w.alloc (.deferred (some []))).alloc (.loop { state := .ready, pending := none, fn := b.fn, tmps := tm, params, assign, body, defers := w.heap.size })) nf) :
    step P (lone (mk b tm ds (.code (.rangeFunc f params assign body) :: k)) cs w) = .next (lone nf (mk b tm ({ target := .collected w.heap.size, args := #[] } :: ds) (.inRangeFunc (w.heap.size + 1) :: k) :: cs)
      ((w.alloc (.deferred (some []))).alloc (.loop { state := .ready, pending := none, fn := b.fn, tmps := tm, params, assign, body, defers := w.heap.size }))) := by
  refine step_lone_go ?_
  have hE : (Instr.enterLoop b.fn tm params assign body none).run P w = .ok (w.heap.size + 1, [{ target := .collected w.heap.size, args := #[] }]) ((w.alloc (.deferred (some []))).alloc (.loop { state := .ready, pending := none, fn := b.fn, tmps := tm, params, assign, body, defers := w.heap.size })) := by
    simp [Instr.enterLoop]
  have hres : ∀ fr : Frame, fr.tmps = tm → (do let d ← resolve fr.eval { callee := .value f, args := #[.const (.func (.yield (w.heap.size + 1)) #[] #[])], argTypes := #[] } 0; invoke d.target d.args : Sem Next) = callSem (evalT tm f) #[.func (.yield (w.heap.size + 1)) #[] #[]] := by
    intro fr h
    have he : fr.eval = evalT tm := by subst h; funext x; cases x <;> rfl
    rw [he]
    simp [resolve, callSem, evalT]
  rcases h with ⟨fn, args, h, rfl⟩ | ⟨l, fn, tms, as, bd, h, rfl⟩
  · simp only [stepG, stepG.exec, mk, hr, Sem.runT_eq, hE, GStep.bare_after, stepG.apply, if_true]
    rw [hres _ rfl]
    simp only [Sem.runT_eq, h, GStep.bare_after]
    rfl
  · simp only [stepG, stepG.exec, mk, hr, Sem.runT_eq, hE, GStep.bare_after, stepG.apply, if_true]
    rw [hres _ rfl]
    simp only [Sem.runT_eq, h, GStep.bare_after]
    rfl

theorem s_endRangeFunc {l : Nat} {L : Loop} (hl : w.heap[l]? = some (.loop L)) (hb : (L.state == LoopState.busy) = false) :
    step P (lone (mk b tm ds (.endRangeFunc l :: k)) cs w) = .next (lone (mk b tm ds ((L.pending.map Item.code).toList ++ k)) cs { w with heap := w.heap.setIfInBounds l (.loop { L with state := .exhausted }) }) := by
  refine step_lone_go ?_
  have hE : (Instr.endLoop l).run P w = .ok L.pending { w with heap := w.heap.setIfInBounds l (.loop { L with state := .exhausted }) } := by
    have hb' : ¬ L.state = LoopState.busy := by intro h; rw [h] at hb; exact absurd hb (by decide)
    simp [Instr.endLoop, Instr.getLoop, getObj, setObj, Sem.run, hl, hb']
  simp [stepG, stepG.exec, mk, Sem.runT_eq, hE]
end
end Go.Sv
end
section
set_option linter.all false
/- A region's operations, one behind the other. -/
namespace Go.Sv
open Go Go.RowKit

def DfR (g : Gh) (w : World) (d : Deferred) : Df → Prop
  | .coll i => i < g.n ∧ d.target = .collected (g.box i)
  | .call f args => ∃ cap, d.target = .fn (.func f) cap ∧ Rs g w (d.args.toList ++ cap.toList) args

def DsR (g : Gh) (w : World) : List Deferred → List Df → Prop
  | [], [] => True
  | d :: r, x :: s => DfR g w d x ∧ DsR g w r s
  | _, _ => False

theorem DfR.ext {g g' : Gh} {w w' : World} {d : Deferred} {x : Df} (h : DfR g w d x) (e : Ext g w g' w') : DfR g' w' d x := by
  cases x with
  | coll i => exact ⟨Nat.lt_of_lt_of_le h.1 e.n, by rw [e.box i h.1]; exact h.2⟩
  | call f args => obtain ⟨cap, h1, h2⟩ := h; exact ⟨cap, h1, h2.ext e⟩
theorem DsR.ext {g g' : Gh} {w w' : World} : ∀ {ds : List Deferred} {xs : List Df}, DsR g w ds xs → Ext g w g' w' → DsR g' w' ds xs
  | [], [], _, _ => trivial
  | _ :: _, _ :: _, h, e => ⟨h.1.ext e, h.2.ext e⟩

def CallOK (P : Program) (s : Sem Next) (w : World) (Q : Value → World → Prop) : Prop :=
  ∃ fr, Enters P s w fr ∧ ∀ c cs, ∃ v w', Q v w' ∧ Steps P (lone fr (c :: cs) w) (lone (c.finish v) cs w')

section
variable {w0 : World} {k : K}

/-- The calls are as told. -/
def CFS (w0 : World) (k : K) (cf : CallF) : Prop := ∀ x args S x' S', cf x args S = some (x', S') → ∀ g w u us, G w0 g S w → R g w u x → Rs g w us.toList args → CallOK k.P (callSem u us) w (Good w0 S g w x' S')

variable {g : Gh} {S : St} {w : World}

theorem RT.put {tm : Array Value} {ρ : Nat → SV} (h : RT g w tm ρ) {d : Option Nat} {v : Value} {x : SV} (hd : d.all (· < tm.size) = true) (hv : R g w v x) (ds : List Df) : RT g w (putT tm d v) (Fr.put ⟨ρ, ds⟩ d x).ρ := by
  cases d with
  | none => exact h
  | some d =>
    have hd : d < tm.size := by simpa using hd
    intro t
    simp only [putT, Fr.put, upd]
    by_cases e : t = d
    · subst e; simp [Array.getD, hd]; exact hv
    · rw [if_neg e]
      have := h t
      have e' : (tm.setIfInBounds d v).getD t undef = tm.getD t undef := by
        by_cases ht : t < tm.size <;> simp [Array.getD, ht, Array.getElem_setIfInBounds, Ne.symm e]
      rw [e']; exact this

theorem putT_size (tm : Array Value) (d : Option Nat) (v : Value) : (putT tm d v).size = tm.size := by cases d <;> simp [putT]

theorem wanted_sound {tm : Array Value} {ρ : Nat → SV} (h : RT g w tm ρ) (hsz : tm.size ≤ 1000000) {ops : Array Oper} {o : Oper} {t : Nat} {want : Bool} (hg : compGuard ops o = some (t, want)) :
    (∀ b, ρ t = .v (.bool b) → Region.wanted o (yielded ops tm) = (b == want)) ∧ ((∀ b, ρ t ≠ .v (.bool b)) → ρ t ≠ .top → Region.wanted o (yielded ops tm) = false) := by
  unfold compGuard at hg
  cases hgo : o.guard with
  | none => simp [hgo] at hg
  | some p =>
    obtain ⟨j, w1⟩ := p
    simp only [hgo, Option.some.injEq, Prod.mk.injEq] at hg
    obtain ⟨ht, rfl⟩ := hg
    have hR := h t
    have hy : yielded ops tm j = match tm[t]? with | some (.bool b) => some b | _ => none := by
      unfold yielded
      cases hd : (ops[j]?).bind (·.dst) with
      | none =>
        simp only [hd, Option.getD_none] at ht
        have : tm[t]? = none := by rw [← ht]; exact Array.getElem?_eq_none hsz
        simp [this]
      | some d =>
        simp only [hd, Option.getD_some] at ht
        subst ht; rfl
    unfold Region.wanted
    simp only [hgo, hy]
    by_cases hlt : t < tm.size
    · have e : tm.getD t undef = tm[t] := by simp [Array.getD, hlt]
      rw [e] at hR
      have e2 : tm[t]? = some tm[t] := Array.getElem?_eq_getElem hlt
      rw [e2]
      generalize tm[t] = u at hR
      refine ⟨fun b hb => ?_, fun hb ht => ?_⟩
      · rw [hb] at hR; cases hR; rfl
      · cases hx : ρ t with
        | v u' =>
          rw [hx] at hR; cases hR
          cases u <;> simp_all
        | top => exact (ht hx).elim
        | _ => rw [hx] at hR; cases hR <;> rfl
    · have e : tm.getD t undef = undef := by simp [Array.getD, hlt]
      rw [e] at hR
      have e2 : tm[t]? = none := Array.getElem?_eq_none (by omega)
      rw [e2]
      refine ⟨fun b hb => ?_, fun hb ht => rfl⟩
      rw [hb] at hR; cases hR

theorem compGuard_none {ops : Array Oper} {o : Oper} (h : compGuard ops o = none) : o.guard = none := by
  unfold compGuard at h
  cases hg : o.guard with
  | none => rfl
  | some p => obtain ⟨j, w⟩ := p; simp [hg] at h

theorem args_rs {tm : Array Value} {ρ : Nat → SV} (hT : RT g w tm ρ) (args : Array Operand) : Rs g w (args.map (evalT tm)).toList (args.toList.map (ev ρ)) := by
  have := rs_of_map hT args.toList
  simpa using this

theorem func_parts {u : Value} {f : FuncId} {fst cap : List SV} (h : R g w u (.func f fst cap)) : ∃ fst' cap', u = .func (.func f) fst' cap' ∧ Rs g w fst'.toList fst ∧ Rs g w cap'.toList cap := by
  cases h with
  | func f fst cap fst' cap' h1 h2 h3 h4 =>
    exact ⟨fst', cap', rfl, ⟨by simpa using h1, fun i c hi => by rw [← getD_list]; exact h2 i c hi⟩, ⟨by simpa using h3, fun i c hi => by rw [← getD_list]; exact h4 i c hi⟩⟩

theorem Rs.append {a b : List Value} {x y : List SV} (h : Rs g w a x) (k : Rs g w b y) : Rs g w (a ++ b) (x ++ y) := by
  refine ⟨by simp [h.1, k.1], fun i c hi => ?_⟩
  by_cases hl : i < x.length
  · rw [List.getElem?_append_left hl] at hi
    have : (a ++ b).getD i undef = a.getD i undef := by simp [List.getD, List.getElem?_append_left (show i < a.length by rw [h.1]; exact hl)]
    rw [this]; exact h.2 i c hi
  · rw [List.getElem?_append_right (by omega)] at hi
    have : (a ++ b).getD i undef = b.getD (i - x.length) undef := by simp [List.getD, List.getElem?_append_right (show a.length ≤ i by rw [h.1]; omega), h.1]
    rw [this]; exact k.2 _ c hi

/-- The operations of a region, in the order of a list. -/
theorem ops_sound (hk : KS k) {cf : CallF} (hcf : CFS w0 k cf) {b : Frame} {ops : Array Oper} (hdef : b.roundOf = none ∨ ∀ o ∈ ops, isDefer o.op = false) : ∀ (is : List Nat) (tm : Array Value) (ρ : Nat → SV) (ds' : List Deferred) (ds : List Df) (g : Gh) (S : St) (w : World) (fr' : Fr) (S' : St),
    evOps k cf (is.filterMap fun i => (ops[i]?).map (compOp ops)) ⟨ρ, ds⟩ S = some (fr', S') → G w0 g S w → RT g w tm ρ → DsR g w ds' ds → tm.size ≤ 1000000 → (∀ o ∈ ops, o.dst.all (· < tm.size) = true) →
    ∀ kk cs, ∃ g' w' tm' ds1, Steps k.P (lone (mk b tm ds' (.inRegion ops is :: kk)) cs w) (lone (mk b tm' ds1 kk) cs w') ∧ G w0 g' S' w' ∧ Tr S g w S' g' w' ∧ RT g' w' tm' fr'.ρ ∧ DsR g' w' ds1 fr'.ds ∧ tm'.size = tm.size
  | [], tm, ρ, ds', ds, g, S, w, fr', S', h, hG, hT, hD, hsz, hdst, kk, cs => by
    simp only [List.filterMap_nil, evOps, Option.some.injEq, Prod.mk.injEq] at h
    obtain ⟨rfl, rfl⟩ := h
    exact ⟨g, w, tm, ds', .one s_regionEnd, hG, .refl .., hT, hD, rfl⟩
  | i :: is, tm, ρ, ds', ds, g, S, w, fr', S', h, hG, hT, hD, hsz, hdst, kk, cs => by
    have ih := ops_sound hk hcf (b := b) hdef is
    have hfl : S.floor ≤ g.n := by rw [hG.n]; exact hG.floor
    cases ho : ops[i]? with
    | none =>
      have hs := s_unwanted (P := k.P) (b := b) (tm := tm) (ds := ds') (k := kk) (cs := cs) (w := w) (ops := ops) (i := i) (rest := is) (by simp [ho])
      simp only [ho, Option.bind_none, putT] at hs
      simp only [List.filterMap_cons, ho, Option.map_none] at h
      obtain ⟨g', w', tm', ds1, h1, h2⟩ := ih tm ρ ds' ds g S w fr' S' h hG hT hD hsz hdst kk cs
      exact ⟨g', w', tm', ds1, .head hs h1, h2⟩
    | some o =>
      have hmem : o ∈ ops := Array.mem_of_getElem? ho
      have hod := hdst o hmem
      have hrd : b.roundOf = none ∨ isDefer o.op = false := hdef.imp id (fun h => h o hmem)
      simp only [List.filterMap_cons, ho, Option.map_some, evOps] at h
      -- the way on
      have onward : ∀ (x : SV) (u : Value) (g1 : Gh) (S1 : St) (w1 : World) (dsA : List Deferred) (dsB : List Df), evOps k cf (is.filterMap fun i => (ops[i]?).map (compOp ops)) (Fr.put ⟨ρ, dsB⟩ o.dst x) S1 = some (fr', S') →
          G w0 g1 S1 w1 → Tr S g w S1 g1 w1 → R g1 w1 u x → DsR g1 w1 dsA dsB → Steps k.P (lone (mk b tm ds' (.inRegion ops (i :: is) :: kk)) cs w) (lone (mk b (putT tm o.dst u) dsA (.inRegion ops is :: kk)) cs w1) →
          ∃ g' w' tm' ds1, Steps k.P (lone (mk b tm ds' (.inRegion ops (i :: is) :: kk)) cs w) (lone (mk b tm' ds1 kk) cs w') ∧ G w0 g' S' w' ∧ Tr S g w S' g' w' ∧ RT g' w' tm' fr'.ρ ∧ DsR g' w' ds1 fr'.ds ∧ tm'.size = tm.size := by
        intro x u g1 S1 w1 dsA dsB he hG1 hT1 hR hDD hst
        have hT' := (hT.ext hT1.ext).put (d := o.dst) hod hR dsB
        have hds : (Fr.put ⟨ρ, dsB⟩ o.dst x).ds = dsB := by cases o.dst <;> rfl
        have he' : evOps k cf (is.filterMap fun i => (ops[i]?).map (compOp ops)) ⟨(Fr.put ⟨ρ, dsB⟩ o.dst x).ρ, dsB⟩ S1 = some (fr', S') := by
          rw [← he]; congr 1; cases o.dst <;> rfl
        obtain ⟨g', w', tm', ds1, h1, h2, h3, h4, h5, h6⟩ := ih (putT tm o.dst u) _ dsA dsB g1 S1 w1 fr' S' he' hG1 hT' hDD (by rw [putT_size]; exact hsz) (fun o ho => by rw [putT_size]; exact hdst o ho) kk cs
        exact ⟨g', w', tm', ds1, hst.trans h1, h2, hT1.trans h3 hfl, h4, h5, by rw [h6, putT_size]⟩
      have skipped : Region.wanted o (yielded ops tm) = false → evOps k cf (is.filterMap fun i => (ops[i]?).map (compOp ops)) (Fr.put ⟨ρ, ds⟩ o.dst (.v undef)) S = some (fr', S') →
          ∃ g' w' tm' ds1, Steps k.P (lone (mk b tm ds' (.inRegion ops (i :: is) :: kk)) cs w) (lone (mk b tm' ds1 kk) cs w') ∧ G w0 g' S' w' ∧ Tr S g w S' g' w' ∧ RT g' w' tm' fr'.ρ ∧ DsR g' w' ds1 fr'.ds ∧ tm'.size = tm.size := by
        intro hw he
        have hs := s_unwanted (P := k.P) (b := b) (tm := tm) (ds := ds') (k := kk) (cs := cs) (w := w) (ops := ops) (i := i) (rest := is) (by simp [ho, hw])
        simp only [ho, Option.bind_some] at hs
        exact onward _ _ g S w ds' ds he hG (.refl ..) (.v undef) hD (.one hs)
      have went : Region.wanted o (yielded ops tm) = true → (match (compOp ops o).op with
          | .call { callee := .value f, args, .. } => (cf (ev ρ f) (args.toList.map (ev ρ)) S).bind fun (x, S') => evOps k cf (is.filterMap fun i => (ops[i]?).map (compOp ops)) (Fr.put ⟨ρ, ds⟩ (compOp ops o).dst x) S'
          | .defer { callee := .value f, args, .. } =>
            match ev ρ f with
            | .func g fst cap => evOps k cf (is.filterMap fun i => (ops[i]?).map (compOp ops)) (Fr.put ⟨ρ, .call g (fst ++ args.toList.map (ev ρ) ++ cap) :: ds⟩ (compOp ops o).dst (.v undef)) S
            | _ => none
          | _ => (evOpF k (compOp ops o) ρ S).bind fun (x, S') => evOps k cf (is.filterMap fun i => (ops[i]?).map (compOp ops)) (Fr.put ⟨ρ, ds⟩ (compOp ops o).dst x) S') = some (fr', S') →
          ∃ g' w' tm' ds1, Steps k.P (lone (mk b tm ds' (.inRegion ops (i :: is) :: kk)) cs w) (lone (mk b tm' ds1 kk) cs w') ∧ G w0 g' S' w' ∧ Tr S g w S' g' w' ∧ RT g' w' tm' fr'.ρ ∧ DsR g' w' ds1 fr'.ds ∧ tm'.size = tm.size := by
        intro hw he
        split at he
        · rename_i f args ats hop
          simp only [Option.bind_eq_some_iff] at he
          obtain ⟨⟨x, S1⟩, hc, he⟩ := he
          obtain ⟨nf, hent, hgo⟩ := hcf _ _ _ _ _ hc g w _ _ hG (ev_sound hT f) (args_rs hT args)
          have hop' : o.op = .call { callee := .value f, args, argTypes := ats } := hop
          have hex : execOp (evalT tm) o = callSem (evalT tm f) (args.map (evalT tm)) := by simp [execOp, hop', resolve, callSem]
          obtain ⟨v, w1, ⟨g1, hR, hG1, hT1⟩, hst⟩ := hgo (mk b tm ds' (.inRegion ops (i :: is) :: kk)) cs
          have hf := mk_finish (b := b) (tm := tm) (ds := ds') (k := kk) (ops := ops) (i := i) (rest := is) v
          rw [ho] at hf
          simp only [Option.bind_some] at hf
          rw [hf] at hst
          exact onward x v g1 S1 w1 ds' ds he hG1 hT1 hR (hD.ext hT1.ext) (.head (s_enter ho hw hrd (by rw [hex]; exact hent)) hst)
        · rename_i f args ats hop
          have hop' : o.op = .defer { callee := .value f, args, argTypes := ats } := hop
          have hro : b.roundOf = none := by
            rcases hrd with h | h
            · exact h
            · rw [hop'] at h; simp [isDefer] at h
          split at he
          · rename_i g1 fst cap hev
            have hf := ev_sound hT f
            rw [hev] at hf
            obtain ⟨fst', cap', hu, hr1, hr2⟩ := func_parts hf
            have hex : (execOp (evalT tm) o).run k.P w = .ok (.defer { target := .fn (.func g1) cap', args := fst' ++ args.map (evalT tm) }) w := by
              simp [execOp, hop', resolve, hu, Deferred.ofValue]
            refine onward (.v undef) undef g S w ({ target := .fn (.func g1) cap', args := fst' ++ args.map (evalT tm) } :: ds') _ he hG (.refl ..) (.v undef) ⟨⟨cap', rfl, ?_⟩, hD⟩ (.one (s_defer ho hw hro hex))
            have := (hr1.append (args_rs hT args)).append hr2
            simpa using this
          · cases he
        · simp only [Option.bind_eq_some_iff] at he
          obtain ⟨⟨x, S1⟩, hev, he⟩ := he
          obtain ⟨w1, ⟨u, hrun, g1, hR, hG1, hT1⟩ | ⟨hrun, g1, hR, hG1, hT1⟩⟩ := evOpF_sound hk hG hT (o := o) rfl hev
          · exact onward x u g1 S1 w1 ds' ds he hG1 hT1 hR (hD.ext hT1.ext) (.one (s_value ho hw hrd hrun))
          · exact onward x undef g1 S1 w1 ds' ds he hG1 hT1 hR (hD.ext hT1.ext) (.one (s_noval ho hw hrd hrun))
      split at h
      · rename_i hg
        have hgn := compGuard_none (ops := ops) hg
        exact went (by simp [Region.wanted, hgn]) h
      · rename_i t want hg
        have hws := wanted_sound hT hsz (ops := ops) (o := o) hg
        split at h
        · cases h
        · rename_i bb hb
          split at h
          · rename_i hbw
            subst hbw
            exact went (by rw [hws.1 bb hb]; simp) h
          · rename_i hbw
            exact skipped (by rw [hws.1 bb hb]; simpa using hbw) h
        · rename_i h1 h2
          exact skipped (hws.2 (fun b hb => h2 b hb) h1) h
end
end Go.Sv
end
section
set_option linter.all false
/- Orders of a region; code. -/
namespace Go.Sv
open Go Go.RowKit

/-! #### the orders that the machine draws -/
structure LInv (ops : Array Oper) (listed : Array Bool) (acc : List Nat) : Prop where
  size : listed.size = ops.size
  mem : ∀ i, i < ops.size → (listed.getD i true = true ↔ i ∈ acc)
  lt : ∀ i ∈ acc, i < ops.size
  nodup : acc.Nodup
  ord : ∀ (l₁ : List Nat) (i : Nat) (l₂ : List Nat), acc.reverse = l₁ ++ i :: l₂ → ∀ d ∈ (ops.toList.map compDeps).getD i [], d ∈ l₁

theorem deps_get (ops : Array Oper) (i : Nat) (o : Oper) (h : ops[i]? = some o) : (ops.toList.map compDeps).getD i [] = compDeps o := by
  simp [List.getD, h]

theorem len_le_of_nodup : ∀ (n : Nat) (l : List Nat), l.Nodup → (∀ i ∈ l, i < n) → l.length ≤ n
  | 0, l, _, h => by
    cases l with
    | nil => simp
    | cons a r => exact absurd (h a (by simp)) (by omega)
  | n + 1, l, hn, h => by
    have h1 := len_le_of_nodup n (l.erase n) (hn.erase n) (fun i hi => by
      have h2 := h i (List.mem_of_mem_erase hi)
      have h3 : i ≠ n := fun e => by subst e; exact (List.Nodup.not_mem_erase hn) hi
      omega)
    have : l.length ≤ (l.erase n).length + 1 := by
      rw [List.length_erase]; split <;> omega
    omega

theorem all_of_len : ∀ (n : Nat) (l : List Nat), l.Nodup → (∀ i ∈ l, i < n) → l.length = n → ∀ i, i < n → i ∈ l := by
  intro n l hn h hl i hi
  rcases Classical.em (i ∈ l) with hm | hm
  · exact hm
  · have h2 := len_le_of_nodup n (i :: l) (List.nodup_cons.2 ⟨hm, hn⟩) (fun j hj => by
      rcases List.mem_cons.1 hj with rfl | hj
      · exact hi
      · exact h j hj)
    simp at h2; omega

theorem nodup_rev {l : List Nat} (h : l.Nodup) : l.reverse.Nodup := by
  unfold List.Nodup at h ⊢
  rw [List.pairwise_reverse]
  exact h.imp (fun h e => h e.symm)

theorem sub_len : ∀ (l m : List Nat), l.Nodup → (∀ i ∈ l, i ∈ m) → l.length ≤ m.length
  | [], m, _, _ => by simp
  | a :: r, m, hn, h => by
    obtain ⟨h1, h2⟩ := List.nodup_cons.1 hn
    have ha := h a (by simp)
    have := sub_len r (m.erase a) h2 (fun i hi => by
      have hne : i ≠ a := fun e => by subst e; exact h1 hi
      exact (List.mem_erase_of_ne hne).2 (h i (by simp [hi])))
    rw [List.length_erase_of_mem ha] at this
    have : 0 < m.length := List.length_pos_of_mem ha
    simp; omega

theorem getD_bool {a : Array Bool} {i : Nat} (h : i < a.size) : a.getD i false = a.getD i true := by simp [Array.getD, h]

theorem fm_congr {α β : Type} {f g : α → Option β} : ∀ (l : List α), (∀ i ∈ l, f i = g i) → l.filterMap f = l.filterMap g
  | [], _ => rfl
  | a :: r, h => by
    rw [List.filterMap_cons, List.filterMap_cons, h a (by simp), fm_congr r (fun i hi => h i (by simp [hi]))]

theorem go_lin (ops : Array Oper) (hlow : ∀ i, ∀ d ∈ (ops.toList.map compDeps).getD i [], d < i) : ∀ (fuel t : Nat) (listed : Array Bool) (acc : List Nat), LInv ops listed acc → fuel + acc.length = ops.size → LinExt (ops.toList.map compDeps) (Region.linearise.go .any ops fuel t listed acc)
  | 0, t, listed, acc, h, hl => by
    simp only [Region.linearise.go]
    refine ⟨nodup_rev h.nodup, fun i => ?_, h.ord⟩
    simp only [List.mem_reverse, List.length_map, Array.length_toList]
    exact ⟨h.lt i, fun hi => all_of_len _ _ h.nodup h.lt (by omega) i hi⟩
  | fuel + 1, t, listed, acc, h, hl => by
    simp only [Region.linearise.go]
    generalize hrs : (List.range ops.size).filter _ = rs
    -- some operation is ready
    have hne : rs ≠ [] := by
      have hex : ∃ i, i < ops.size ∧ i ∉ acc := by
        rcases Classical.em (∃ i, i < ops.size ∧ i ∉ acc) with h1 | h1
        · exact h1
        · have hall : ∀ i ∈ List.range ops.size, i ∈ acc := fun i hi => by
            rcases Classical.em (i ∈ acc) with h2 | h2
            · exact h2
            · exact (h1 ⟨i, List.mem_range.1 hi, h2⟩).elim
          have : ops.size ≤ acc.length := by
            have := sub_len _ acc List.nodup_range hall
            simpa using this
          omega
      have hmin : ∃ i, (i < ops.size ∧ i ∉ acc) ∧ ∀ j, j < i → ¬ (j < ops.size ∧ j ∉ acc) := by
        obtain ⟨i, hi⟩ := hex
        induction i using Nat.strongRecOn with
        | _ i ih =>
          rcases Classical.em (∃ j, j < i ∧ j < ops.size ∧ j ∉ acc) with ⟨j, hj, hj'⟩ | hno
          · exact ih j hj hj'
          · exact ⟨i, hi, fun j hj hj' => hno ⟨j, hj, hj'⟩⟩
      obtain ⟨i, ⟨hi, hia⟩, hm⟩ := hmin
      intro hr
      have : i ∈ (List.range ops.size).filter fun i => !listed.getD i true && ((ops[i]?).map (·.after.all fun e => !Region.binds .any e || listed.getD e.on false)).getD false := by
        rw [List.mem_filter]
        refine ⟨List.mem_range.2 hi, ?_⟩
        have hni : listed.getD i true = false := by
          cases hb : listed.getD i true with
          | false => rfl
          | true => exact (hia ((h.mem i hi).1 hb)).elim
        have hoi : ops[i]? = some ops[i] := Array.getElem?_eq_getElem hi
        simp only [hni, hoi, Option.map_some, Option.getD_some, Bool.not_false, Bool.true_and, Array.all_eq_true_iff_forall_mem]
        intro e he
        cases hb : Region.binds .any e with
        | false => rfl
        | true =>
          have hd : e.on ∈ (ops.toList.map compDeps).getD i [] := by
            rw [deps_get ops i _ hoi]
            exact List.mem_map.2 ⟨e, List.mem_filter.2 ⟨by simpa using he, hb⟩, rfl⟩
          have hlt := hlow i _ hd
          have hacc : e.on ∈ acc := by
            rcases Classical.em (e.on ∈ acc) with h2 | h2
            · exact h2
            · exact (hm e.on hlt ⟨by omega, h2⟩).elim
          have := (h.mem e.on (by omega)).2 hacc
          have hs : e.on < listed.size := by rw [h.size]; omega
          rw [getD_bool hs, this]; rfl
      rw [hrs, hr] at this
      cases this
    have hlen : 0 < rs.length := List.length_pos_iff.2 hne
    have hget : rs[t % rs.length]? = some (rs[t % rs.length]'(Nat.mod_lt _ hlen)) := List.getElem?_eq_getElem _
    rw [hget]
    simp only []
    generalize hi : rs[t % rs.length]'(Nat.mod_lt _ hlen) = i
    have him : i ∈ rs := by rw [← hi]; exact List.getElem_mem _
    rw [← hrs, List.mem_filter] at him
    obtain ⟨hir, hic⟩ := him
    have hio : i < ops.size := List.mem_range.1 hir
    have hoi : ops[i]? = some ops[i] := Array.getElem?_eq_getElem hio
    simp only [hoi, Option.map_some, Option.getD_some, Bool.and_eq_true, Bool.not_eq_true', Array.all_eq_true_iff_forall_mem] at hic
    obtain ⟨hnl, hdeps⟩ := hic
    have hni : i ∉ acc := fun hm => by have := (h.mem i hio).2 hm; rw [hnl] at this; cases this
    have his : i < listed.size := by rw [h.size]; exact hio
    refine go_lin ops hlow fuel (t / rs.length) _ (i :: acc) ⟨by simp [h.size], fun j hj => ?_, fun j hj => ?_, List.nodup_cons.2 ⟨hni, h.nodup⟩, ?_⟩ (by simp; omega)
    · have hjs : j < listed.size := by rw [h.size]; exact hj
      by_cases e : j = i
      · subst e; simp [Array.getD, hjs]
      · have := h.mem j hj
        have e2 : (listed.setIfInBounds i true).getD j true = listed.getD j true := by
          rw [Array.getD_eq_getD_getElem?, Array.getD_eq_getD_getElem?, Array.getElem?_setIfInBounds, if_neg (Ne.symm e)]
        rw [e2, this]
        simp [e]
    · rcases List.mem_cons.1 hj with rfl | hj
      · exact hio
      · exact h.lt j hj
    · intro l₁ j l₂ he d hd
      rw [List.reverse_cons] at he
      rcases List.eq_nil_or_concat l₂ with rfl | ⟨l3, x, rfl⟩
      · have := List.append_inj' he rfl
        obtain ⟨rfl, hji⟩ := this
        injection hji with hji
        subst hji
        rw [deps_get ops i _ hoi] at hd
        obtain ⟨e, he1, rfl⟩ := List.mem_map.1 hd
        obtain ⟨he2, he3⟩ := List.mem_filter.1 he1
        have hl := hdeps e (by simpa using he2)
        rw [he3] at hl
        simp only [Bool.not_true, Bool.false_or] at hl
        have hlt : e.on < listed.size := by
          rcases Nat.lt_or_ge e.on listed.size with h1 | h1
          · exact h1
          · simp [Array.getD, Nat.not_lt.2 h1] at hl
        have := (h.mem e.on (by rw [← h.size]; exact hlt)).1 (by rw [← getD_bool hlt]; exact hl)
        exact List.mem_reverse.2 this
      · rw [List.concat_eq_append, ← List.cons_append, ← List.append_assoc] at he
        have := List.append_inj' he rfl
        exact h.ord l₁ j l3 this.1 d hd

theorem sched_lin (ops : Array Oper) (hlow : ∀ i, ∀ d ∈ (ops.toList.map compDeps).getD i [], d < i) (t : Nat) : LinExt (ops.toList.map compDeps) (Region.schedule true ops t) := by
  simp only [Region.schedule, Bool.true_or, if_true, Region.linearise]
  refine go_lin ops hlow _ t _ [] ⟨by simp, fun i hi => by simp [Array.getD, hi], fun i hi => by simp at hi, List.nodup_nil, fun l₁ i l₂ h => by simp at h⟩ (by simp)

theorem pick_range (ops : Array Oper) : (List.range ops.size).filterMap (fun i => (ops[i]?).map (compOp ops)) = ops.toList.map (compOp ops) := by
  apply List.ext_getElem?
  intro i
  have h : (List.range ops.size).filterMap (fun i => (ops[i]?).map (compOp ops)) = (List.range ops.size).map fun i => ((ops[i]?).map (compOp ops)).getD ⟨none, .alloc 0, 0, none⟩ := by
    rw [← List.filterMap_eq_map]
    apply fm_congr
    intro j hj
    have : j < ops.size := List.mem_range.1 hj
    simp [this]
  rw [h]
  by_cases hi : i < ops.size
  · simp [hi]
  · simp [hi]

theorem pick_ops (ops : Array Oper) (l : List Nat) : pickOps (ops.toList.map (compOp ops)) l = l.filterMap fun i => (ops[i]?).map (compOp ops) := by
  unfold pickOps
  apply fm_congr
  intro i _
  simp
end Go.Sv
end
