/- A part of the proofs of this seat's laws: an interpreter of the program's form, its soundness against the model, or what it answers on this program. -/
/- Steps of the machine, whatever frame it is: plain or a round. -/
import Derived.Test.YtkflapebfmcmaaaGreatSvL
namespace Go.Sv
open Go Go.RowKit

def mk (b : Frame) (tm : Array Value) (ds : List Deferred) (todo : List Item) : Frame := { b with tmps := tm, defers := ds, todo, mode := .run }

section
variable {P : Program} {b : Frame} {tm : Array Value} {ds : List Deferred} {k : List Item} {cs : List Frame} {w : World}

theorem mk_eval (x : Operand) : (mk b tm ds k).eval x = evalT tm x := by cases x <;> rfl
theorem mk_evalf : (mk b tm ds k).eval = evalT tm := funext mk_eval

theorem s_skip : step P (lone (mk b tm ds (.code .skip :: k)) cs w) = .next (lone (mk b tm ds k) cs w) := step_lone_go (by simp [stepG, stepG.exec, mk])
theorem s_inBlock {id : Nat} : step P (lone (mk b tm ds (.inBlock id :: k)) cs w) = .next (lone (mk b tm ds k) cs w) := step_lone_go (by simp [stepG, stepG.exec, mk])
theorem s_seq {x y : Code} : step P (lone (mk b tm ds (.code (.seq x y) :: k)) cs w) = .next (lone (mk b tm ds (.code x :: .code y :: k)) cs w) := step_lone_go (by simp [stepG, stepG.exec, mk])
theorem s_cond {c : Operand} {x y : Code} {t : Bool} (h : evalT tm c = .bool t) : step P (lone (mk b tm ds (.code (.cond c x y) :: k)) cs w) = .next (lone (mk b tm ds (.code (if t then x else y) :: k)) cs w) := step_lone_go (by
  have := mk_eval (b := b) (tm := tm) (ds := ds) (k := .code (.cond c x y) :: k) c
  simp only [mk] at this
  simp [stepG, stepG.exec, mk, this, h])
theorem s_block {id : Nat} {c : Code} : step P (lone (mk b tm ds (.code (.block id c) :: k)) cs w) = .next (lone (mk b tm ds (.code c :: .inBlock id :: k)) cs w) := step_lone_go (by simp [stepG, stepG.exec, mk])
theorem s_loop {c : Code} : step P (lone (mk b tm ds (.code (.loop c) :: k)) cs w) = .next (lone (mk b tm ds (.code c :: .inLoop c :: k)) cs w) := step_lone_go (by simp [stepG, stepG.exec, mk])
theorem s_inLoop {c : Code} : step P (lone (mk b tm ds (.inLoop c :: k)) cs w) = .next (lone (mk b tm ds (.code c :: .inLoop c :: k)) cs w) := step_lone_go (by simp [stepG, stepG.exec, mk])
theorem s_exit {id : Nat} {k' : List Item} (h : exitTo id k = some k') : step P (lone (mk b tm ds (.code (.exit id) :: k)) cs w) = .next (lone (mk b tm ds k') cs w) := step_lone_go (by simp [stepG, stepG.exec, mk, h])
theorem s_region {id : Nat} {ops : Array Oper} : step P (lone (mk b tm ds (.code (.region id ops false) :: k)) cs w) = .next (lone (mk b tm ds (.inRegion ops (List.range ops.size) :: k)) cs w) := step_lone_go (by simp [stepG, stepG.exec, mk])
theorem s_draw {id : Nat} {ops : Array Oper} : step P (lone (mk b tm ds (.code (.region id ops true) :: k)) cs w) = .next (lone (mk b tm ds (.inRegion ops (Region.schedule (P.follows .mixedOrders) ops (w.tape w.drawn (.order b.fn id))) :: k)) cs w.drew) :=
  step_lone_go (by simp [stepG, stepG.exec, mk, choose, Sem.run, Question.forced, Question.cut])
theorem s_regionEnd {ops : Array Oper} : step P (lone (mk b tm ds (.inRegion ops [] :: k)) cs w) = .next (lone (mk b tm ds k) cs w) := step_lone_go (by simp [stepG, stepG.exec, mk])

def putT (tm : Array Value) (d : Option Nat) (v : Value) : Array Value := match d with | some d => tm.setIfInBounds d v | none => tm

theorem mk_finish {ops : Array Oper} {i : Nat} {rest : List Nat} (v : Value) : (mk b tm ds (.inRegion ops (i :: rest) :: k)).finish v = mk b (putT tm ((ops[i]?).bind (·.dst)) v) ds (.inRegion ops rest :: k) := by
  cases h : (ops[i]?).bind (·.dst) <;> simp [Frame.finish, mk, putT, h]

theorem s_unwanted {ops : Array Oper} {i : Nat} {rest : List Nat} (h : ((ops[i]?).map (Region.wanted · (yielded ops tm))).getD false = false) :
    step P (lone (mk b tm ds (.inRegion ops (i :: rest) :: k)) cs w) = .next (lone (mk b (putT tm ((ops[i]?).bind (·.dst)) undef) ds (.inRegion ops rest :: k)) cs w) := by
  rw [← mk_finish]
  exact step_lone_go (by
    have h' := h
    simp only [mk] at *
    simp [stepG, stepG.exec, h'])

theorem g_op {ops : Array Oper} {i : Nat} {rest : List Nat} {o : Oper} (ho : ops[i]? = some o) (hw : Region.wanted o (yielded ops tm) = true) (hr : b.roundOf = none ∨ isDefer o.op = false) :
    stepG P true { frame := mk b tm ds (.inRegion ops (i :: rest) :: k), callers := cs, status := .running, dying := none } w =
      stepG.apply P true (mk b tm ds (.inRegion ops (i :: rest) :: k)) cs none (execOp (evalT tm) o) w := by
  have he := mk_evalf (b := b) (tm := tm) (ds := ds) (k := .inRegion ops (i :: rest) :: k)
  simp only [mk] at he
  simp only [stepG, stepG.exec, mk, ho, Option.map_some, Option.getD_some, hw, if_true, stepG.oper, Frame.oper?, he]
  rcases hr with hr | hr
  · simp [hr]
  · cases hb : b.roundOf with
    | none => simp
    | some l => cases hop : o.op <;> simp_all [isDefer]

theorem s_value {ops : Array Oper} {i : Nat} {rest : List Nat} {o : Oper} {v : Value} {w' : World} (ho : ops[i]? = some o) (hw : Region.wanted o (yielded ops tm) = true) (hr : b.roundOf = none ∨ isDefer o.op = false)
    (h : (execOp (evalT tm) o).run P w = .ok (.value v) w') : step P (lone (mk b tm ds (.inRegion ops (i :: rest) :: k)) cs w) = .next (lone (mk b (putT tm o.dst v) ds (.inRegion ops rest :: k)) cs w') := by
  have hf := mk_finish (b := b) (tm := tm) (ds := ds) (k := k) (ops := ops) (i := i) (rest := rest) v
  rw [ho] at hf
  simp only [Option.bind_some] at hf
  rw [← hf]
  exact step_lone_go (by rw [g_op ho hw hr]; simp [stepG.apply, Sem.runT_eq, h])

theorem s_noval {ops : Array Oper} {i : Nat} {rest : List Nat} {o : Oper} {w' : World} (ho : ops[i]? = some o) (hw : Region.wanted o (yielded ops tm) = true) (hr : b.roundOf = none ∨ isDefer o.op = false)
    (h : (execOp (evalT tm) o).run P w = .ok .skip w') : step P (lone (mk b tm ds (.inRegion ops (i :: rest) :: k)) cs w) = .next (lone (mk b (putT tm o.dst undef) ds (.inRegion ops rest :: k)) cs w') := by
  have hf := mk_finish (b := b) (tm := tm) (ds := ds) (k := k) (ops := ops) (i := i) (rest := rest) undef
  rw [ho] at hf
  simp only [Option.bind_some] at hf
  rw [← hf]
  exact step_lone_go (by rw [g_op ho hw hr]; simp [stepG.apply, Sem.runT_eq, h])

theorem s_defer {ops : Array Oper} {i : Nat} {rest : List Nat} {o : Oper} {d : Deferred} {w' : World} (ho : ops[i]? = some o) (hw : Region.wanted o (yielded ops tm) = true) (hr : b.roundOf = none)
    (h : (execOp (evalT tm) o).run P w = .ok (.defer d) w') : step P (lone (mk b tm ds (.inRegion ops (i :: rest) :: k)) cs w) = .next (lone (mk b (putT tm o.dst undef) (d :: ds) (.inRegion ops rest :: k)) cs w') := by
  have hf := mk_finish (b := b) (tm := tm) (ds := d :: ds) (k := k) (ops := ops) (i := i) (rest := rest) undef
  rw [ho] at hf
  simp only [Option.bind_some] at hf
  rw [← hf]
  exact step_lone_go (by rw [g_op ho hw (.inl hr)]; simp [stepG.apply, Sem.runT_eq, h]; rfl)

/-- A call is begun: the new frame. -/
def Enters (P : Program) (s : Sem Next) (w : World) (fr : Frame) : Prop :=
  (∃ f args, s.run P w = .ok (.enter f args) w ∧ fr = Frame.enter P f args .normal) ∨ (∃ l f tms as bd, s.run P w = .ok (.round l f tms as bd) w ∧ fr = Frame.round l f tms as bd .normal)

theorem s_enter {ops : Array Oper} {i : Nat} {rest : List Nat} {o : Oper} {fr : Frame} (ho : ops[i]? = some o) (hw : Region.wanted o (yielded ops tm) = true) (hr : b.roundOf = none ∨ isDefer o.op = false)
    (h : Enters P (execOp (evalT tm) o) w fr) : step P (lone (mk b tm ds (.inRegion ops (i :: rest) :: k)) cs w) = .next (lone fr (mk b tm ds (.inRegion ops (i :: rest) :: k) :: cs) w) := by
  rcases h with ⟨f, args, h, rfl⟩ | ⟨l, f, tms, as, bd, h, rfl⟩
  · exact step_lone_go (by rw [g_op ho hw hr]; simp [stepG.apply, Sem.runT_eq, h, mk])
  · exact step_lone_go (by rw [g_op ho hw hr]; simp [stepG.apply, Sem.runT_eq, h, mk])

def callSem (u : Value) (us : Array Value) : Sem Next := do let d ← Deferred.ofValue u us; invoke d.target d.args

theorem s_rangeFunc {f : Operand} {params : Array Tmp} {assign body : Code} {nf : Frame} (hr : b.roundOf = none)
    (h : Enters P (callSem (evalT tm f) #[.func (.yield (w.heap.size + 1)) #[] #[]]) ((w.alloc (.deferred (some []))).alloc (.loop { state := .ready, pending := none, fn := b.fn, tmps := tm, params, assign, body, defers := w.heap.size })) nf) :
    step P (lone (mk b tm ds (.code (.rangeFunc f params assign body) :: k)) cs w) = .next (lone nf (mk b tm ({ target := .collected w.heap.size, args := #[] } :: ds) (.inRangeFunc (w.heap.size + 1) :: k) :: cs)
      ((w.alloc (.deferred (some []))).alloc (.loop { state := .ready, pending := none, fn := b.fn, tmps := tm, params, assign, body, defers := w.heap.size }))) := by
  refine step_lone_go ?_
  have hE : (Instr.enterLoop b.fn tm params assign body none).run P w = .ok (w.heap.size + 1, [{ target := .collected w.heap.size, args := #[] }]) ((w.alloc (.deferred (some []))).alloc (.loop { state := .ready, pending := none, fn := b.fn, tmps := tm, params, assign, body, defers := w.heap.size })) := by
    simp [Instr.enterLoop]
  have hres : ∀ fr : Frame, fr.tmps = tm → (do let d ← resolve fr.eval { callee := .value f, args := #[.const (.func (.yield (w.heap.size + 1)) #[] #[])], argTypes := #[] } 0; invoke d.target d.args : Sem Next) = callSem (evalT tm f) #[.func (.yield (w.heap.size + 1)) #[] #[]] := by
    intro fr h
    have he : fr.eval = evalT tm := by subst h; funext x; cases x <;> rfl
    rw [he]
    simp [resolve, callSem, evalT]
  rcases h with ⟨fn, args, h, rfl⟩ | ⟨l, fn, tms, as, bd, h, rfl⟩
  · simp only [stepG, stepG.exec, mk, hr, Sem.runT_eq, hE, GStep.bare_after, stepG.apply, if_true]
    rw [hres _ rfl]
    simp only [Sem.runT_eq, h, GStep.bare_after]
    rfl
  · simp only [stepG, stepG.exec, mk, hr, Sem.runT_eq, hE, GStep.bare_after, stepG.apply, if_true]
    rw [hres _ rfl]
    simp only [Sem.runT_eq, h, GStep.bare_after]
    rfl

theorem s_endRangeFunc {l : Nat} {L : Loop} (hl : w.heap[l]? = some (.loop L)) (hb : (L.state == LoopState.busy) = false) :
    step P (lone (mk b tm ds (.endRangeFunc l :: k)) cs w) = .next (lone (mk b tm ds ((L.pending.map Item.code).toList ++ k)) cs { w with heap := w.heap.setIfInBounds l (.loop { L with state := .exhausted }) }) := by
  refine step_lone_go ?_
  have hE : (Instr.endLoop l).run P w = .ok L.pending { w with heap := w.heap.setIfInBounds l (.loop { L with state := .exhausted }) } := by
    have hb' : ¬ L.state = LoopState.busy := by intro h; rw [h] at hb; exact absurd hb (by decide)
    simp [Instr.endLoop, Instr.getLoop, getObj, setObj, Sem.run, hl, hb']
  simp [stepG, stepG.exec, mk, Sem.runT_eq, hE]
end
end Go.Sv
