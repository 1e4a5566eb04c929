/- A part of the proofs of this seat's laws: an interpreter of the program's form, its soundness against the model, or what it answers on this program. -/
/- Calls of any depth. -/
import Derived.Test.YtkflapebfmcmaaaGreatSvJ
namespace Go.Sv
open Go Go.RowKit

section
variable {w0 : World} {k : K} {g : Gh} {S : St} {w : World}

/-- What is asked of a function that is not stepped through. -/
structure PrimOK (P : Program) (f : FuncId) (p : List SV → St → Option (SV × St)) : Prop where
  ent : ∃ fn body, P.funcs[f]? = some fn ∧ (fn.name == "runtime.NumGoroutine") = false ∧ fn.body = some body
  run : ∀ w0 g S w us args x S', p args S = some (x, S') → G w0 g S w → Rs g w us.toList args → ∀ c cs, ∃ v w', Good w0 S g w x S' v w' ∧ Steps P (lone (Frame.enter P f us .normal) (c :: cs) w) (lone (c.finish v) cs w')

def KP (k : K) : Prop := ∀ f p, k.prim f = some p → PrimOK k.P f p

theorem KS.at (hk : KS k) (f : FuncId) : KS (k.at f) := ⟨hk.pg, hk.mixed, hk.fns, hk.eqT⟩

theorem Closed.at {k : K} {cf : CallF} (h : Closed k cf) (f : FuncId) : Closed (k.at f) cf := ⟨h.pure, h.peek, h.grow⟩

theorem lvl_closed {k : K} (hk : KS k) : ∀ n, Closed k (lvl k n)
  | 0 => ⟨fun f fst cap args S x S' _ _ h => by simp [lvl] at h, fun f fst cap args S x S' _ _ h => by simp [lvl] at h, fun f fst cap args S x S' _ h => by simp [lvl] at h⟩
  | n + 1 => by
    refine ⟨fun f fst cap args S x S' hp hm h => ?_, fun f fst cap args S x S' hp hm h => ?_, fun f fst cap args S x S' hg h => ?_⟩
    · simp only [lvl, hp, hm, Option.bind_eq_some_iff] at h ⊢
      obtain ⟨c, hc, h⟩ := h
      simp only [show ¬ (3 : Nat) = 0 by decide, if_false, if_true, Option.map_eq_some_iff, Prod.mk.injEq] at h
      obtain ⟨r, hr, rfl, rfl⟩ := h
      refine ⟨rfl, fun S2 => ⟨c, hc, ?_⟩⟩
      simp only [show ¬ (3 : Nat) = 0 by decide, if_false, if_true, hr, Option.map_some]
    · simp only [lvl, hp, hm, Option.bind_eq_some_iff, if_true, Option.map_eq_some_iff, Prod.mk.injEq] at h
      obtain ⟨c, hc, r, hr, _, h⟩ := h
      exact h.symm
    · obtain ⟨p, hp, hgr⟩ := hk.pg f hg
      simp only [lvl, hp] at h
      exact hgr _ _ _ _ h

/-- A function that is stepped through, up to where it is left. -/
theorem func_sound (hk : KS k) {n : Nat} (hcf : ∀ w0, CFS w0 k (lvl k n)) (hdf : ∀ w0, DFS w0 k (lvl k n)) {f : FuncId} {fst cap args : List SV} {x : SV} {S' : St} (hp : k.prim f = none) (h : lvl k (n + 1) (.func f fst cap) args S = some (x, S')) (hG : G w0 g S w) {us : Array Value} (ha : Rs g w us.toList (fst ++ args ++ cap)) (kind : CallKind) (cs : List Frame) :
    ∃ fr fn v w', Steps k.P (lone (Frame.enter k.P f us kind) cs w) (lone fr cs w') ∧ fr.fn = f ∧ fr.mode = .returning ∧ fr.defers = [] ∧ fr.kind = kind ∧ k.P.funcs[f]? = some fn ∧ (results fn fr.tmps).run k.P w' = .ok v w' ∧ Good w0 S g w x S' v w' := by
  simp only [lvl, hp, Option.bind_eq_some_iff] at h
  obtain ⟨c, hc, h⟩ := h
  have hka := hk.at f
  have hcl : Closed (k.at f) (lvl k n) := (lvl_closed hk n).at f
  have hcf' : ∀ w0, CFS w0 (k.at f) (lvl k n) := hcf
  have hdf' : ∀ w0, DFS w0 (k.at f) (lvl k n) := hdf
  have hc' : (k.at f).fns f = some c := hc
  split at h
  · simp only [Option.map_eq_some_iff, Prod.mk.injEq] at h
    obtain ⟨⟨y, S1⟩, h, rfl, rfl⟩ := h
    have hG0 : G w0 g { S with floor := S.next } w := ⟨hG.n, Nat.le_refl _, hG.obj, hG.lo, hG.ne, hG.fresh, hG.base, hG.below⟩
    obtain ⟨fr, fn, v, w1, h1, h2, h3, h4, h5, h6, h7, g1, hR, G1, T1⟩ := body_sound hka hcl (hcf' _) (hdf' _) n hc' h hG0 (Rs_weak ha) kind cs
    exact ⟨fr, fn, v, w1, h1, h2, h3, h4, h5, h6, h7, restore hG G1 T1 hR⟩
  split at h
  · simp only [Option.map_eq_some_iff, Prod.mk.injEq] at h
    obtain ⟨⟨y, S1⟩, h, rfl, rfl⟩ := h
    have ha' : Rs (g.cut w) w us.toList ((fst ++ args ++ cap).map fun x => weak (shut x)) := by
      refine ⟨by simp [ha.1], fun i c hi => ?_⟩
      rw [List.getElem?_map, Option.map_eq_some_iff] at hi
      obtain ⟨c', h1, rfl⟩ := hi
      exact R_weak (R_shut (ha.2 i c' h1))
    obtain ⟨fr, fn, v, w1, h1, h2, h3, h4, h5, h6, h7, g1, hR, G1, T1⟩ := body_sound hka hcl (hcf' _) (hdf' _) n hc' h hG.cut ha' kind cs
    exact ⟨fr, fn, v, w1, h1, h2, h3, h4, h5, h6, h7, apart hG G1 T1 hR⟩
  · split at h
    · simp only [Option.map_eq_some_iff, Prod.mk.injEq] at h
      obtain ⟨⟨y, S1⟩, h, rfl, rfl⟩ := h
      obtain ⟨fr, fn, v, w1, h1, h2, h3, h4, h5, h6, h7, g1, hR, G1, T1⟩ := body_sound hka hcl (hcf' _) (hdf' _) n hc' h hG ha kind cs
      exact ⟨fr, fn, v, w1, h1, h2, h3, h4, h5, h6, h7, g1, R_weak hR, G1, T1⟩
    · exact body_sound hka hcl (hcf' _) (hdf' _) n hc' h hG ha kind cs

theorem s_leave_def {P : Program} {fr c : Frame} {cs : List Frame} {fn : Func} {v : Value} {w : World} (hm : fr.mode = .returning) (hd : fr.defers = []) (hk : fr.kind = .deferred) (hf : P.funcs[fr.fn]? = some fn) (hr : (results fn fr.tmps).run P w = .ok v w) (hc : c.mode = .returning) :
    step P (lone fr (c :: cs) w) = .next (lone c cs w) := by
  refine step_lone_go ?_
  simp [stepG, unwind, doReturn, hm, hd, hk, hf, hr, hc, Sem.runT_eq]

theorem lvl_sound (hk : KS k) (hkp : KP k) : ∀ n, ∀ w0, CFS w0 k (lvl k n) ∧ DFS w0 k (lvl k n)
  | 0 => fun w0 => ⟨fun x args S x' S' h => by simp [lvl] at h, fun f args S x' S' _ h => by simp [lvl] at h⟩
  | n + 1 => fun w0 => by
    have ih1 := fun w0 => (lvl_sound hk hkp n w0).1
    have ih2 := fun w0 => (lvl_sound hk hkp n w0).2
    have info : ∀ {f c}, k.fns f = some c → ∃ fn body, k.P.funcs[f]? = some fn ∧ (fn.name == "runtime.NumGoroutine") = false ∧ fn.body = some body := by
      intro f c hc
      obtain ⟨fn, body, h1, h2, h3, h4, h5, h6⟩ := hk.fns f c hc
      exact ⟨fn, body, h1, h4, h3⟩
    refine ⟨?_, ?_⟩
    · intro x args S x' S' h g w u us hG hu ha
      cases x with
      | func f fst cap =>
        obtain ⟨fst', cap', rfl, hr1, hr2⟩ := func_parts hu
        have hrs : Rs g w (fst' ++ us ++ cap').toList (fst ++ args ++ cap) := by
          have := (hr1.append ha).append hr2
          simpa using this
        have ent : ∀ {fn body}, k.P.funcs[f]? = some fn → (fn.name == "runtime.NumGoroutine") = false → fn.body = some body → (callSem (.func (.func f) fst' cap') us).run k.P w = .ok (.enter f (fst' ++ us ++ cap')) w := by
          intro fn body h1 h2 h3
          simp only [callSem, Deferred.ofValue, pure_bind, invoke]
          exact run_callFunc h1 h2 h3
        cases hp : k.prim f with
        | some p =>
          simp only [lvl, hp] at h
          obtain ⟨fn, body, h1, h2, h3⟩ := (hkp f p hp).ent
          exact ⟨_, .inl ⟨_, _, ent h1 h2 h3, rfl⟩, (hkp f p hp).run w0 g S w _ _ x' S' h hG hrs⟩
        | none =>
          have hc : ∃ c, k.fns f = some c := by
            cases hc : k.fns f with
            | some c => exact ⟨c, rfl⟩
            | none => simp [lvl, hp, hc] at h
          obtain ⟨c, hc⟩ := hc
          obtain ⟨fn, body, h1, h2, h3⟩ := info hc
          refine ⟨_, .inl ⟨_, _, ent h1 h2 h3, rfl⟩, fun c cs => ?_⟩
          obtain ⟨fr, fn', v, w1, s1, s2, s3, s4, s5, s6, s7, s8⟩ := func_sound hk ih1 ih2 hp h hG hrs .normal (c :: cs)
          refine ⟨v, w1, s8, s1.trans (.one (step_leave_returned ⟨s3, s4, s5, fn', by rw [s2]; exact s6, s7⟩))⟩
      | yield l =>
        simp only [lvl] at h
        split at h
        · rename_i r hget
          cases hu with
          | yield _ hl => exact round_sound (hk.at r.fn) (cf := lvl k n) ((lvl_closed hk n).at r.fn) (ih1 w0) n hl hget h hG ha
        · cases h
      | _ => simp [lvl] at h
    · intro f args S x' S' hp h g w us hG ha
      have hc : ∃ c, k.fns f = some c := by
        cases hc : k.fns f with
        | some c => exact ⟨c, rfl⟩
        | none => simp [lvl, hp, hc] at h
      obtain ⟨c, hc⟩ := hc
      refine ⟨info hc, fun c cs hm => ?_⟩
      obtain ⟨fr, fn', v, w1, s1, s2, s3, s4, s5, s6, s7, s8⟩ := func_sound hk ih1 ih2 hp h hG (by simpa using ha) .deferred (c :: cs)
      exact ⟨v, w1, s8, s1.trans (.one (s_leave_def s3 s4 s5 (by rw [s2]; exact s6) s7 hm))⟩

/-- The start: no boxes yet. -/
def gh0 (w : World) : Gh := { base := w.heap.size, n := 0, box := fun _ => 0, cap := fun _ => 0, use := fun B => blockSize w B }

theorem G0 (w : World) : G w (gh0 w) St0 w := by
  refine ⟨rfl, Nat.le_refl _, fun b hb => ?_, fun b hb => ?_, fun b b' hb => ?_, fun B hB => ?_, Nat.le_refl _, .refl _ _⟩
  · exact absurd hb (Nat.not_lt_zero _)
  · exact absurd hb (Nat.not_lt_zero _)
  · exact absurd hb (Nat.not_lt_zero _)
  · have : w.heap[B]? = none := Array.getElem?_eq_none hB
    simp [gh0, blockSize, this]

/-- A call from the outside. -/
theorem lvl_calls (hk : KS k) (hkp : KP k) {n : Nat} {f : FuncId} {args : List SV} {x : SV} {S' : St} (hp : k.prim f = none) (h : lvl k n (.func f [] []) args St0 = some (x, S')) (w : World) {us : Array Value} (ha : Rs (gh0 w) w us.toList args) :
    Calls k.P f us w (fun e w' => ∃ v g', e = .returned v ∧ R g' w' v x ∧ Ext (gh0 w) w g' w' ∧ Below w.heap.size w w') := by
  intro cs
  cases n with
  | zero => simp [lvl] at h
  | succ n =>
    have ih1 := fun w0 => (lvl_sound hk hkp n w0).1
    have ih2 := fun w0 => (lvl_sound hk hkp n w0).2
    obtain ⟨fr, fn', v, w1, s1, s2, s3, s4, s5, s6, s7, g1, hR, G1, T1⟩ := func_sound hk ih1 ih2 hp h (G0 w) (by simpa using ha) .normal cs
    refine ⟨.returned v, w1, fr, ⟨v, g1, rfl, hR, T1.ext, ?_⟩, s1, s2, s3, s4, s5, fn', by rw [s2]; exact s6, s7⟩
    have := G1.below
    rw [T1.ext.base] at this
    exact this
end
end Go.Sv
