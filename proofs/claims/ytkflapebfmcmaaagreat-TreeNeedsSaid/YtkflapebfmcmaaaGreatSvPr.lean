/- A part of the proofs of this seat's laws: an interpreter of the program's form, its soundness against the model, or what it answers on this program. -/
/- Functions that are met by a contract: how the contracts come. -/
import Derived.Test.YtkflapebfmcmaaaGreatSvZ
namespace Go.Sv
open Go Go.RowKit

/-- Out of the kit's calls. -/
theorem prim_of_calls {P : Program} {f : FuncId} {p : List SV → St → Option (SV × St)} (hent : ∃ fn body, P.funcs[f]? = some fn ∧ (fn.name == "runtime.NumGoroutine") = false ∧ fn.body = some body)
    (h : ∀ w0 g S w us args x S', p args S = some (x, S') → G w0 g S w → Rs g w us.toList args → Calls P f us w (fun e w' => ∃ v, e = .returned v ∧ Good w0 S g w x S' v w')) : PrimOK P f p where
  ent := hent
  run := fun w0 g S w us args x S' hp hG ha c cs => by
    obtain ⟨e, w', fr, ⟨v, rfl, hg⟩, hc, _, hl⟩ := h w0 g S w us args x S' hp hG ha (c :: cs)
    exact ⟨v, w', hg, Steps.trans hc (.one (step_leave_returned hl))⟩

/-- Out of another interpreter over the same program. -/
theorem prim_of_run {k : K} (hk : KS k) (hkp : KP k) {f : FuncId} {p : List SV → St → Option (SV × St)} (hent : ∃ fn body, k.P.funcs[f]? = some fn ∧ (fn.name == "runtime.NumGoroutine") = false ∧ fn.body = some body) (hp0 : k.prim f = none)
    (h : ∀ g w us args x S S', p args S = some (x, S') → Rs g w us args → ∃ args2 x2, Rs g w us args2 ∧ run k (.func f [] []) args2 S = some (x2, S') ∧ ∀ g' w' v, R g' w' v x2 → R g' w' v x) : PrimOK k.P f p where
  ent := hent
  run := fun w0 g S w us args x S' hp hG ha c cs => by
    obtain ⟨args2, x2, ha2, hr, hx⟩ := h g w us.toList args x S S' hp ha
    obtain ⟨n, hr⟩ := run_iff.1 hr
    cases n with
    | zero => simp [lvl] at hr
    | succ n =>
      have ih1 := fun w0 => (lvl_sound hk hkp n w0).1
      have ih2 := fun w0 => (lvl_sound hk hkp n w0).2
      obtain ⟨fr, fn', v, w1, s1, s2, s3, s4, s5, s6, s7, g1, r1, r2, r3⟩ := func_sound hk ih1 ih2 hp0 hr hG (by simpa using ha2) .normal (c :: cs)
      exact ⟨v, w1, ⟨g1, hx _ _ _ r1, r2, r3⟩, s1.trans (.one (step_leave_returned ⟨s3, s4, s5, fn', by rw [s2]; exact s6, s7⟩))⟩
end Go.Sv
