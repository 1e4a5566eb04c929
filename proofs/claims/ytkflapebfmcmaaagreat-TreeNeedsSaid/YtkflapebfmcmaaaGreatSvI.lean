/- A part of the proofs of this seat's laws: an interpreter of the program's form, its soundness against the model, or what it answers on this program. -/
/- Bodies, rounds, and calls of any depth. -/
import Derived.Test.YtkflapebfmcmaaaGreatSvH
namespace Go.Sv
open Go Go.RowKit

def rt (b : Frame) (tm : Array Value) (ds : List Deferred) (todo : List Item) : Frame := { b with tmps := tm, defers := ds, todo, mode := .returning }

section
variable {P : Program} {b : Frame} {tm : Array Value} {ds : List Deferred} {k : List Item} {cs : List Frame} {w : World}

theorem s_done (hr : b.roundOf = none) : step P (lone (mk b tm ds []) cs w) = .next (lone (rt b tm ds []) cs w) := step_lone_go (by simp [stepG, stepG.exec, mk, rt, hr])
theorem s_ret (hr : b.roundOf = none) : step P (lone (mk b tm ds (.code .ret :: k)) cs w) = .next (lone (rt b tm ds (.code .ret :: k)) cs w) := step_lone_go (by simp [stepG, stepG.exec, mk, rt, hr])

theorem s_coll {B : Nat} (h : w.heap[B]? = some (.deferred (some []))) : step P (lone (rt b tm ({ target := .collected B, args := #[] } :: ds) k) cs w) = .next (lone (rt b tm ds k) cs { w with heap := w.heap.setIfInBounds B (.deferred none) }) := by
  refine step_lone_go ?_
  have hE : (Instr.takeDeferred B).run P w = .ok [] { w with heap := w.heap.setIfInBounds B (.deferred none) } := by
    simp [Instr.takeDeferred, getObj, setObj, Sem.run, h]
  simp [stepG, unwind, rt, Sem.runT_eq, hE]

theorem run_callFunc {f : FuncId} {fn : Func} {body : Code} {args : Array Value} (hf : P.funcs[f]? = some fn) (hn : (fn.name == "runtime.NumGoroutine") = false) (hb : fn.body = some body) : (callFunc f args).run P w = .ok (.enter f args) w := by
  have hn' : ¬ fn.name = "runtime.NumGoroutine" := by simpa using hn
  simp [callFunc, Sem.run, program, hf, hb, hn']

theorem s_calldef {d : Deferred} {f : FuncId} {cap : Array Value} {fn : Func} {body : Code} (hd : d.target = .fn (.func f) cap) (hf : P.funcs[f]? = some fn) (hn : (fn.name == "runtime.NumGoroutine") = false) (hb : fn.body = some body) :
    step P (lone (rt b tm (d :: ds) k) cs w) = .next (lone (Frame.enter P f (d.args ++ cap) .deferred) (rt b tm ds k :: cs) w) := by
  refine step_lone_go ?_
  obtain ⟨t, args⟩ := d
  simp only at hd
  subst hd
  have hi : (invoke (.fn (.func f) cap) args).run P w = .ok (.enter f (args ++ cap)) w := by
    simp only [invoke]
    exact run_callFunc hf hn hb
  simp [stepG, unwind, rt, callDeferred, Sem.runT_eq, hi]
end

section
variable {w0 : World} {k : K} {g : Gh} {S : St} {w : World}

/-- Deferred calls are as told. -/
def DFS (w0 : World) (k : K) (cf : CallF) : Prop := ∀ f args S x' S', k.prim f = none → cf (.func f [] []) args S = some (x', S') → ∀ g w us, G w0 g S w → Rs g w us.toList args →
  (∃ fn body, k.P.funcs[f]? = some fn ∧ (fn.name == "runtime.NumGoroutine") = false ∧ fn.body = some body) ∧
  ∀ c cs, c.mode = .returning → ∃ v w', Good w0 S g w x' S' v w' ∧ Steps k.P (lone (Frame.enter k.P f us .deferred) (c :: cs) w) (lone c cs w')

theorem defers_sound {cf : CallF} (hdf : DFS w0 k cf) {b : Frame} {tm : Array Value} {todo : List Item} {cs : List Frame} : ∀ (ds : List Df) (S : St) (S' : St) (ds' : List Deferred) (g : Gh) (w : World), evDefers k cf ds S = some S' → G w0 g S w → DsR g w ds' ds →
    ∃ g' w', Steps k.P (lone (rt b tm ds' todo) cs w) (lone (rt b tm [] todo) cs w') ∧ G w0 g' S' w' ∧ Tr S g w S' g' w'
  | [], S, S', ds', g, w, h, hG, hD => by
    simp only [evDefers, Option.some.injEq] at h
    subst h
    cases ds' with
    | nil => exact ⟨g, w, .refl .., hG, .refl ..⟩
    | cons d r => exact hD.elim
  | .coll d :: r, S, S', ds', g, w, h, hG, hD => by
    have hfl : S.floor ≤ g.n := by rw [hG.n]; exact hG.floor
    cases ds' with
    | nil => exact hD.elim
    | cons d' r' =>
    obtain ⟨⟨hlt, ht⟩, hD⟩ := hD
    obtain ⟨t, as⟩ := d'
    simp only at ht
    subst ht
    simp only [evDefers] at h
    split at h
    · rename_i hget
      split at h
      · rename_i hf
        have hO := hG.obj d hlt
        rw [hget] at hO
        obtain ⟨hu, hh⟩ := hO
        obtain ⟨G1, T1⟩ := hG.put hlt (by rw [hget]; trivial) hf (only_putObj w _ (.deferred none)) hu .dead trivial
        obtain ⟨g2, w2, h2, G2, T2⟩ := defers_sound hdf r _ S' r' g _ h G1 (hD.ext T1.ext)
        refine ⟨g2, w2, .head ?_ h2, G2, T1.trans T2 hfl⟩
        have := s_coll (P := k.P) (b := b) (tm := tm) (ds := r') (k := todo) (cs := cs) hh
        exact this
      · cases h
    · cases h
  | .call f args :: r, S, S', ds', g, w, h, hG, hD => by
    have hfl : S.floor ≤ g.n := by rw [hG.n]; exact hG.floor
    cases ds' with
    | nil => exact hD.elim
    | cons d' r' =>
    obtain ⟨⟨cap, ht, hrs⟩, hD⟩ := hD
    simp only [evDefers] at h
    split at h
    · cases h
    · rename_i hp
      simp only [Option.bind_eq_some_iff] at h
      obtain ⟨⟨x, S1⟩, hc, h⟩ := h
      have hp' : k.prim f = none := by simpa using hp
      obtain ⟨⟨fn, body, hf, hn, hb⟩, hgo⟩ := hdf f args S x S1 hp' hc g w (d'.args ++ cap) hG (by simpa using hrs)
      obtain ⟨v, w1, ⟨g1, _, G1, T1⟩, hst⟩ := hgo (rt b tm r' todo) cs rfl
      obtain ⟨g2, w2, h2, G2, T2⟩ := defers_sound hdf r _ S' r' g1 w1 h G1 (hD.ext T1.ext)
      exact ⟨g2, w2, .head (s_calldef ht hf hn hb) (hst.trans h2), G2, T1.trans T2 hfl⟩

theorem loadVar_sound (hG : G w0 g S w) {t : TypeId} {u : Value} {a x : SV} (ha : R g w u a) (h : loadE k t a S = some x) : ∃ v, (do loadVar t (← asAddr u) : Sem Value).run k.P w = .ok v w ∧ R g w v x := by
  obtain ⟨v, hv, hR⟩ := load_sound hG ha h
  refine ⟨v, ?_, hR⟩
  have : ∃ ad, u = .pointer (some ad) := by
    unfold loadE at h
    cases ha with
    | ptr => exact ⟨_, rfl⟩
    | cp => exact ⟨_, rfl⟩
    | _ => simp at h
  obtain ⟨ad, rfl⟩ := this
  simpa [Instr.loadAt, Instr.sureAddr, asAddr] using hv

theorem results_list {F : ResultVar → Sem Value} {ρ : Nat → SV} (hF : ∀ r x, resE k r ρ S = some x → ∃ v, (F r).run k.P w = .ok v w ∧ R g w v x) : ∀ (rs : List ResultVar) (xs : List SV), (rs.mapM fun r => resE k r ρ S) = some xs →
    ∃ vs : List Value, (rs.mapM F).run k.P w = .ok vs w ∧ Rs g w vs xs
  | [], xs, h => by
    simp only [List.mapM_nil, Option.pure_def, Option.some.injEq] at h
    subst h
    exact ⟨[], rfl, rfl, fun i c hi => by simp at hi⟩
  | r :: rs, xs, h => by
    simp only [List.mapM_cons, Option.bind_eq_bind, Option.bind_eq_some_iff, Option.pure_def, Option.some.injEq] at h
    obtain ⟨x, hx, ys, hys, rfl⟩ := h
    obtain ⟨v, hv, hR⟩ := hF r x hx
    obtain ⟨vs, hvs, hRs⟩ := results_list hF rs ys hys
    refine ⟨v :: vs, ?_, by simp [hRs.1], fun i c hi => ?_⟩
    · simp only [List.mapM_cons, Sem.run_bind, hv, Result.andThen_ok, hvs]
      rfl
    · cases i with
      | zero => simp at hi; subst hi; simpa using hR
      | succ i => simpa using hRs.2 i c (by simpa using hi)

theorem results_sound (hG : G w0 g S w) {tm : Array Value} {ρ : Nat → SV} (hT : RT g w tm ρ) {fn : Func} {x : SV} (h : resultsE k fn.results.toList ρ S = some x) :
    ∃ v, (results fn tm).run k.P w = .ok v w ∧ R g w v x := by
  have key : ∀ xs, (fn.results.toList.mapM fun r => resE k r ρ S) = some xs → ∃ vs : List Value, (results fn tm).run k.P w = .ok (if h : vs.toArray.size = 1 then vs.toArray[0] else .tuple vs.toArray) w ∧ Rs g w vs xs := by
    intro xs hxs
    unfold results
    rw [Array.mapM_eq_mapM_toList]
    generalize hF : (fun x : ResultVar => _) = F
    have hF' : ∀ r x, resE k r ρ S = some x → ∃ v, (F r).run k.P w = .ok v w ∧ R g w v x := by
      intro r x hr
      subst hF
      cases r with
      | tmp t =>
        simp only [resE, Option.some.injEq] at hr
        subst hr
        exact ⟨_, rfl, hT t⟩
      | cell a t => exact loadVar_sound hG (hT a) hr
    obtain ⟨vs, hvs, hRs⟩ := results_list hF' _ xs hxs
    refine ⟨vs, ?_, hRs⟩
    simp only [Sem.run_bind, Sem.run_map, hvs, Result.andThen_ok]
    rfl
  unfold resultsE at h
  split at h
  · rename_i r hr
    rw [hr] at key
    obtain ⟨vs, hv, h1, h2⟩ := key [x] (by simp [h])
    have h1' : vs.length = 1 := by simpa using h1
    obtain ⟨v, rfl⟩ := List.length_eq_one_iff.1 h1'
    refine ⟨v, by simpa using hv, by simpa using h2 0 x rfl⟩
  · rename_i hne
    simp only [Option.map_eq_some_iff] at h
    obtain ⟨xs, hxs, rfl⟩ := h
    obtain ⟨vs, hv, h1, h2⟩ := key xs hxs
    have hl : vs.length ≠ 1 := by
      have e : xs.length = fn.results.toList.length := by
        clear hv h1 h2 vs key hne
        revert xs
        induction fn.results.toList with
        | nil => intro xs h; simp at h; subst h; rfl
        | cons r rs ih =>
          intro xs h
          simp only [List.mapM_cons, Option.bind_eq_bind, Option.bind_eq_some_iff, Option.pure_def, Option.some.injEq] at h
          obtain ⟨x, _, ys, hys, rfl⟩ := h
          simp [ih ys hys]
      intro hc
      rw [h1, e] at hc
      obtain ⟨r, hr⟩ := List.length_eq_one_iff.1 hc
      exact hne r hr
    refine ⟨.tuple vs.toArray, by rw [hv, dif_neg (by simpa using hl)], .tuple xs vs.toArray (by simpa using h1) fun i c hi => ?_⟩
    rw [getD_list]
    exact h2 i c hi

/-- A body, from the frame that is entered to the frame that is done. -/
theorem body_sound (hk : KS k) {cf : CallF} (hcl : Closed k cf) (hcf : CFS w0 k cf) (hdf : DFS w0 k cf) (n : Nat) {f : FuncId} {c : CF} (hf : k.fns f = some c) {args : List SV} {x : SV} {S' : St} (h : evBody k cf n f c args S = some (x, S')) (hG : G w0 g S w) {us : Array Value} (ha : Rs g w us.toList args) (kind : CallKind) (cs : List Frame) :
    ∃ fr fn v w', Steps k.P (lone (Frame.enter k.P f us kind) cs w) (lone fr cs w') ∧ fr.fn = f ∧ fr.mode = .returning ∧ fr.defers = [] ∧ fr.kind = kind ∧ k.P.funcs[f]? = some fn ∧ (results fn fr.tmps).run k.P w' = .ok v w' ∧ Good w0 S g w x S' v w' := by
  have hfl : S.floor ≤ g.n := by rw [hG.n]; exact hG.floor
  obtain ⟨fn, body, hP, hc, hb, hn, hwf, hnt⟩ := hk.fns f c hf
  unfold evBody at h
  split at h
  · rename_i hlen
    simp only [Option.bind_eq_some_iff] at h
    obtain ⟨⟨e, fr1, S1⟩, hcode, h⟩ := h
    have hent : Frame.enter k.P f us kind = mk { fn := f, tmps := #[], todo := [], defers := [], mode := .run, kind } (us ++ Array.replicate (fn.ntmps - us.size) undef) [] [.code body] := by
      simp [Frame.enter, mk, hP, hb]
    have hcb : c.body = comp body := by rw [← hc]; simp [compF, hb]
    have hcn : c.nt = fn.ntmps := by rw [← hc]; rfl
    have hus : us.size = args.length := by simpa using ha.1
    have hsz : (us ++ Array.replicate (fn.ntmps - us.size) undef).size = c.nt := by simp; omega
    rw [hent]
    generalize htm : us ++ Array.replicate (fn.ntmps - us.size) undef = tm at hsz
    have hT : RT g w tm (initρ args) := by
      intro t
      unfold initρ
      by_cases ht : t < args.length
      · have e : tm.getD t undef = us.toList.getD t undef := by
          rw [← htm]
          simp [Array.getD, Array.getElem_append, hus, ht, List.getD, show t < us.size by omega]
          omega
        rw [e]
        exact ha.2 t _ (by simp [List.getD, ht])
      · have e : tm.getD t undef = undef := by
          rw [← htm]
          by_cases h2 : t < us.size + (fn.ntmps - us.size)
          · simp [Array.getD, Array.getElem_append, h2, show ¬ t < us.size by omega]
          · simp [Array.getD, h2]
        rw [e]
        have : args.getD t (.v undef) = .v undef := by simp [List.getD, List.getElem?_eq_none (show args.length ≤ t by omega)]
        rw [this]
        exact .v undef
    generalize hbb : ({ fn := f, tmps := #[], todo := [], defers := [], mode := .run, kind } : Frame) = b
    have hbf : b.fn = f := by rw [← hbb]
    have hbr : b.roundOf = none := by rw [← hbb]
    have hbk : b.kind = kind := by rw [← hbb]
    rw [hcb] at hcode hwf
    obtain ⟨g1, w1, tm1, ds1, o1, G1, T1, RT1, D1, z1⟩ := code_sound hk hcl hcf n f false body _ _ _ _ _ hcode b tm [] g w hbf (by rw [hbr]; rfl) (.inl rfl) hG hT trivial (by omega) (by rw [hsz]; exact hwf) [] cs
    have fin : ∀ todo, Steps k.P (lone (mk b tm [] [.code body]) cs w) (lone (rt b tm1 ds1 todo) cs w1) → ((evDefers k cf fr1.ds S1).bind fun S'' => (resultsE k c.res fr1.ρ S'').map fun x => (x, S'')) = some (x, S') → ∃ fr fn v w', Steps k.P (lone (mk b tm [] [.code body]) cs w) (lone fr cs w') ∧ fr.fn = f ∧ fr.mode = .returning ∧ fr.defers = [] ∧ fr.kind = kind ∧ k.P.funcs[f]? = some fn ∧ (results fn fr.tmps).run k.P w' = .ok v w' ∧ Good w0 S g w x S' v w' := by
      intro todo hst h
      simp only [Option.bind_eq_some_iff, Option.map_eq_some_iff, Prod.mk.injEq] at h
      obtain ⟨S2, hd, x', hr, rfl, rfl⟩ := h
      obtain ⟨g2, w2, h2, G2, T2⟩ := defers_sound hdf (b := b) (tm := tm1) (todo := todo) (cs := cs) _ _ _ _ _ _ hd G1 D1
      have hres : c.res = fn.results.toList := by rw [← hc]; rfl
      rw [hres] at hr
      obtain ⟨v, hv, hR⟩ := results_sound G2 (RT1.ext T2.ext) hr
      exact ⟨rt b tm1 [] todo, fn, v, w2, hst.trans h2, hbf, rfl, rfl, hbk, hP, hv, g2, hR, G2, T1.trans T2 hfl⟩
    cases e with
    | normal => exact fin [] (Steps.trans o1 (.one (s_done hbr))) h
    | ret =>
      obtain ⟨k', o1⟩ := o1
      exact fin _ (Steps.trans o1 (.one (s_ret hbr))) h
    | exit id => cases h
  · cases h
end
end Go.Sv
