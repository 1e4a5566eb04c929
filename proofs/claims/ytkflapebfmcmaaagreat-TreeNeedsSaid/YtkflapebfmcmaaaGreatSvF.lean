/- A part of the proofs of this seat's laws: an interpreter of the program's form, its soundness against the model, or what it answers on this program. -/
/- A region's operations, one behind the other. -/
import Derived.Test.YtkflapebfmcmaaaGreatSvS
namespace Go.Sv
open Go Go.RowKit

def DfR (g : Gh) (w : World) (d : Deferred) : Df → Prop
  | .coll i => i < g.n ∧ d.target = .collected (g.box i)
  | .call f args => ∃ cap, d.target = .fn (.func f) cap ∧ Rs g w (d.args.toList ++ cap.toList) args

def DsR (g : Gh) (w : World) : List Deferred → List Df → Prop
  | [], [] => True
  | d :: r, x :: s => DfR g w d x ∧ DsR g w r s
  | _, _ => False

theorem DfR.ext {g g' : Gh} {w w' : World} {d : Deferred} {x : Df} (h : DfR g w d x) (e : Ext g w g' w') : DfR g' w' d x := by
  cases x with
  | coll i => exact ⟨Nat.lt_of_lt_of_le h.1 e.n, by rw [e.box i h.1]; exact h.2⟩
  | call f args => obtain ⟨cap, h1, h2⟩ := h; exact ⟨cap, h1, h2.ext e⟩
theorem DsR.ext {g g' : Gh} {w w' : World} : ∀ {ds : List Deferred} {xs : List Df}, DsR g w ds xs → Ext g w g' w' → DsR g' w' ds xs
  | [], [], _, _ => trivial
  | _ :: _, _ :: _, h, e => ⟨h.1.ext e, h.2.ext e⟩

def CallOK (P : Program) (s : Sem Next) (w : World) (Q : Value → World → Prop) : Prop :=
  ∃ fr, Enters P s w fr ∧ ∀ c cs, ∃ v w', Q v w' ∧ Steps P (lone fr (c :: cs) w) (lone (c.finish v) cs w')

section
variable {w0 : World} {k : K}

/-- The calls are as told. -/
def CFS (w0 : World) (k : K) (cf : CallF) : Prop := ∀ x args S x' S', cf x args S = some (x', S') → ∀ g w u us, G w0 g S w → R g w u x → Rs g w us.toList args → CallOK k.P (callSem u us) w (Good w0 S g w x' S')

variable {g : Gh} {S : St} {w : World}

theorem RT.put {tm : Array Value} {ρ : Nat → SV} (h : RT g w tm ρ) {d : Option Nat} {v : Value} {x : SV} (hd : d.all (· < tm.size) = true) (hv : R g w v x) (ds : List Df) : RT g w (putT tm d v) (Fr.put ⟨ρ, ds⟩ d x).ρ := by
  cases d with
  | none => exact h
  | some d =>
    have hd : d < tm.size := by simpa using hd
    intro t
    simp only [putT, Fr.put, upd]
    by_cases e : t = d
    · subst e; simp [Array.getD, hd]; exact hv
    · rw [if_neg e]
      have := h t
      have e' : (tm.setIfInBounds d v).getD t undef = tm.getD t undef := by
        by_cases ht : t < tm.size <;> simp [Array.getD, ht, Array.getElem_setIfInBounds, Ne.symm e]
      rw [e']; exact this

theorem putT_size (tm : Array Value) (d : Option Nat) (v : Value) : (putT tm d v).size = tm.size := by cases d <;> simp [putT]

theorem wanted_sound {tm : Array Value} {ρ : Nat → SV} (h : RT g w tm ρ) (hsz : tm.size ≤ 1000000) {ops : Array Oper} {o : Oper} {t : Nat} {want : Bool} (hg : compGuard ops o = some (t, want)) :
    (∀ b, ρ t = .v (.bool b) → Region.wanted o (yielded ops tm) = (b == want)) ∧ ((∀ b, ρ t ≠ .v (.bool b)) → ρ t ≠ .top → Region.wanted o (yielded ops tm) = false) := by
  unfold compGuard at hg
  cases hgo : o.guard with
  | none => simp [hgo] at hg
  | some p =>
    obtain ⟨j, w1⟩ := p
    simp only [hgo, Option.some.injEq, Prod.mk.injEq] at hg
    obtain ⟨ht, rfl⟩ := hg
    have hR := h t
    have hy : yielded ops tm j = match tm[t]? with | some (.bool b) => some b | _ => none := by
      unfold yielded
      cases hd : (ops[j]?).bind (·.dst) with
      | none =>
        simp only [hd, Option.getD_none] at ht
        have : tm[t]? = none := by rw [← ht]; exact Array.getElem?_eq_none hsz
        simp [this]
      | some d =>
        simp only [hd, Option.getD_some] at ht
        subst ht; rfl
    unfold Region.wanted
    simp only [hgo, hy]
    by_cases hlt : t < tm.size
    · have e : tm.getD t undef = tm[t] := by simp [Array.getD, hlt]
      rw [e] at hR
      have e2 : tm[t]? = some tm[t] := Array.getElem?_eq_getElem hlt
      rw [e2]
      generalize tm[t] = u at hR
      refine ⟨fun b hb => ?_, fun hb ht => ?_⟩
      · rw [hb] at hR; cases hR; rfl
      · cases hx : ρ t with
        | v u' =>
          rw [hx] at hR; cases hR
          cases u <;> simp_all
        | top => exact (ht hx).elim
        | _ => rw [hx] at hR; cases hR <;> rfl
    · have e : tm.getD t undef = undef := by simp [Array.getD, hlt]
      rw [e] at hR
      have e2 : tm[t]? = none := Array.getElem?_eq_none (by omega)
      rw [e2]
      refine ⟨fun b hb => ?_, fun hb ht => rfl⟩
      rw [hb] at hR; cases hR

theorem compGuard_none {ops : Array Oper} {o : Oper} (h : compGuard ops o = none) : o.guard = none := by
  unfold compGuard at h
  cases hg : o.guard with
  | none => rfl
  | some p => obtain ⟨j, w⟩ := p; simp [hg] at h

theorem args_rs {tm : Array Value} {ρ : Nat → SV} (hT : RT g w tm ρ) (args : Array Operand) : Rs g w (args.map (evalT tm)).toList (args.toList.map (ev ρ)) := by
  have := rs_of_map hT args.toList
  simpa using this

theorem func_parts {u : Value} {f : FuncId} {fst cap : List SV} (h : R g w u (.func f fst cap)) : ∃ fst' cap', u = .func (.func f) fst' cap' ∧ Rs g w fst'.toList fst ∧ Rs g w cap'.toList cap := by
  cases h with
  | func f fst cap fst' cap' h1 h2 h3 h4 =>
    exact ⟨fst', cap', rfl, ⟨by simpa using h1, fun i c hi => by rw [← getD_list]; exact h2 i c hi⟩, ⟨by simpa using h3, fun i c hi => by rw [← getD_list]; exact h4 i c hi⟩⟩

theorem Rs.append {a b : List Value} {x y : List SV} (h : Rs g w a x) (k : Rs g w b y) : Rs g w (a ++ b) (x ++ y) := by
  refine ⟨by simp [h.1, k.1], fun i c hi => ?_⟩
  by_cases hl : i < x.length
  · rw [List.getElem?_append_left hl] at hi
    have : (a ++ b).getD i undef = a.getD i undef := by simp [List.getD, List.getElem?_append_left (show i < a.length by rw [h.1]; exact hl)]
    rw [this]; exact h.2 i c hi
  · rw [List.getElem?_append_right (by omega)] at hi
    have : (a ++ b).getD i undef = b.getD (i - x.length) undef := by simp [List.getD, List.getElem?_append_right (show a.length ≤ i by rw [h.1]; omega), h.1]
    rw [this]; exact k.2 _ c hi

/-- The operations of a region, in the order of a list. -/
theorem ops_sound (hk : KS k) {cf : CallF} (hcf : CFS w0 k cf) {b : Frame} {ops : Array Oper} (hdef : b.roundOf = none ∨ ∀ o ∈ ops, isDefer o.op = false) : ∀ (is : List Nat) (tm : Array Value) (ρ : Nat → SV) (ds' : List Deferred) (ds : List Df) (g : Gh) (S : St) (w : World) (fr' : Fr) (S' : St),
    evOps k cf (is.filterMap fun i => (ops[i]?).map (compOp ops)) ⟨ρ, ds⟩ S = some (fr', S') → G w0 g S w → RT g w tm ρ → DsR g w ds' ds → tm.size ≤ 1000000 → (∀ o ∈ ops, o.dst.all (· < tm.size) = true) →
    ∀ kk cs, ∃ g' w' tm' ds1, Steps k.P (lone (mk b tm ds' (.inRegion ops is :: kk)) cs w) (lone (mk b tm' ds1 kk) cs w') ∧ G w0 g' S' w' ∧ Tr S g w S' g' w' ∧ RT g' w' tm' fr'.ρ ∧ DsR g' w' ds1 fr'.ds ∧ tm'.size = tm.size
  | [], tm, ρ, ds', ds, g, S, w, fr', S', h, hG, hT, hD, hsz, hdst, kk, cs => by
    simp only [List.filterMap_nil, evOps, Option.some.injEq, Prod.mk.injEq] at h
    obtain ⟨rfl, rfl⟩ := h
    exact ⟨g, w, tm, ds', .one s_regionEnd, hG, .refl .., hT, hD, rfl⟩
  | i :: is, tm, ρ, ds', ds, g, S, w, fr', S', h, hG, hT, hD, hsz, hdst, kk, cs => by
    have ih := ops_sound hk hcf (b := b) hdef is
    have hfl : S.floor ≤ g.n := by rw [hG.n]; exact hG.floor
    cases ho : ops[i]? with
    | none =>
      have hs := s_unwanted (P := k.P) (b := b) (tm := tm) (ds := ds') (k := kk) (cs := cs) (w := w) (ops := ops) (i := i) (rest := is) (by simp [ho])
      simp only [ho, Option.bind_none, putT] at hs
      simp only [List.filterMap_cons, ho, Option.map_none] at h
      obtain ⟨g', w', tm', ds1, h1, h2⟩ := ih tm ρ ds' ds g S w fr' S' h hG hT hD hsz hdst kk cs
      exact ⟨g', w', tm', ds1, .head hs h1, h2⟩
    | some o =>
      have hmem : o ∈ ops := Array.mem_of_getElem? ho
      have hod := hdst o hmem
      have hrd : b.roundOf = none ∨ isDefer o.op = false := hdef.imp id (fun h => h o hmem)
      simp only [List.filterMap_cons, ho, Option.map_some, evOps] at h
      -- the way on
      have onward : ∀ (x : SV) (u : Value) (g1 : Gh) (S1 : St) (w1 : World) (dsA : List Deferred) (dsB : List Df), evOps k cf (is.filterMap fun i => (ops[i]?).map (compOp ops)) (Fr.put ⟨ρ, dsB⟩ o.dst x) S1 = some (fr', S') →
          G w0 g1 S1 w1 → Tr S g w S1 g1 w1 → R g1 w1 u x → DsR g1 w1 dsA dsB → Steps k.P (lone (mk b tm ds' (.inRegion ops (i :: is) :: kk)) cs w) (lone (mk b (putT tm o.dst u) dsA (.inRegion ops is :: kk)) cs w1) →
          ∃ g' w' tm' ds1, Steps k.P (lone (mk b tm ds' (.inRegion ops (i :: is) :: kk)) cs w) (lone (mk b tm' ds1 kk) cs w') ∧ G w0 g' S' w' ∧ Tr S g w S' g' w' ∧ RT g' w' tm' fr'.ρ ∧ DsR g' w' ds1 fr'.ds ∧ tm'.size = tm.size := by
        intro x u g1 S1 w1 dsA dsB he hG1 hT1 hR hDD hst
        have hT' := (hT.ext hT1.ext).put (d := o.dst) hod hR dsB
        have hds : (Fr.put ⟨ρ, dsB⟩ o.dst x).ds = dsB := by cases o.dst <;> rfl
        have he' : evOps k cf (is.filterMap fun i => (ops[i]?).map (compOp ops)) ⟨(Fr.put ⟨ρ, dsB⟩ o.dst x).ρ, dsB⟩ S1 = some (fr', S') := by
          rw [← he]; congr 1; cases o.dst <;> rfl
        obtain ⟨g', w', tm', ds1, h1, h2, h3, h4, h5, h6⟩ := ih (putT tm o.dst u) _ dsA dsB g1 S1 w1 fr' S' he' hG1 hT' hDD (by rw [putT_size]; exact hsz) (fun o ho => by rw [putT_size]; exact hdst o ho) kk cs
        exact ⟨g', w', tm', ds1, hst.trans h1, h2, hT1.trans h3 hfl, h4, h5, by rw [h6, putT_size]⟩
      have skipped : Region.wanted o (yielded ops tm) = false → evOps k cf (is.filterMap fun i => (ops[i]?).map (compOp ops)) (Fr.put ⟨ρ, ds⟩ o.dst (.v undef)) S = some (fr', S') →
          ∃ g' w' tm' ds1, Steps k.P (lone (mk b tm ds' (.inRegion ops (i :: is) :: kk)) cs w) (lone (mk b tm' ds1 kk) cs w') ∧ G w0 g' S' w' ∧ Tr S g w S' g' w' ∧ RT g' w' tm' fr'.ρ ∧ DsR g' w' ds1 fr'.ds ∧ tm'.size = tm.size := by
        intro hw he
        have hs := s_unwanted (P := k.P) (b := b) (tm := tm) (ds := ds') (k := kk) (cs := cs) (w := w) (ops := ops) (i := i) (rest := is) (by simp [ho, hw])
        simp only [ho, Option.bind_some] at hs
        exact onward _ _ g S w ds' ds he hG (.refl ..) (.v undef) hD (.one hs)
      have went : Region.wanted o (yielded ops tm) = true → (match (compOp ops o).op with
          | .call { callee := .value f, args, .. } => (cf (ev ρ f) (args.toList.map (ev ρ)) S).bind fun (x, S') => evOps k cf (is.filterMap fun i => (ops[i]?).map (compOp ops)) (Fr.put ⟨ρ, ds⟩ (compOp ops o).dst x) S'
          | .defer { callee := .value f, args, .. } =>
            match ev ρ f with
            | .func g fst cap => evOps k cf (is.filterMap fun i => (ops[i]?).map (compOp ops)) (Fr.put ⟨ρ, .call g (fst ++ args.toList.map (ev ρ) ++ cap) :: ds⟩ (compOp ops o).dst (.v undef)) S
            | _ => none
          | _ => (evOpF k (compOp ops o) ρ S).bind fun (x, S') => evOps k cf (is.filterMap fun i => (ops[i]?).map (compOp ops)) (Fr.put ⟨ρ, ds⟩ (compOp ops o).dst x) S') = some (fr', S') →
          ∃ g' w' tm' ds1, Steps k.P (lone (mk b tm ds' (.inRegion ops (i :: is) :: kk)) cs w) (lone (mk b tm' ds1 kk) cs w') ∧ G w0 g' S' w' ∧ Tr S g w S' g' w' ∧ RT g' w' tm' fr'.ρ ∧ DsR g' w' ds1 fr'.ds ∧ tm'.size = tm.size := by
        intro hw he
        split at he
        · rename_i f args ats hop
          simp only [Option.bind_eq_some_iff] at he
          obtain ⟨⟨x, S1⟩, hc, he⟩ := he
          obtain ⟨nf, hent, hgo⟩ := hcf _ _ _ _ _ hc g w _ _ hG (ev_sound hT f) (args_rs hT args)
          have hop' : o.op = .call { callee := .value f, args, argTypes := ats } := hop
          have hex : execOp (evalT tm) o = callSem (evalT tm f) (args.map (evalT tm)) := by simp [execOp, hop', resolve, callSem]
          obtain ⟨v, w1, ⟨g1, hR, hG1, hT1⟩, hst⟩ := hgo (mk b tm ds' (.inRegion ops (i :: is) :: kk)) cs
          have hf := mk_finish (b := b) (tm := tm) (ds := ds') (k := kk) (ops := ops) (i := i) (rest := is) v
          rw [ho] at hf
          simp only [Option.bind_some] at hf
          rw [hf] at hst
          exact onward x v g1 S1 w1 ds' ds he hG1 hT1 hR (hD.ext hT1.ext) (.head (s_enter ho hw hrd (by rw [hex]; exact hent)) hst)
        · rename_i f args ats hop
          have hop' : o.op = .defer { callee := .value f, args, argTypes := ats } := hop
          have hro : b.roundOf = none := by
            rcases hrd with h | h
            · exact h
            · rw [hop'] at h; simp [isDefer] at h
          split at he
          · rename_i g1 fst cap hev
            have hf := ev_sound hT f
            rw [hev] at hf
            obtain ⟨fst', cap', hu, hr1, hr2⟩ := func_parts hf
            have hex : (execOp (evalT tm) o).run k.P w = .ok (.defer { target := .fn (.func g1) cap', args := fst' ++ args.map (evalT tm) }) w := by
              simp [execOp, hop', resolve, hu, Deferred.ofValue]
            refine onward (.v undef) undef g S w ({ target := .fn (.func g1) cap', args := fst' ++ args.map (evalT tm) } :: ds') _ he hG (.refl ..) (.v undef) ⟨⟨cap', rfl, ?_⟩, hD⟩ (.one (s_defer ho hw hro hex))
            have := (hr1.append (args_rs hT args)).append hr2
            simpa using this
          · cases he
        · simp only [Option.bind_eq_some_iff] at he
          obtain ⟨⟨x, S1⟩, hev, he⟩ := he
          obtain ⟨w1, ⟨u, hrun, g1, hR, hG1, hT1⟩ | ⟨hrun, g1, hR, hG1, hT1⟩⟩ := evOpF_sound hk hG hT (o := o) rfl hev
          · exact onward x u g1 S1 w1 ds' ds he hG1 hT1 hR (hD.ext hT1.ext) (.one (s_value ho hw hrd hrun))
          · exact onward x undef g1 S1 w1 ds' ds he hG1 hT1 hR (hD.ext hT1.ext) (.one (s_noval ho hw hrd hrun))
      split at h
      · rename_i hg
        have hgn := compGuard_none (ops := ops) hg
        exact went (by simp [Region.wanted, hgn]) h
      · rename_i t want hg
        have hws := wanted_sound hT hsz (ops := ops) (o := o) hg
        split at h
        · cases h
        · rename_i bb hb
          split at h
          · rename_i hbw
            subst hbw
            exact went (by rw [hws.1 bb hb]; simp) h
          · rename_i hbw
            exact skipped (by rw [hws.1 bb hb]; simpa using hbw) h
        · rename_i h1 h2
          exact skipped (hws.2 (fun b hb => h2 b hb) h1) h
end
end Go.Sv
