/- Parts of the proofs of this seat's laws. -/
import Derived.Test.YtkflapebfmcmaaaGreatBOnce06
import Derived.Test.YtkflapebfmcmaaaGreatBOnce08
section
set_option linter.all false
/- Code. -/
namespace Go.Sv
open Go Go.RowKit

/-- How code is left. -/
def Out (P : Program) (b : Frame) (kk : List Item) (cs : List Frame) (m : Machine) : Ex → Array Value → List Deferred → World → Prop
  | .normal, tm, ds, w => Steps P m (lone (mk b tm ds kk) cs w)
  | .exit id, tm, ds, w => ∃ k', exitTo id k' = exitTo id kk ∧ Steps P m (lone (mk b tm ds (.code (.exit id) :: k')) cs w)
  | .ret, tm, ds, w => ∃ k', Steps P m (lone (mk b tm ds (.code .ret :: k')) cs w)

theorem Out.of_steps {P : Program} {b : Frame} {kk : List Item} {cs : List Frame} {m m1 : Machine} {e : Ex} {tm : Array Value} {ds : List Deferred} {w : World} (h : Steps P m m1) (k : Out P b kk cs m1 e tm ds w) : Out P b kk cs m e tm ds w := by
  cases e with
  | normal => exact h.trans k
  | exit id => obtain ⟨k', h1, h2⟩ := k; exact ⟨k', h1, h.trans h2⟩
  | ret => obtain ⟨k', h2⟩ := k; exact ⟨k', h.trans h2⟩

/-- An item that no exit stops at. -/
theorem Out.pass {P : Program} {b : Frame} {kk : List Item} {cs : List Frame} {m : Machine} {e : Ex} {tm : Array Value} {ds : List Deferred} {w : World} {x : Item} (hx : ∀ id, exitTo id (x :: kk) = exitTo id kk) (he : e ≠ .normal) (k : Out P b (x :: kk) cs m e tm ds w) : Out P b kk cs m e tm ds w := by
  cases e with
  | normal => exact (he rfl).elim
  | exit id => obtain ⟨k', h1, h2⟩ := k; exact ⟨k', h1.trans (hx id), h2⟩
  | ret => exact k

section
variable {w0 : World} {k : K}

theorem wfOps_of {nt : Nat} {ops : Array Oper} (h : ((ops.toList.map (compOp ops)).all fun o => o.dst.all (· < nt)) = true) : ∀ o ∈ ops, o.dst.all (· < nt) = true := by
  intro o ho
  have := List.all_eq_true.1 h (compOp ops o) (List.mem_map.2 ⟨o, by simpa using ho, rfl⟩)
  simpa [compOp] using this
theorem noDefOps_of {ops : Array Oper} (h : ((ops.toList.map (compOp ops)).all fun o => !isDefer o.op) = true) : ∀ o ∈ ops, isDefer o.op = false := by
  intro o ho
  have := List.all_eq_true.1 h (compOp ops o) (List.mem_map.2 ⟨o, by simpa using ho, rfl⟩)
  simpa [compOp] using this

/-- What code does, and how it is left. -/
def CodeOK (w0 : World) (k : K) (b : Frame) (c : Code) (g : Gh) (S : St) (w : World) (tm : Array Value) (ds' : List Deferred) (e : Ex) (fr' : Fr) (S' : St) : Prop :=
  ∀ kk cs, ∃ g' w' tm' ds1, Out k.P b kk cs (lone (mk b tm ds' (.code c :: kk)) cs w) e tm' ds1 w' ∧ G w0 g' S' w' ∧ Tr S g w S' g' w' ∧ RT g' w' tm' fr'.ρ ∧ DsR g' w' ds1 fr'.ds ∧ tm'.size = tm.size

set_option maxHeartbeats 1000000 in
theorem code_sound (hk : KS k) {cf : CallF} (hcl : Closed k cf) (hcf : CFS w0 k cf) (n : Nat) (fn : FuncId) (inR : Bool) : ∀ (c : Code) (fr : Fr) (S : St) (e : Ex) (fr' : Fr) (S' : St), evCode k cf n fn inR (comp c) fr S = some (e, fr', S') →
    ∀ (b : Frame) (tm : Array Value) (ds' : List Deferred) (g : Gh) (w : World), b.fn = fn → b.roundOf.isSome = inR → (inR = false ∨ noDef (comp c) = true) → G w0 g S w → RT g w tm fr.ρ → DsR g w ds' fr.ds → tm.size ≤ 1000000 → wfC tm.size (comp c) = true → CodeOK w0 k b c g S w tm ds' e fr' S' := by
  intro c
  induction c with
  | skip =>
    intro fr S e fr' S' h b tm ds' g w hbf hbr hnd hG hT hD hsz hwf kk cs
    simp only [comp, evCode, Option.some.injEq, Prod.mk.injEq] at h
    obtain ⟨rfl, rfl, rfl⟩ := h
    exact ⟨g, w, tm, ds', .one s_skip, hG, .refl .., hT, hD, rfl⟩
  | region id ops draw =>
    intro fr S e fr' S' h b tm ds' g w hbf hbr hnd hG hT hD hsz hwf kk cs
    have hbd : inR = false → b.roundOf = none := fun h => by rw [h] at hbr; simpa using hbr
    cases draw with
    | false =>
      simp only [comp, evCode, Option.map_eq_some_iff, Prod.mk.injEq] at h
      obtain ⟨⟨fr1, S1⟩, h, rfl, rfl, rfl⟩ := h
      simp only [comp, wfC] at hwf
      simp only [comp, noDef] at hnd
      obtain ⟨g', w', tm', ds1, h1, h2⟩ := ops_sound hk hcf (b := b) (ops := ops) (hnd.imp hbd (fun h => noDefOps_of h)) (List.range ops.size) tm fr.ρ ds' fr.ds g S w fr1 S1 (by rw [pick_range]; exact h) hG hT hD hsz (wfOps_of hwf) kk cs
      exact ⟨g', w', tm', ds1, .head s_region h1, h2⟩
    | true =>
      simp only [comp, evCode, Option.map_eq_some_iff, Prod.mk.injEq] at h
      obtain ⟨⟨fr1, S1⟩, h, rfl, rfl, rfl⟩ := h
      simp only [comp, wfC] at hwf
      simp only [comp, noDef] at hnd
      obtain ⟨_, hlow, hall⟩ := draw_sound hcl h
      obtain ⟨hGd, hTd⟩ := hG.drew
      have hl := hall _ (sched_lin ops hlow (w.tape w.drawn (.order b.fn id)))
      rw [pick_ops] at hl
      obtain ⟨g', w', tm', ds1, h1, h2, h3, h4⟩ := ops_sound hk hcf (b := b) (ops := ops) (hnd.imp hbd (fun h => noDefOps_of h)) _ tm fr.ρ ds' fr.ds g S w.drew fr1 S1 hl hGd (hT.ext hTd.ext) (hD.ext hTd.ext) hsz (wfOps_of hwf) kk cs
      exact ⟨g', w', tm', ds1, .head (by rw [s_draw, hk.mixed]) h1, h2, hTd.trans h3 (by rw [hG.n]; exact hG.floor), h4⟩
  | seq x y ihx ihy =>
    intro fr S e fr' S' h b tm ds' g w hbf hbr hnd hG hT hD hsz hwf kk cs
    simp only [comp, evCode, Option.bind_eq_some_iff] at h
    obtain ⟨⟨e1, fr1, S1⟩, h1, h⟩ := h
    simp only [comp, wfC, Bool.and_eq_true] at hwf
    simp only [comp, noDef, Bool.and_eq_true] at hnd
    obtain ⟨g1, w1, tm1, ds1, o1, G1, T1, RT1, D1, z1⟩ := ihx fr S e1 fr1 S1 h1 b tm ds' g w hbf hbr (hnd.imp id (·.1)) hG hT hD hsz hwf.1 (.code y :: kk) cs
    have hx : ∀ id, exitTo id (.code y :: kk) = exitTo id kk := fun _ => rfl
    cases e1 with
    | normal =>
      obtain ⟨g2, w2, tm2, ds2, o2, G2, T2, RT2, D2, z2⟩ := ihy fr1 S1 e fr' S' h b tm1 ds1 g1 w1 hbf hbr (hnd.imp id (·.2)) G1 RT1 D1 (by rw [z1]; exact hsz) (by rw [z1]; exact hwf.2) kk cs
      exact ⟨g2, w2, tm2, ds2, .of_steps (.head s_seq o1) o2, G2, T1.trans T2 (by rw [hG.n]; exact hG.floor), RT2, D2, by rw [z2, z1]⟩
    | exit id =>
      simp only [Option.some.injEq, Prod.mk.injEq] at h
      obtain ⟨rfl, rfl, rfl⟩ := h
      exact ⟨g1, w1, tm1, ds1, .of_steps (.one s_seq) (o1.pass hx (by simp)), G1, T1, RT1, D1, z1⟩
    | ret =>
      simp only [Option.some.injEq, Prod.mk.injEq] at h
      obtain ⟨rfl, rfl, rfl⟩ := h
      exact ⟨g1, w1, tm1, ds1, .of_steps (.one s_seq) (o1.pass hx (by simp)), G1, T1, RT1, D1, z1⟩
  | cond x a c iha ihc =>
    intro fr S e fr' S' h b tm ds' g w hbf hbr hnd hG hT hD hsz hwf kk cs
    simp only [comp, evCode] at h
    simp only [comp, wfC, Bool.and_eq_true] at hwf
    simp only [comp, noDef, Bool.and_eq_true] at hnd
    have hx := ev_sound hT x
    split at h
    · rename_i hv
      rw [hv] at hx
      obtain ⟨g1, w1, tm1, ds1, o1, rest⟩ := iha fr S e fr' S' h b tm ds' g w hbf hbr (hnd.imp id (·.1)) hG hT hD hsz hwf.1 kk cs
      exact ⟨g1, w1, tm1, ds1, .of_steps (.one (s_cond (t := true) (R_v hx))) o1, rest⟩
    · rename_i hv
      rw [hv] at hx
      obtain ⟨g1, w1, tm1, ds1, o1, rest⟩ := ihc fr S e fr' S' h b tm ds' g w hbf hbr (hnd.imp id (·.2)) hG hT hD hsz hwf.2 kk cs
      exact ⟨g1, w1, tm1, ds1, .of_steps (.one (s_cond (t := false) (R_v hx))) o1, rest⟩
    · cases h
  | block id a ih =>
    intro fr S e fr' S' h b tm ds' g w hbf hbr hnd hG hT hD hsz hwf kk cs
    simp only [comp, evCode, Option.map_eq_some_iff] at h
    obtain ⟨⟨e1, fr1, S1⟩, h1, h⟩ := h
    simp only [comp, wfC] at hwf
    simp only [comp, noDef] at hnd
    obtain ⟨g1, w1, tm1, ds1, o1, rest⟩ := ih fr S e1 fr1 S1 h1 b tm ds' g w hbf hbr hnd hG hT hD hsz hwf (.inBlock id :: kk) cs
    cases e1 with
    | normal =>
      simp only [Prod.mk.injEq] at h
      obtain ⟨rfl, rfl, rfl⟩ := h
      exact ⟨g1, w1, tm1, ds1, .head s_block (Steps.trans o1 (.one s_inBlock)), rest⟩
    | exit id' =>
      obtain ⟨k', hk1, hk2⟩ := o1
      by_cases hid : id' = id
      · simp only [hid, if_true, Prod.mk.injEq] at h
        obtain ⟨rfl, rfl, rfl⟩ := h
        subst hid
        exact ⟨g1, w1, tm1, ds1, .head s_block (hk2.trans (.one (s_exit (by rw [hk1]; simp [exitTo])))), rest⟩
      · simp only [hid, if_false, Prod.mk.injEq] at h
        obtain ⟨rfl, rfl, rfl⟩ := h
        have hne : (id == id') = false := by simp; exact fun h => hid h.symm
        exact ⟨g1, w1, tm1, ds1, ⟨k', by rw [hk1]; simp [exitTo, hne], .head s_block hk2⟩, rest⟩
    | ret =>
      simp only [Prod.mk.injEq] at h
      obtain ⟨rfl, rfl, rfl⟩ := h
      obtain ⟨k', hk2⟩ := o1
      exact ⟨g1, w1, tm1, ds1, ⟨k', .head s_block hk2⟩, rest⟩
  | loop a ih =>
    intro fr S e fr' S' h b tm ds' g w hbf hbr hnd hG hT hD hsz hwf kk cs
    simp only [comp, evCode] at h
    simp only [comp, wfC] at hwf
    simp only [comp, noDef] at hnd
    have key : ∀ (m : Nat) (fr : Fr) (S : St) (tm : Array Value) (ds' : List Deferred) (g : Gh) (w : World), rounds (evCode k cf n fn inR (comp a)) m fr S = some (e, fr', S') → G w0 g S w → RT g w tm fr.ρ → DsR g w ds' fr.ds → tm.size ≤ 1000000 → wfC tm.size (comp a) = true →
        ∃ g' w' tm' ds1, Out k.P b kk cs (lone (mk b tm ds' (.code a :: .inLoop a :: kk)) cs w) e tm' ds1 w' ∧ G w0 g' S' w' ∧ Tr S g w S' g' w' ∧ RT g' w' tm' fr'.ρ ∧ DsR g' w' ds1 fr'.ds ∧ tm'.size = tm.size := by
      intro m
      induction m with
      | zero => intro fr S tm ds' g w h; simp [rounds] at h
      | succ m ihm =>
        intro fr S tm ds' g w h hG hT hD hsz hwf
        simp only [rounds, Option.bind_eq_some_iff] at h
        obtain ⟨⟨e1, fr1, S1⟩, h1, h⟩ := h
        obtain ⟨g1, w1, tm1, ds1, o1, G1, T1, RT1, D1, z1⟩ := ih fr S e1 fr1 S1 h1 b tm ds' g w hbf hbr hnd hG hT hD hsz hwf (.inLoop a :: kk) cs
        have hx : ∀ id, exitTo id (.inLoop a :: kk) = exitTo id kk := fun _ => rfl
        cases e1 with
        | normal =>
          obtain ⟨g2, w2, tm2, ds2, o2, G2, T2, RT2, D2, z2⟩ := ihm fr1 S1 tm1 ds1 g1 w1 h G1 RT1 D1 (by rw [z1]; exact hsz) (by rw [z1]; exact hwf)
          exact ⟨g2, w2, tm2, ds2, .of_steps (Steps.trans o1 (.one s_inLoop)) o2, G2, T1.trans T2 (by rw [hG.n]; exact hG.floor), RT2, D2, by rw [z2, z1]⟩
        | exit id =>
          simp only [Option.some.injEq, Prod.mk.injEq] at h
          obtain ⟨rfl, rfl, rfl⟩ := h
          exact ⟨g1, w1, tm1, ds1, o1.pass hx (by simp), G1, T1, RT1, D1, z1⟩
        | ret =>
          simp only [Option.some.injEq, Prod.mk.injEq] at h
          obtain ⟨rfl, rfl, rfl⟩ := h
          exact ⟨g1, w1, tm1, ds1, o1.pass hx (by simp), G1, T1, RT1, D1, z1⟩
    obtain ⟨g1, w1, tm1, ds1, o1, rest⟩ := key n fr S tm ds' g w h hG hT hD hsz hwf
    exact ⟨g1, w1, tm1, ds1, .of_steps (.one s_loop) o1, rest⟩
  | exit id =>
    intro fr S e fr' S' h b tm ds' g w hbf hbr hnd hG hT hD hsz hwf kk cs
    simp only [comp, evCode, Option.some.injEq, Prod.mk.injEq] at h
    obtain ⟨rfl, rfl, rfl⟩ := h
    exact ⟨g, w, tm, ds', ⟨kk, rfl, .refl _ _⟩, hG, .refl .., hT, hD, rfl⟩
  | ret =>
    intro fr S e fr' S' h b tm ds' g w hbf hbr hnd hG hT hD hsz hwf kk cs
    simp only [comp, evCode, Option.some.injEq, Prod.mk.injEq] at h
    obtain ⟨rfl, rfl, rfl⟩ := h
    exact ⟨g, w, tm, ds', ⟨kk, .refl _ _⟩, hG, .refl .., hT, hD, rfl⟩
  | rangeFunc f params assign body iha ihb =>
    intro fr S e fr' S' h b tm ds' g w hbf hbr hnd hG hT hD hsz hwf kk cs
    simp only [comp, evCode] at h
    cases hin : inR with
    | true => simp [hin] at h
    | false =>
    rw [hin] at h hbr
    have hro : b.roundOf = none := by simpa using hbr
    simp only [Bool.false_eq_true, if_false, Option.bind_eq_some_iff] at h
    obtain ⟨⟨y, S3⟩, hc, h⟩ := h
    simp only [comp, wfC, Bool.and_eq_true] at hwf
    obtain ⟨⟨⟨⟨wf1, wf2⟩, wf3⟩, wf4⟩, wf5⟩ := hwf
    have hfl : S.floor ≤ g.n := by rw [hG.n]; exact hG.floor
    -- the two new objects
    have O1 : ObjR (g.add w.heap.size 0 0) (w.alloc (.deferred (some []))) g.n .dfr := ⟨by rw [add_box, add_use], by rw [add_box]; exact heap_alloc_new w _⟩
    obtain ⟨G1, T1⟩ := hG.alloc (.deferred (some [])) 0 0 .dfr O1
    generalize hg1 : g.add w.heap.size 0 0 = g1 at G1 T1
    have hb1 : g1.box S.next = w.heap.size := by rw [← hg1, ← hG.n, add_box]
    generalize hw1 : w.alloc (.deferred (some [])) = w1 at G1 T1
    have hw1s : w1.heap.size = w.heap.size + 1 := by rw [← hw1]; simp
    let L : Loop := { state := .ready, pending := none, fn := fn, tmps := tm, params, assign, body, defers := w.heap.size }
    have O2 : ObjR (g1.add w1.heap.size 0 0) (w1.alloc (.loop L)) g1.n (.loop ⟨fn, fr.ρ, params.toList, comp assign, comp body, S.next, none, false⟩) := by
      refine ⟨by rw [add_box, add_use], L, by rw [add_box]; exact heap_alloc_new w1 _, rfl, rfl, rfl, rfl, rfl, rfl, ⟨hsz, fun t ht => by simpa using List.all_eq_true.1 wf1 t ht, wf2, wf3, wf4, wf5⟩, ?_⟩
      have hext : Ext g1 w1 (g1.add w1.heap.size 0 0) (w1.alloc (.loop L)) := by
        refine ⟨rfl, Nat.le_succ _, fun b hb => add_box_old g1 _ _ _ hb, fun b hb => add_cap_old g1 _ _ _ hb, fun X => ?_, fun X i hX => cell_block (heap_alloc_old w1 _ X (G1.use_lt hX))⟩
        show g1.use X ≤ if X = w1.heap.size then 0 else g1.use X
        split
        · subst X; rw [G1.fresh _ (Nat.le_refl _)]; exact Nat.le_refl _
        · exact Nat.le_refl _
      exact (hT.ext T1.ext).ext hext
    obtain ⟨G2, T2⟩ := G1.alloc (.loop L) 0 0 _ O2
    generalize hg2 : g1.add w1.heap.size 0 0 = g2 at G2 T2
    have hn1 : g1.n = S.next + 1 := by rw [G1.n]; rfl
    have hb2 : g2.box (S.next + 1) = w1.heap.size := by rw [← hg2, ← hn1, add_box]
    have hlt2 : S.next + 1 < g2.n := by rw [G2.n]; show S.next + 1 < S.next + 1 + 1; omega
    generalize hw2 : w1.alloc (.loop L) = w2 at G2 T2
    have T12 := T1.trans T2 hfl
    have Ry : R g2 w2 (.func (.yield (w.heap.size + 1)) #[] #[]) (.yield (S.next + 1)) := by
      have := R.yield (g := g2) (w := w2) (S.next + 1) hlt2
      rwa [hb2, hw1s] at this
    have Ras : Rs g2 w2 (#[Value.func (.yield (w.heap.size + 1)) #[] #[]] : Array Value).toList [.yield (S.next + 1)] := by
      refine ⟨rfl, fun i c hi => ?_⟩
      cases i with
      | zero => simp at hi; subst hi; simpa using Ry
      | succ i => simp at hi
    obtain ⟨nf, hent, hgo⟩ := hcf _ _ _ _ _ hc g2 w2 _ _ G2 ((ev_sound hT f).ext T12.ext) Ras
    obtain ⟨v, w3, ⟨g3, _, G3, T3⟩, hst⟩ := hgo (mk b tm ({ target := .collected w.heap.size, args := #[] } :: ds') (.inRangeFunc (w.heap.size + 1) :: kk)) cs
    have hstep : step k.P (lone (mk b tm ds' (.code (.rangeFunc f params assign body) :: kk)) cs w) = .next (lone nf (mk b tm ({ target := .collected w.heap.size, args := #[] } :: ds') (.inRangeFunc (w.heap.size + 1) :: kk) :: cs) w2) := by
      have hL : ({ state := .ready, pending := none, fn := b.fn, tmps := tm, params, assign, body, defers := w.heap.size } : Loop) = L := by rw [hbf]
      have h2 : (w.alloc (.deferred (some []))).alloc (.loop { state := .ready, pending := none, fn := b.fn, tmps := tm, params, assign, body, defers := w.heap.size }) = w2 := by rw [hL, hw1, hw2]
      have := s_rangeFunc (P := k.P) (b := b) (tm := tm) (ds := ds') (k := kk) (cs := cs) (w := w) (f := f) (params := params) (assign := assign) (body := body) (nf := nf) hro (by rw [h2]; exact hent)
      rw [h2] at this
      exact this
    have hfin : (mk b tm ({ target := .collected w.heap.size, args := #[] } :: ds') (.inRangeFunc (w.heap.size + 1) :: kk)).finish v = mk b tm ({ target := .collected w.heap.size, args := #[] } :: ds') (.endRangeFunc (w.heap.size + 1) :: kk) := rfl
    rw [hfin] at hst
    have T123 := T12.trans T3 hfl
    have hlt3 : S.next + 1 < g3.n := Nat.lt_of_lt_of_le hlt2 T3.ext.n
    have hb3 : g3.box (S.next + 1) = w.heap.size + 1 := by rw [T3.ext.box _ hlt2, hb2, hw1s]
    have hl1 : (S.alloc .dfr).next = S.next + 1 := rfl
    rw [hl1] at h
    cases hget : S3.get (S.next + 1) with
    | loop r =>
      simp only [hget] at h
      have hO := G3.obj _ hlt3
      rw [hget] at hO
      obtain ⟨hu3, L3, hh3, _, _, _, _, hst3, hpe3, _, _⟩ := hO
      rw [hb3] at hh3 hu3
      cases hbusy : r.busy with
      | true => simp [hbusy] at h
      | false =>
      simp only [hbusy, Bool.false_eq_true, if_false] at h
      have hnb : (L3.state == LoopState.busy) = false := by
        rw [hst3]; unfold loopState; rw [hbusy]; simp only [Bool.false_eq_true, if_false]; split <;> rfl
      have hlt : w.heap.size + 1 < w3.heap.size := (Array.getElem?_eq_some_iff.1 hh3).1
      have hend := s_endRangeFunc (P := k.P) (b := b) (tm := tm) (ds := { target := .collected w.heap.size, args := #[] } :: ds') (k := kk) (cs := cs) hh3 hnb
      have hlive : (S3.get (S.next + 1)).live := by rw [hget]; trivial
      have hf3 : S3.floor ≤ S.next + 1 := by rw [T123.floor]; have := hG.floor; omega
      have hput := G3.put (w' := { w3 with heap := w3.heap.setIfInBounds (w.heap.size + 1) (.loop { L3 with state := .exhausted }) }) hlt3 hlive hf3 (by rw [hb3]; exact only_putObj w3 _ _) (by rw [hb3]; exact hu3) .dead trivial
      obtain ⟨G4, T4⟩ := hput
      have T1234 := T123.trans T4 hfl
      have hD' : DsR g3 { w3 with heap := w3.heap.setIfInBounds (w.heap.size + 1) (.loop { L3 with state := .exhausted }) } ({ target := .collected w.heap.size, args := #[] } :: ds') (.coll S.next :: fr.ds) := by
        have hlt0 : S.next < g3.n := by omega
        refine ⟨⟨hlt0, ?_⟩, hD.ext T1234.ext⟩
        have hx : g3.box S.next = w.heap.size := by
          have e2 : S.next < g1.n := by omega
          rw [T3.ext.box _ (by omega), T2.ext.box _ e2, hb1]
        rw [hx]
      have pre := Steps.head hstep (hst.trans (.one hend))
      cases hpend : r.pending with
      | none =>
        rw [hpend] at hpe3 h
        simp only [Option.some.injEq, Prod.mk.injEq] at h
        obtain ⟨rfl, rfl, rfl⟩ := h
        have hp3 : L3.pending = none := by simpa using hpe3
        have ep : (L3.pending.map Item.code).toList ++ kk = kk := by rw [hp3]; rfl
        rw [ep] at pre
        exact ⟨g3, _, tm, _, pre, G4, T1234, hT.ext T1234.ext, hD', rfl⟩
      | some cc =>
        rw [hpend] at hpe3
        obtain ⟨c3, hc3, hcc⟩ := Option.map_eq_some_iff.1 hpe3
        have ep : (L3.pending.map Item.code).toList ++ kk = .code c3 :: kk := by rw [hc3]; rfl
        rw [ep] at pre
        simp only [hpend] at h
        cases cc with
        | ret =>
          simp only [Option.some.injEq, Prod.mk.injEq] at h
          obtain ⟨rfl, rfl, rfl⟩ := h
          obtain rfl : c3 = .ret := by
            cases c3 <;> first | rfl | (rename_i dd; cases dd <;> simp [comp] at hcc) | simp [comp] at hcc
          exact ⟨g3, _, tm, _, ⟨kk, pre⟩, G4, T1234, hT.ext T1234.ext, hD', rfl⟩
        | exit id =>
          simp only [Option.some.injEq, Prod.mk.injEq] at h
          obtain ⟨rfl, rfl, rfl⟩ := h
          obtain rfl : c3 = .exit id := by
            cases c3 <;> first | (simp [comp] at hcc; rw [hcc]; done) | (rename_i dd; cases dd <;> simp [comp] at hcc) | simp [comp] at hcc
          exact ⟨g3, _, tm, _, ⟨kk, rfl, pre⟩, G4, T1234, hT.ext T1234.ext, hD', rfl⟩
        | _ => cases h
    | _ => simp [hget] at h
  | _ =>
    intro fr S e fr' S' h
    simp [comp, evCode] at h
end
end Go.Sv
end
section
set_option linter.all false
/- Bodies, rounds, and calls of any depth. -/
namespace Go.Sv
open Go Go.RowKit

def rt (b : Frame) (tm : Array Value) (ds : List Deferred) (todo : List Item) : Frame := { b with tmps := tm, defers := ds, todo, mode := .returning }

section
variable {P : Program} {b : Frame} {tm : Array Value} {ds : List Deferred} {k : List Item} {cs : List Frame} {w : World}

theorem s_done (hr : b.roundOf = none) : step P (lone (mk b tm ds []) cs w) = .next (lone (rt b tm ds []) cs w) := step_lone_go (by simp [stepG, stepG.exec, mk, rt, hr])
theorem s_ret (hr : b.roundOf = none) : step P (lone (mk b tm ds (.code .ret :: k)) cs w) = .next (lone (rt b tm ds (.code .ret :: k)) cs w) := step_lone_go (by simp [stepG, stepG.exec, mk, rt, hr])

theorem s_coll {B : Nat} (h : w.heap[B]? = some (.deferred (some []))) : step P (lone (rt b tm ({ target := .collected B, args := #[] } :: ds) k) cs w) = .next (lone (rt b tm ds k) cs { w with heap := w.heap.setIfInBounds B (.deferred none) }) := by
  refine step_lone_go ?_
  have hE : (Instr.takeDeferred B).run P w = .ok [] { w with heap := w.heap.setIfInBounds B (.deferred none) } := by
    simp [Instr.takeDeferred, getObj, setObj, Sem.run, h]
  simp [stepG, unwind, rt, Sem.runT_eq, hE]

theorem run_callFunc {f : FuncId} {fn : Func} {body : Code} {args : Array Value} (hf : P.funcs[f]? = some fn) (hn : (fn.name == "runtime.NumGoroutine") = false) (hb : fn.body = some body) : (callFunc f args).run P w = .ok (.enter f args) w := by
  have hn' : ¬ fn.name = "runtime.NumGoroutine" := by simpa using hn
  simp [callFunc, Sem.run, program, hf, hb, hn']

theorem s_calldef {d : Deferred} {f : FuncId} {cap : Array Value} {fn : Func} {body : Code} (hd : d.target = .fn (.func f) cap) (hf : P.funcs[f]? = some fn) (hn : (fn.name == "runtime.NumGoroutine") = false) (hb : fn.body = some body) :
    step P (lone (rt b tm (d :: ds) k) cs w) = .next (lone (Frame.enter P f (d.args ++ cap) .deferred) (rt b tm ds k :: cs) w) := by
  refine step_lone_go ?_
  obtain ⟨t, args⟩ := d
  simp only at hd
  subst hd
  have hi : (invoke (.fn (.func f) cap) args).run P w = .ok (.enter f (args ++ cap)) w := by
    simp only [invoke]
    exact run_callFunc hf hn hb
  simp [stepG, unwind, rt, callDeferred, Sem.runT_eq, hi]
end

section
variable {w0 : World} {k : K} {g : Gh} {S : St} {w : World}

/-- Deferred calls are as told. -/
def DFS (w0 : World) (k : K) (cf : CallF) : Prop := ∀ f args S x' S', k.prim f = none → cf (.func f [] []) args S = some (x', S') → ∀ g w us, G w0 g S w → Rs g w us.toList args →
  (∃ fn body, k.P.funcs[f]? = some fn ∧ (fn.name == "runtime.NumGoroutine") = false ∧ fn.body = some body) ∧
  ∀ c cs, c.mode = .returning → ∃ v w', Good w0 S g w x' S' v w' ∧ Steps k.P (lone (Frame.enter k.P f us .deferred) (c :: cs) w) (lone c cs w')

theorem defers_sound {cf : CallF} (hdf : DFS w0 k cf) {b : Frame} {tm : Array Value} {todo : List Item} {cs : List Frame} : ∀ (ds : List Df) (S : St) (S' : St) (ds' : List Deferred) (g : Gh) (w : World), evDefers k cf ds S = some S' → G w0 g S w → DsR g w ds' ds →
    ∃ g' w', Steps k.P (lone (rt b tm ds' todo) cs w) (lone (rt b tm [] todo) cs w') ∧ G w0 g' S' w' ∧ Tr S g w S' g' w'
  | [], S, S', ds', g, w, h, hG, hD => by
    simp only [evDefers, Option.some.injEq] at h
    subst h
    cases ds' with
    | nil => exact ⟨g, w, .refl .., hG, .refl ..⟩
    | cons d r => exact hD.elim
  | .coll d :: r, S, S', ds', g, w, h, hG, hD => by
    have hfl : S.floor ≤ g.n := by rw [hG.n]; exact hG.floor
    cases ds' with
    | nil => exact hD.elim
    | cons d' r' =>
    obtain ⟨⟨hlt, ht⟩, hD⟩ := hD
    obtain ⟨t, as⟩ := d'
    simp only at ht
    subst ht
    simp only [evDefers] at h
    split at h
    · rename_i hget
      split at h
      · rename_i hf
        have hO := hG.obj d hlt
        rw [hget] at hO
        obtain ⟨hu, hh⟩ := hO
        obtain ⟨G1, T1⟩ := hG.put hlt (by rw [hget]; trivial) hf (only_putObj w _ (.deferred none)) hu .dead trivial
        obtain ⟨g2, w2, h2, G2, T2⟩ := defers_sound hdf r _ S' r' g _ h G1 (hD.ext T1.ext)
        refine ⟨g2, w2, .head ?_ h2, G2, T1.trans T2 hfl⟩
        have := s_coll (P := k.P) (b := b) (tm := tm) (ds := r') (k := todo) (cs := cs) hh
        exact this
      · cases h
    · cases h
  | .call f args :: r, S, S', ds', g, w, h, hG, hD => by
    have hfl : S.floor ≤ g.n := by rw [hG.n]; exact hG.floor
    cases ds' with
    | nil => exact hD.elim
    | cons d' r' =>
    obtain ⟨⟨cap, ht, hrs⟩, hD⟩ := hD
    simp only [evDefers] at h
    split at h
    · cases h
    · rename_i hp
      simp only [Option.bind_eq_some_iff] at h
      obtain ⟨⟨x, S1⟩, hc, h⟩ := h
      have hp' : k.prim f = none := by simpa using hp
      obtain ⟨⟨fn, body, hf, hn, hb⟩, hgo⟩ := hdf f args S x S1 hp' hc g w (d'.args ++ cap) hG (by simpa using hrs)
      obtain ⟨v, w1, ⟨g1, _, G1, T1⟩, hst⟩ := hgo (rt b tm r' todo) cs rfl
      obtain ⟨g2, w2, h2, G2, T2⟩ := defers_sound hdf r _ S' r' g1 w1 h G1 (hD.ext T1.ext)
      exact ⟨g2, w2, .head (s_calldef ht hf hn hb) (hst.trans h2), G2, T1.trans T2 hfl⟩

theorem loadVar_sound (hG : G w0 g S w) {t : TypeId} {u : Value} {a x : SV} (ha : R g w u a) (h : loadE k t a S = some x) : ∃ v, (do loadVar t (← asAddr u) : Sem Value).run k.P w = .ok v w ∧ R g w v x := by
  obtain ⟨v, hv, hR⟩ := load_sound hG ha h
  refine ⟨v, ?_, hR⟩
  have : ∃ ad, u = .pointer (some ad) := by
    unfold loadE at h
    cases ha with
    | ptr => exact ⟨_, rfl⟩
    | cp => exact ⟨_, rfl⟩
    | _ => simp at h
  obtain ⟨ad, rfl⟩ := this
  simpa [Instr.loadAt, Instr.sureAddr, asAddr] using hv

theorem results_list {F : ResultVar → Sem Value} {ρ : Nat → SV} (hF : ∀ r x, resE k r ρ S = some x → ∃ v, (F r).run k.P w = .ok v w ∧ R g w v x) : ∀ (rs : List ResultVar) (xs : List SV), (rs.mapM fun r => resE k r ρ S) = some xs →
    ∃ vs : List Value, (rs.mapM F).run k.P w = .ok vs w ∧ Rs g w vs xs
  | [], xs, h => by
    simp only [List.mapM_nil, Option.pure_def, Option.some.injEq] at h
    subst h
    exact ⟨[], rfl, rfl, fun i c hi => by simp at hi⟩
  | r :: rs, xs, h => by
    simp only [List.mapM_cons, Option.bind_eq_bind, Option.bind_eq_some_iff, Option.pure_def, Option.some.injEq] at h
    obtain ⟨x, hx, ys, hys, rfl⟩ := h
    obtain ⟨v, hv, hR⟩ := hF r x hx
    obtain ⟨vs, hvs, hRs⟩ := results_list hF rs ys hys
    refine ⟨v :: vs, ?_, by simp [hRs.1], fun i c hi => ?_⟩
    · simp only [List.mapM_cons, Sem.run_bind, hv, Result.andThen_ok, hvs]
      rfl
    · cases i with
      | zero => simp at hi; subst hi; simpa using hR
      | succ i => simpa using hRs.2 i c (by simpa using hi)

theorem results_sound (hG : G w0 g S w) {tm : Array Value} {ρ : Nat → SV} (hT : RT g w tm ρ) {fn : Func} {x : SV} (h : resultsE k fn.results.toList ρ S = some x) :
    ∃ v, (results fn tm).run k.P w = .ok v w ∧ R g w v x := by
  have key : ∀ xs, (fn.results.toList.mapM fun r => resE k r ρ S) = some xs → ∃ vs : List Value, (results fn tm).run k.P w = .ok (if h : vs.toArray.size = 1 then vs.toArray[0] else .tuple vs.toArray) w ∧ Rs g w vs xs := by
    intro xs hxs
    unfold results
    rw [Array.mapM_eq_mapM_toList]
    generalize hF : (fun x : ResultVar => _) = F
    have hF' : ∀ r x, resE k r ρ S = some x → ∃ v, (F r).run k.P w = .ok v w ∧ R g w v x := by
      intro r x hr
      subst hF
      cases r with
      | tmp t =>
        simp only [resE, Option.some.injEq] at hr
        subst hr
        exact ⟨_, rfl, hT t⟩
      | cell a t => exact loadVar_sound hG (hT a) hr
    obtain ⟨vs, hvs, hRs⟩ := results_list hF' _ xs hxs
    refine ⟨vs, ?_, hRs⟩
    simp only [Sem.run_bind, Sem.run_map, hvs, Result.andThen_ok]
    rfl
  unfold resultsE at h
  split at h
  · rename_i r hr
    rw [hr] at key
    obtain ⟨vs, hv, h1, h2⟩ := key [x] (by simp [h])
    have h1' : vs.length = 1 := by simpa using h1
    obtain ⟨v, rfl⟩ := List.length_eq_one_iff.1 h1'
    refine ⟨v, by simpa using hv, by simpa using h2 0 x rfl⟩
  · rename_i hne
    simp only [Option.map_eq_some_iff] at h
    obtain ⟨xs, hxs, rfl⟩ := h
    obtain ⟨vs, hv, h1, h2⟩ := key xs hxs
    have hl : vs.length ≠ 1 := by
      have e : xs.length = fn.results.toList.length := by
        clear hv h1 h2 vs key hne
        revert xs
        induction fn.results.toList with
        | nil => intro xs h; simp at h; subst h; rfl
        | cons r rs ih =>
          intro xs h
          simp only [List.mapM_cons, Option.bind_eq_bind, Option.bind_eq_some_iff, Option.pure_def, Option.some.injEq] at h
          obtain ⟨x, _, ys, hys, rfl⟩ := h
          simp [ih ys hys]
      intro hc
      rw [h1, e] at hc
      obtain ⟨r, hr⟩ := List.length_eq_one_iff.1 hc
      exact hne r hr
    refine ⟨.tuple vs.toArray, by rw [hv, dif_neg (by simpa using hl)], .tuple xs vs.toArray (by simpa using h1) fun i c hi => ?_⟩
    rw [getD_list]
    exact h2 i c hi

/-- A body, from the frame that is entered to the frame that is done. -/
theorem body_sound (hk : KS k) {cf : CallF} (hcl : Closed k cf) (hcf : CFS w0 k cf) (hdf : DFS w0 k cf) (n : Nat) {f : FuncId} {c : CF} (hf : k.fns f = some c) {args : List SV} {x : SV} {S' : St} (h : evBody k cf n f c args S = some (x, S')) (hG : G w0 g S w) {us : Array Value} (ha : Rs g w us.toList args) (kind : CallKind) (cs : List Frame) :
    ∃ fr fn v w', Steps k.P (lone (Frame.enter k.P f us kind) cs w) (lone fr cs w') ∧ fr.fn = f ∧ fr.mode = .returning ∧ fr.defers = [] ∧ fr.kind = kind ∧ k.P.funcs[f]? = some fn ∧ (results fn fr.tmps).run k.P w' = .ok v w' ∧ Good w0 S g w x S' v w' := by
  have hfl : S.floor ≤ g.n := by rw [hG.n]; exact hG.floor
  obtain ⟨fn, body, hP, hc, hb, hn, hwf, hnt⟩ := hk.fns f c hf
  unfold evBody at h
  split at h
  · rename_i hlen
    simp only [Option.bind_eq_some_iff] at h
    obtain ⟨⟨e, fr1, S1⟩, hcode, h⟩ := h
    have hent : Frame.enter k.P f us kind = mk { fn := f, tmps := #[], todo := [], defers := [], mode := .run, kind } (us ++ Array.replicate (fn.ntmps - us.size) undef) [] [.code body] := by
      simp [Frame.enter, mk, hP, hb]
    have hcb : c.body = comp body := by rw [← hc]; simp [compF, hb]
    have hcn : c.nt = fn.ntmps := by rw [← hc]; rfl
    have hus : us.size = args.length := by simpa using ha.1
    have hsz : (us ++ Array.replicate (fn.ntmps - us.size) undef).size = c.nt := by simp; omega
    rw [hent]
    generalize htm : us ++ Array.replicate (fn.ntmps - us.size) undef = tm at hsz
    have hT : RT g w tm (initρ args) := by
      intro t
      unfold initρ
      by_cases ht : t < args.length
      · have e : tm.getD t undef = us.toList.getD t undef := by
          rw [← htm]
          simp [Array.getD, Array.getElem_append, hus, ht, List.getD, show t < us.size by omega]
          omega
        rw [e]
        exact ha.2 t _ (by simp [List.getD, ht])
      · have e : tm.getD t undef = undef := by
          rw [← htm]
          by_cases h2 : t < us.size + (fn.ntmps - us.size)
          · simp [Array.getD, Array.getElem_append, h2, show ¬ t < us.size by omega]
          · simp [Array.getD, h2]
        rw [e]
        have : args.getD t (.v undef) = .v undef := by simp [List.getD, List.getElem?_eq_none (show args.length ≤ t by omega)]
        rw [this]
        exact .v undef
    generalize hbb : ({ fn := f, tmps := #[], todo := [], defers := [], mode := .run, kind } : Frame) = b
    have hbf : b.fn = f := by rw [← hbb]
    have hbr : b.roundOf = none := by rw [← hbb]
    have hbk : b.kind = kind := by rw [← hbb]
    rw [hcb] at hcode hwf
    obtain ⟨g1, w1, tm1, ds1, o1, G1, T1, RT1, D1, z1⟩ := code_sound hk hcl hcf n f false body _ _ _ _ _ hcode b tm [] g w hbf (by rw [hbr]; rfl) (.inl rfl) hG hT trivial (by omega) (by rw [hsz]; exact hwf) [] cs
    have fin : ∀ todo, Steps k.P (lone (mk b tm [] [.code body]) cs w) (lone (rt b tm1 ds1 todo) cs w1) → ((evDefers k cf fr1.ds S1).bind fun S'' => (resultsE k c.res fr1.ρ S'').map fun x => (x, S'')) = some (x, S') → ∃ fr fn v w', Steps k.P (lone (mk b tm [] [.code body]) cs w) (lone fr cs w') ∧ fr.fn = f ∧ fr.mode = .returning ∧ fr.defers = [] ∧ fr.kind = kind ∧ k.P.funcs[f]? = some fn ∧ (results fn fr.tmps).run k.P w' = .ok v w' ∧ Good w0 S g w x S' v w' := by
      intro todo hst h
      simp only [Option.bind_eq_some_iff, Option.map_eq_some_iff, Prod.mk.injEq] at h
      obtain ⟨S2, hd, x', hr, rfl, rfl⟩ := h
      obtain ⟨g2, w2, h2, G2, T2⟩ := defers_sound hdf (b := b) (tm := tm1) (todo := todo) (cs := cs) _ _ _ _ _ _ hd G1 D1
      have hres : c.res = fn.results.toList := by rw [← hc]; rfl
      rw [hres] at hr
      obtain ⟨v, hv, hR⟩ := results_sound G2 (RT1.ext T2.ext) hr
      exact ⟨rt b tm1 [] todo, fn, v, w2, hst.trans h2, hbf, rfl, rfl, hbk, hP, hv, g2, hR, G2, T1.trans T2 hfl⟩
    cases e with
    | normal => exact fin [] (Steps.trans o1 (.one (s_done hbr))) h
    | ret =>
      obtain ⟨k', o1⟩ := o1
      exact fin _ (Steps.trans o1 (.one (s_ret hbr))) h
    | exit id => cases h
  · cases h
end
end Go.Sv
end
