/- Parts of the proofs of this seat's laws. -/
import Derived.Test.YtkflapebfmcmaaaGreatBOnce15
section
set_option linter.all false
/- What is told on is what is. -/
namespace Go.Sv
open Go

section
variable {k : K} {h : H} {cf : CallF}

theorem append_next {t e : TypeId} {s y x : SV} {S S' : St} (he : elem? k t = some e) (hb : k.inBox e ≠ 1) (h : appendE k t s y S = some (x, S')) : S.next ≤ S'.next := by
  simp only [appendE, Option.bind_eq_some_iff] at h
  obtain ⟨e', he', sz, hsz, by_, hby, z, hz, ⟨n, ys⟩, hsrc, h⟩ := h
  obtain rfl : e = e' := by rw [he] at he'; injection he'
  simp only [hb, if_false, ne_eq, not_false_eq_true, and_true, and_false] at h
  have hsame : S = S' → S.next ≤ S'.next := by rintro rfl; exact Nat.le_refl _
  have hnew : ∀ o, S.alloc o = S' → S.next ≤ S'.next := by rintro o rfl; exact Nat.le_succ _
  split at h
  · cases h
  split at h
  · split at h <;> first | (simp only [Option.some.injEq, Prod.mk.injEq] at h; exact hsame h.2) | cases h
  · split at h
    · split at h
      · simp only [Option.some.injEq, Prod.mk.injEq] at h; exact hnew _ h.2
      · cases h
    · split at h
      · simp only [Option.some.injEq, Prod.mk.injEq] at h; exact hnew _ h.2
      · cases h
    · rename_i b n1 cs
      split at h
      · split at h
        · simp only [Option.some.injEq, Prod.mk.injEq] at h
          obtain ⟨_, rfl⟩ := h
          exact Nat.le_succ S.next
        · cases h
      · cases h
    · split at h
      · simp at h
      · cases h
    · cases h

theorem gop_grow_next (hcl : Closed k cf) {o : COp} {ρ : Nat → SV} {S S' : St} {x : SV} (hc : cls k o = .grow) (h : gop k cf o ρ S = some (x, S')) : S.next ≤ S'.next := by
  have hnew : ∀ o, S.alloc o = S' → S.next ≤ S'.next := by rintro o rfl; exact Nat.le_succ _
  obtain ⟨d, op, ty, g⟩ := o
  cases op with
  | alloc t =>
    simp only [gop, evOpF, frozen, Bool.false_eq_true, if_false, evOp, Option.map_eq_some_iff, Prod.mk.injEq] at h
    obtain ⟨z, _, _, h⟩ := h
    exact hnew _ h
  | box t y =>
    simp only [cls] at hc
    split at hc
    · cases hc
    · rename_i hs
      simp only [gop, evOpF, frozen, Bool.false_eq_true, if_false, evOp, hs, Option.map_eq_some_iff, Prod.mk.injEq] at h
      obtain ⟨z, _, _, h⟩ := h
      exact hnew _ h
  | buildSlice t n parts =>
    simp only [cls] at hc
    split at hc
    · cases hc
    · rename_i hf
      simp only [gop, evOpF_not (fun q => hf (.inl q)), evOp, Option.bind_eq_some_iff] at h
      obtain ⟨e, he, z, hz, sz, hsz, pl, hpl, h⟩ := h
      split at h
      · cases h
      · simp only [Option.map_eq_some_iff] at h
        obtain ⟨cs, _, h⟩ := h
        split at h
        · simp only [Prod.mk.injEq] at h
          obtain ⟨_, rfl⟩ := h
          exact Nat.le_refl _
        · split at h
          · simp only [Prod.mk.injEq] at h; exact hnew _ h.2
          · simp only [Prod.mk.injEq] at h; exact hnew _ h.2
  | call c =>
    obtain ⟨cal, args, ats⟩ := c
    cases cal with
    | value f =>
      cases f with
      | func f =>
        simp only [cls] at hc
        split at hc
        · cases hc
        · split at hc
          · cases hc
          · split at hc
            · rename_i hpg
              exact (hcl.grow f [] [] _ S x S' hpg h).1
            · cases hc
      | _ => simp [cls] at hc
    | builtin b =>
      cases b with
      | append =>
        simp only [cls] at hc
        split at hc
        · cases hc
        · rename_i hf
          split at hc
          · rename_i t ts hts
            split at hc
            · rename_i e he
              split at hc
              · cases hc
              · rename_i hbx
                simp only [gop, evOpF_not hf, evOp] at h
                obtain ⟨t', t2, s, y, heq, h⟩ := builtin_append h
                have : t' = t := by rw [hts] at heq; injection heq with h1 h2; exact h1.symm
                subst this
                exact append_next he hbx h
            · cases hc
          · cases hc
      | _ => simp [cls] at hc
    | _ => simp [cls] at hc
  | slice t y lo hi mx => cases mx <;> simp [cls] at hc
  | _ => simp [cls] at hc

theorem gop_next (hcl : Closed k cf) {o : COp} {ρ : Nat → SV} {S S' : St} {x : SV} (hc : cls k o ≠ .wild) (h : gop k cf o ρ S = some (x, S')) : S.next ≤ S'.next := by
  cases hcc : cls k o with
  | pure => rw [(pure_go hcl hcc h).1]; exact Nat.le_refl _
  | load =>
    have hg : gval k cf ⟨o.dst, o.op, o.ty, none⟩ ρ S = some (x, S') := h
    have hc' : cls k ⟨o.dst, o.op, o.ty, none⟩ = .load := hcc
    rw [gval_load hc' hg]; exact Nat.le_refl _
  | peek => rw [gop_peek hcl hcc h]; exact Nat.le_refl _
  | grow => exact gop_grow_next hcl hcc h
  | wild => exact (hc hcc).elim

variable {Z : Type}

theorem cOpD_sound (hcl : Closed k cf) {m : Nat} {o : COp} {ρ : Nat → SV} {S : St} {K : SV → St → Option Z} {z : Z} (hm : m ≤ S.next) (e : cOpD k h cf m o ρ S K = some z) : loadOK m o ρ = true ∧ isDefer o.op = false ∧ ∃ x S', gop k cf o ρ S = some (x, S') ∧ m ≤ S'.next ∧ K x S' = some z := by
  obtain ⟨d, op, ty, g⟩ := o
  unfold cOpD at e
  split at e
  · rename_i t a heq
    simp only at heq
    subst heq
    have fin : ∀ {y : SV}, ev ρ a = y → ((loadE k t y S).bind fun x => openTy k h t x fun x => K x S) = some z → ∃ x S', gop k cf ⟨d, .load t a, ty, g⟩ ρ S = some (x, S') ∧ m ≤ S'.next ∧ K x S' = some z := by
      intro y hy e
      simp only [Option.bind_eq_some_iff] at e
      obtain ⟨x, h1, h2⟩ := e
      exact ⟨x, S, by rw [gop_load rfl, hy, h1]; rfl, hm, openTy_sound h2⟩
    unfold loadK at e
    split at e
    · rename_i b off hb
      split at e
      · rename_i hlt
        exact ⟨by simp [loadOK, hb, hlt], rfl, fin hb e⟩
      · cases e
    · rename_i y hne
      refine ⟨?_, rfl, fin rfl e⟩
      unfold loadOK
      simp only []
  · rename_i hne
    have hlo : loadOK m ⟨d, op, ty, g⟩ ρ = true := by
      unfold loadOK
      split
      · rename_i t a heq; exact (hne t a heq).elim
      · rfl
    split at e
    · obtain ⟨hd, x, S', h1, h2⟩ := cOp_sound e
      split at h2
      · rename_i hm'
        exact ⟨hlo, hd, x, S', h1, hm', h2⟩
      · cases h2
    · rename_i hw
      obtain ⟨hd, x, S', h1, h2⟩ := cOp_sound e
      exact ⟨hlo, hd, x, S', h1, Nat.le_trans hm (gop_next hcl hw h1), h2⟩

theorem number_snd (ops : List COp) : (number ops).map (·.2) = ops := by
  unfold number
  rw [List.map_snd_zip]
  simp

theorem number_mem {ops : List COp} {o : Nat × COp} (h : o ∈ number ops) : o.2 ∈ ops := by
  have := List.mem_map_of_mem (f := (·.2)) h
  rwa [number_snd] at this

theorem addW_congr {i : Nat} {o : COp} {ρ ρ' : Nat → SV} {W : Watch} (h : ∀ t ∈ reads o, ρ t = ρ' t) : addW i o ρ W = addW i o ρ' W := by
  obtain ⟨d, op, ty, g⟩ := o
  cases op with
  | load t a => simp only [addW]; rw [ev_congr fun t ht => h t (by simp [reads, opReads, ht])]
  | _ => rfl

theorem askK_sound {ws : List (TypeId × SV)} {S S' : St} {q : Option Z} {z : Z} (e : askK k ws S S' q = some z) : asked k ws S S' = true ∧ q = some z := by
  unfold askK at e
  split at e
  · exact ⟨rfl, e⟩
  · split at e
    · rename_i h; exact ⟨h, e⟩
    · cases e

theorem cOpsD_sound (hcl : Closed k cf) {deps : List (List Nat)} {m : Nat} : ∀ (ops : List (Nat × COp)) (ρ : Nat → SV) (U : List Nat) (W : Watch) (S : St) (K : (Nat → SV) → List Nat → St → Option Z) (z : Z), m ≤ S.next → cOpsD k h cf deps m ops ρ U W S K = some z → ∀ ρ2 ds, Agree U ρ2 ρ →
    ∃ ρ2' S' ρ' U', evOpsD k cf deps m ops W ⟨ρ2, ds⟩ S = some (⟨ρ2', ds⟩, S') ∧ Agree U' ρ2' ρ' ∧ (∀ t, (∀ o ∈ ops, o.2.dst ≠ some t) → ρ2' t = ρ2 t) ∧ K ρ' U' S' = some z
  | [], ρ, U, W, S, K, z, hm, e, ρ2, ds, ha => ⟨ρ2, S, ρ, U, rfl, ha, fun _ _ => rfl, e⟩
  | (i, o) :: r, ρ, U, W, S, K, z, hm, e, ρ2, ds, ha => by
    simp only [cOpsD] at e
    split at e
    · rename_i hk
      obtain ⟨hk, hd⟩ := hk
      have hr : ∀ t ∈ reads o, ρ2 t = ρ t := by
        intro t ht
        have := List.all_eq_true.1 hk t ht
        refine ha t ?_
        simpa using this
      have fin : ∀ (x : SV) (S1 : St), loadOK m o ρ = true → m ≤ S1.next → gval k cf o ρ S = some (x, S1) → askK k (askW k deps i o W) S S1 (cOpsD k h cf deps m r (updO ρ o.dst x) (dropO U o.dst) (addW i o ρ W) S1 K) = some z →
          ∃ ρ2' S' ρ' U', evOpsD k cf deps m ((i, o) :: r) W ⟨ρ2, ds⟩ S = some (⟨ρ2', ds⟩, S') ∧ Agree U' ρ2' ρ' ∧ (∀ t, (∀ p ∈ (i, o) :: r, p.2.dst ≠ some t) → ρ2' t = ρ2 t) ∧ K ρ' U' S' = some z := by
        intro x S1 hlo hm1 hg e
        obtain ⟨hask, e⟩ := askK_sound e
        obtain ⟨ρ2', S', ρ', U', h1, h2, h3, h4⟩ := cOpsD_sound hcl r _ _ _ S1 K z hm1 e (Fr.put ⟨ρ2, ds⟩ o.dst x).ρ ds (ha.put o.dst x ds)
        refine ⟨ρ2', S', ρ', U', ?_, h2, fun t ht => ?_, h4⟩
        · have hD : evD1 k cf m o ⟨ρ2, ds⟩ S = some (Fr.put ⟨ρ2, ds⟩ o.dst x, S1) := (evD1_some hd).2 ⟨by rw [loadOK_congr (ρ' := ρ) hr]; exact hlo, hm, hm1, x, by rw [gval_congr (ρ' := ρ) hr]; exact hg, rfl⟩
          simp only [evOpsD, hD, Option.bind_some]
          rw [if_pos hask, ← h1, addW_congr hr]
          congr 1
          cases o.dst <;> rfl
        · rw [h3 t fun p hp => ht p (by simp [hp]), put_ρ, if_neg (ht (i, o) (by simp))]
      have skip : ∀ {q : Option Z}, cSkip m o ρ q = some z → loadOK m o ρ = true ∧ q = some z := by
        intro q e
        unfold cSkip at e
        split at e
        · rename_i h; exact ⟨h, e⟩
        · cases e
      cases hg : o.g with
      | none =>
        simp only [hg] at e
        obtain ⟨hlo, _, x, S1, h1, h2, h3⟩ := cOpD_sound hcl hm e
        exact fin x S1 hlo h2 (by simp [gval, hg, h1]) h3
      | some p =>
        obtain ⟨t, w⟩ := p
        simp only [hg] at e
        unfold splitG at e
        split at e
        · rename_i hx
          simp only [upd_same hx] at e
          split at e
          · rename_i hw
            obtain ⟨hlo, _, x, S1, h1, h2, h3⟩ := cOpD_sound hcl hm e
            exact fin x S1 hlo h2 (by simp [gval, hg, hx, hw, h1]) h3
          · rename_i hw
            obtain ⟨hlo, e⟩ := skip e
            exact fin _ S hlo hm (by simp [gval, hg, hx, hw]) e
        · rename_i hx
          simp only [upd_same hx] at e
          split at e
          · rename_i hw
            obtain ⟨hlo, e⟩ := skip e
            exact fin _ S hlo hm (by simp [gval, hg, hx, hw]) e
          · rename_i hw
            obtain ⟨hlo, _, x, S1, h1, h2, h3⟩ := cOpD_sound hcl hm e
            exact fin x S1 hlo h2 (by simp [gval, hg, hx, hw, h1]) h3
        · cases e
        · rename_i n1 n2 n3
          obtain ⟨hlo, e⟩ := skip e
          refine fin (.v undef) S hlo hm ?_ e
          unfold gval
          simp only [hg]
          split
          · rename_i hx; exact (n3 hx).elim
          · rename_i b hx
            cases b with
            | true => exact (n1 hx).elim
            | false => exact (n2 hx).elim
          · rfl
    · cases e

theorem iter_sound {k' : K} {N : Nat} {fn : FuncId} {inR : Bool} {b : CC} {F : List SV → St → Option (Ex × List SV × St)} {L : List (Nat × Nat)} {U : List Nat} {ρ : Nat → SV} {D : List Nat} {ds : List Df}
    (hF : ∀ vs S e vs' S', vs.length = L.length → F vs S = some (e, vs', S') → vs'.length = L.length ∧ ∀ ρ2, Agree U ρ2 (updL L vs ρ) → ∃ ρ2', evCode k' cf N fn inR b ⟨ρ2, ds⟩ S = some (e, ⟨ρ2', ds⟩, S') ∧ Agree U ρ2' (updL L vs' ρ) ∧ ∀ t, t ∉ D → ρ2' t = ρ2 t) :
    ∀ (n : Nat) (vs : List SV) (S : St) (e : Ex) (vs' : List SV) (S' : St), vs.length = L.length → iter F n vs S = some (e, vs', S') → vs'.length = L.length ∧ ∀ ρ2, Agree U ρ2 (updL L vs ρ) → ∃ ρ2', rounds (evCode k' cf N fn inR b) n ⟨ρ2, ds⟩ S = some (e, ⟨ρ2', ds⟩, S') ∧ Agree U ρ2' (updL L vs' ρ) ∧ ∀ t, t ∉ D → ρ2' t = ρ2 t
  | 0, _, _, _, _, _, _, h => by cases h
  | n + 1, vs, S, e, vs', S', hl, h => by
    simp only [iter, Option.bind_eq_some_iff] at h
    obtain ⟨⟨e1, vs1, S1⟩, h1, h2⟩ := h
    obtain ⟨hl1, hstep⟩ := hF vs S e1 vs1 S1 hl h1
    cases e1 with
    | normal =>
      obtain ⟨hl2, ih⟩ := iter_sound hF n vs1 S1 e vs' S' hl1 h2
      refine ⟨hl2, fun ρ2 ha => ?_⟩
      obtain ⟨ρ3, k1, k2, k3⟩ := hstep ρ2 ha
      obtain ⟨ρ4, k4, k5, k6⟩ := ih ρ3 k2
      refine ⟨ρ4, ?_, k5, fun t ht => by rw [k6 t ht, k3 t ht]⟩
      rw [rounds, k1]
      exact k4
    | exit id =>
      simp only [Option.some.injEq, Prod.mk.injEq] at h2
      obtain ⟨rfl, rfl, rfl⟩ := h2
      refine ⟨hl1, fun ρ2 ha => ?_⟩
      obtain ⟨ρ3, k1, k2, k3⟩ := hstep ρ2 ha
      exact ⟨ρ3, by rw [rounds, k1]; rfl, k2, k3⟩
    | ret =>
      simp only [Option.some.injEq, Prod.mk.injEq] at h2
      obtain ⟨rfl, rfl, rfl⟩ := h2
      refine ⟨hl1, fun ρ2 ha => ?_⟩
      obtain ⟨ρ3, k1, k2, k3⟩ := hstep ρ2 ha
      exact ⟨ρ3, by rw [rounds, k1]; rfl, k2, k3⟩

/-- What was told at a leaf: the frame at hand, or what a loop keeps of it. -/
theorem updL_keep {L : List (Nat × Nat)} {ρ' ρ : Nat → SV} : ∀ t, updL L (L.map fun p => ρ' p.1) ρ t = if (L.map (·.1)).contains t = true then ρ' t else ρ t := by
  induction L with
  | nil => intro t; simp [updL]
  | cons p L ih =>
    obtain ⟨a, n⟩ := p
    intro t
    simp only [List.map_cons, updL, upd]
    by_cases hta : t = a
    · subst hta; simp
    · rw [if_neg hta, ih t]
      have : (t == a) = false := by simpa using hta
      simp only [List.contains_cons, this, Bool.false_or]

theorem updL_out {L : List (Nat × Nat)} {ρ : Nat → SV} : ∀ (vs : List SV) (t : Nat), (L.map (·.1)).contains t = false → updL L vs ρ t = ρ t := by
  induction L with
  | nil => intro vs t _; cases vs <;> rfl
  | cons p L ih =>
    obtain ⟨a, n⟩ := p
    intro vs t ht
    simp only [List.map_cons, List.contains_cons, Bool.or_eq_false_iff] at ht
    cases vs with
    | nil => rfl
    | cons x xs =>
      have : t ≠ a := by simpa using ht.1
      simp only [updL, upd, if_neg this]
      exact ih xs t ht.2

theorem keepL_some {L : List (Nat × Nat)} {e : Ex} {ρ : Nat → SV} {U : List Nat} {S : St} {z : Ex × List SV × St} (h : keepL L e ρ U S = some z) : z = (e, L.map fun p => ρ p.1, S) ∧ ∀ p ∈ L, p.1 ∉ U := by
  unfold keepL at h
  split at h
  · rename_i hc
    simp only [Option.some.injEq] at h
    refine ⟨h.symm, fun p hp hU => ?_⟩
    have := List.all_eq_true.1 hc p hp
    simp [hU] at this
  · cases h

theorem filterMap_dst {ops : List COp} {t : Nat} (ht : t ∉ ops.filterMap (·.dst)) : ∀ o ∈ ops, o.dst ≠ some t := fun o ho he => ht (List.mem_filterMap.2 ⟨o, ho, he⟩)

theorem cls_defer {o : COp} (hd : isDefer o.op = true) : cls k o = .wild := by
  obtain ⟨d, op, ty, g⟩ := o
  cases op <;> simp [isDefer] at hd
  rfl

theorem calm_same (hcl : Closed k cf) : ∀ (ops : List COp) (fr : Fr) (S : St) (z : Fr × St), calm k ops = true → evOps k cf ops fr S = some z → z.2 = S
  | [], fr, S, z, _, e => by simp only [evOps, Option.some.injEq] at e; subst e; rfl
  | o :: r, fr, S, z, hc, e => by
    simp only [calm, List.all_cons, Bool.and_eq_true, decide_eq_true_eq] at hc
    obtain ⟨ho, hr⟩ := hc
    have hd : isDefer o.op = false := by
      cases hq : isDefer o.op with
      | false => rfl
      | true =>
        have := cls_defer (k := k) hq
        rw [this] at ho
        rcases ho with h | h | h <;> cases h
    rw [evOps_step hd] at e
    simp only [Option.bind_eq_some_iff] at e
    obtain ⟨p, h1, h2⟩ := e
    have hp : p.2 = S := by
      rcases ho with h | h | h
      · exact (gval_pure hcl h h1).1
      · exact gval_load h h1
      · exact gval_peek hcl h h1
    rw [calm_same hcl r _ _ z (by simpa [calm] using hr) h2, hp]

theorem gather_sound {ops : List COp} {ρ : Nat → SV} {U : List Nat} {S : St} {F : {Y : Type} → ((Nat → SV) → List Nat → St → Option Y) → Option Y} {Kn : (Nat → SV) → List Nat → St → Option Z} {z : Z} {X : (Nat → SV) → St → Prop} {ρ2 : Nat → SV} (ha : Agree U ρ2 ρ)
    (hF : ∀ {Y : Type} (K : (Nat → SV) → List Nat → St → Option Y) (z : Y), F K = some z → ∃ ρ2' S' ρ' U', X ρ2' S' ∧ Agree U' ρ2' ρ' ∧ (∀ t, t ∉ dsts (.reg ops) → ρ2' t = ρ2 t) ∧ K ρ' U' S' = some z)
    (hX : calm k ops = true → ∀ ρ' S', X ρ' S' → S' = S) (e : gather k h ops ρ U S F Kn = some z) :
    ∃ ρ2' S' ρ' U', X ρ2' S' ∧ Agree U' ρ2' ρ' ∧ (∀ t, t ∉ dsts (.reg ops) → ρ2' t = ρ2 t) ∧ Kn ρ' U' S' = some z := by
  unfold gather at e
  split at e
  · exact hF Kn z e
  · rename_i L _
    split at e
    · rename_i hcalm
      have hcalm := hcalm.1
      simp only [Option.bind_eq_some_iff] at e
      obtain ⟨vs, h1, e⟩ := e
      obtain ⟨ρ2', S', ρ', U', k1, k2, k3, k4⟩ := hF _ _ h1
      have hS := hX hcalm _ _ k1
      subst hS
      have hk : vs = L.map (fun p => ρ' p.1) ∧ ∀ p ∈ L, p.1 ∉ U' := by
        unfold keepR at k4
        split at k4
        · rename_i hc
          simp only [Option.some.injEq] at k4
          refine ⟨k4.symm, fun p hp hU => ?_⟩
          have := List.all_eq_true.1 hc p hp
          simp [hU] at this
        · cases k4
      obtain ⟨rfl, hL⟩ := hk
      have e := openL_sound L _ _ z e (by simp)
      refine ⟨ρ2', S', _, _, k1, fun t ht => ?_, k3, e⟩
      rw [updL_keep]
      cases hc : (L.map (·.1)).contains t with
      | true =>
        rw [if_pos rfl]
        have : ∃ p ∈ L, p.1 = t := by simpa using hc
        obtain ⟨p, hp, rfl⟩ := this
        exact k2 _ (hL p hp)
      | false =>
        simp only [Bool.false_eq_true, if_false]
        have hu : t ∉ U := fun hh => ht (by simp only [loopU, List.mem_filter, List.mem_append, hc, Bool.not_false, and_true]; exact .inl hh)
        have hd : t ∉ dsts (.reg ops) := fun hh => ht (by simp only [loopU, List.mem_filter, List.mem_append, hc, Bool.not_false, and_true]; exact .inr hh)
        rw [k3 t hd, ha t hu]
    · exact hF Kn z e

def Post {Z : Type} (Kn : (Nat → SV) → List Nat → St → Option Z) (Kx : Nat → (Nat → SV) → List Nat → St → Option Z) (Kr : (Nat → SV) → List Nat → St → Option Z) (e : Ex) (ρ : Nat → SV) (U : List Nat) (S : St) (z : Z) : Prop :=
  match e with
  | .normal => Kn ρ U S = some z
  | .exit id => Kx id ρ U S = some z
  | .ret => Kr ρ U S = some z

theorem cCode_sound (hcl : Closed k cf) (N : Nat) (fn : FuncId) (inR : Bool) : ∀ (c : CC) (bid : Nat) {Z : Type} (ρ : Nat → SV) (U : List Nat) (S : St) (Kn : (Nat → SV) → List Nat → St → Option Z) (Kx : Nat → (Nat → SV) → List Nat → St → Option Z) (Kr : (Nat → SV) → List Nat → St → Option Z) (z : Z),
    cCode k h cf N c bid ρ U S Kn Kx Kr = some z → ∀ ρ2 ds, Agree U ρ2 ρ →
    ∃ e ρ2' S' ρ' U', evCode k cf N fn inR c ⟨ρ2, ds⟩ S = some (e, ⟨ρ2', ds⟩, S') ∧ Agree U' ρ2' ρ' ∧ (∀ t, t ∉ dsts c → ρ2' t = ρ2 t) ∧ Post Kn Kx Kr e ρ' U' S' z := by
  intro c
  induction c with
  | skip => intro bid Z ρ U S Kn Kx Kr z e ρ2 ds ha; exact ⟨.normal, ρ2, S, ρ, U, rfl, ha, fun _ _ => rfl, e⟩
  | exit id => intro bid Z ρ U S Kn Kx Kr z e ρ2 ds ha; exact ⟨.exit id, ρ2, S, ρ, U, rfl, ha, fun _ _ => rfl, e⟩
  | ret => intro bid Z ρ U S Kn Kx Kr z e ρ2 ds ha; exact ⟨.ret, ρ2, S, ρ, U, rfl, ha, fun _ _ => rfl, e⟩
  | bad => intro bid Z ρ U S Kn Kx Kr z e; cases e
  | rangeFunc => intro bid Z ρ U S Kn Kx Kr z e; cases e
  | reg ops =>
    intro bid Z ρ U S Kn Kx Kr z e ρ2 ds ha
    obtain ⟨ρ2', S', ρ', U', h1, h2, h3, h4⟩ := gather_sound (k := k) (h := h) (X := fun ρ' S' => evOps k cf ops ⟨ρ2, ds⟩ S = some (⟨ρ', ds⟩, S')) ha (fun K z e => by
        obtain ⟨ρ2', S', ρ', U', h1, h2, h3, h4⟩ := cOps_sound ops ρ U S K z e ρ2 ds ha
        exact ⟨ρ2', S', ρ', U', h1, h2, fun t ht => h3 t (filterMap_dst ht), h4⟩) (fun hc ρ' S' hx => calm_same hcl ops _ _ _ hc hx) e
    exact ⟨.normal, ρ2', S', ρ', U', by simp [evCode, h1], h2, h3, h4⟩
  | rdraw ops deps =>
    intro bid Z ρ U S Kn Kx Kr z e ρ2 ds ha
    simp only [cCode] at e
    split at e
    · rename_i hok
      have hdef : ∀ o ∈ ops, isDefer o.op = false := by
        simp only [drawOK, Bool.and_eq_true, List.all_eq_true, Bool.not_eq_true'] at hok
        exact hok.1.2
      obtain ⟨ρ2', S', ρ', U', h1, h2, h3, h4⟩ := gather_sound (k := k) (h := h) (X := fun ρ' S' => evOpsD k cf (closeD deps) S.next (number ops) [] ⟨ρ2, ds⟩ S = some (⟨ρ', ds⟩, S')) ha (fun K z e => by
        obtain ⟨ρ2', S', ρ', U', h1, h2, h3, h4⟩ := cOpsD_sound hcl (number ops) ρ U [] S K z (Nat.le_refl _) e ρ2 ds ha
        exact ⟨ρ2', S', ρ', U', h1, h2, fun t ht => h3 t (fun o ho => filterMap_dst ht o.2 (number_mem ho)), h4⟩) (fun hc ρ' S' hx => calm_same hcl ops _ _ _ hc (by
        have := evOps_of_D _ _ _ _ _ (fun o ho => hdef o.2 (number_mem ho)) hx
        rwa [number_snd] at this)) e
      exact ⟨.normal, ρ2', S', ρ', U', by simp [evCode, evDraw, hok, h1], h2, h3, h4⟩
    · cases e
  | seq a b iha ihb =>
    intro bid Z ρ U S Kn Kx Kr z e ρ2 ds ha
    simp only [cCode] at e
    obtain ⟨e1, ρ3, S1, ρ', U', h1, h2, h3, h4⟩ := iha bid ρ U S _ Kx Kr z e ρ2 ds ha
    cases e1 with
    | normal =>
      obtain ⟨e2, ρ4, S2, ρ'', U'', k1, k2, k3, k4⟩ := ihb bid ρ' U' S1 Kn Kx Kr z h4 ρ3 ds h2
      refine ⟨e2, ρ4, S2, ρ'', U'', by simp only [evCode, h1, Option.bind_some, k1], k2, fun t ht => ?_, k4⟩
      simp only [dsts, List.mem_append, not_or] at ht
      rw [k3 t ht.2, h3 t ht.1]
    | exit id => exact ⟨.exit id, ρ3, S1, ρ', U', by simp only [evCode, h1, Option.bind_some], h2, fun t ht => h3 t (fun hh => ht (by simp [dsts, hh])), h4⟩
    | ret => exact ⟨.ret, ρ3, S1, ρ', U', by simp only [evCode, h1, Option.bind_some], h2, fun t ht => h3 t (fun hh => ht (by simp [dsts, hh])), h4⟩
  | cond x a b iha ihb =>
    intro bid Z ρ U S Kn Kx Kr z e ρ2 ds ha
    have goA : ∀ ρ', ρ' = ρ → ev ρ2 x = .v (.bool true) → cCode k h cf N a bid ρ' U S Kn Kx Kr = some z → ∃ e ρ2' S' ρ' U', evCode k cf N fn inR (.cond x a b) ⟨ρ2, ds⟩ S = some (e, ⟨ρ2', ds⟩, S') ∧ Agree U' ρ2' ρ' ∧ (∀ t, t ∉ dsts (.cond x a b) → ρ2' t = ρ2 t) ∧ Post Kn Kx Kr e ρ' U' S' z := by
      rintro ρ' rfl hx e
      obtain ⟨e1, ρ3, S1, ρ', U', h1, h2, h3, h4⟩ := iha bid ρ' U S Kn Kx Kr z e ρ2 ds ha
      exact ⟨e1, ρ3, S1, ρ', U', by simp only [evCode, hx, h1], h2, fun t ht => h3 t (fun hh => ht (by simp [dsts, hh])), h4⟩
    have goB : ∀ ρ', ρ' = ρ → ev ρ2 x = .v (.bool false) → cCode k h cf N b bid ρ' U S Kn Kx Kr = some z → ∃ e ρ2' S' ρ' U', evCode k cf N fn inR (.cond x a b) ⟨ρ2, ds⟩ S = some (e, ⟨ρ2', ds⟩, S') ∧ Agree U' ρ2' ρ' ∧ (∀ t, t ∉ dsts (.cond x a b) → ρ2' t = ρ2 t) ∧ Post Kn Kx Kr e ρ' U' S' z := by
      rintro ρ' rfl hx e
      obtain ⟨e1, ρ3, S1, ρ', U', h1, h2, h3, h4⟩ := ihb bid ρ' U S Kn Kx Kr z e ρ2 ds ha
      exact ⟨e1, ρ3, S1, ρ', U', by simp only [evCode, hx, h1], h2, fun t ht => h3 t (fun hh => ht (by simp [dsts, hh])), h4⟩
    simp only [cCode] at e
    split at e
    · rename_i t
      split at e
      · cases e
      · rename_i hU
        have hU' : t ∉ U := by simpa using hU
        rcases splitB_sound e with ⟨hx, e⟩ | ⟨hx, e⟩
        · exact goA _ (upd_same hx) (by rw [← hx]; exact ha t hU') e
        · exact goB _ (upd_same hx) (by rw [← hx]; exact ha t hU') e
    · exact goA ρ rfl rfl e
    · exact goB ρ rfl rfl e
    · cases e
  | block id b ih =>
    intro bid Z ρ U S Kn Kx Kr z e ρ2 ds ha
    simp only [cCode] at e
    obtain ⟨e1, ρ3, S1, ρ', U', h1, h2, h3, h4⟩ := ih id ρ U S Kn _ Kr z e ρ2 ds ha
    cases e1 with
    | normal => exact ⟨.normal, ρ3, S1, ρ', U', by simp only [evCode, h1, Option.map_some], h2, h3, h4⟩
    | ret => exact ⟨.ret, ρ3, S1, ρ', U', by simp only [evCode, h1, Option.map_some], h2, h3, h4⟩
    | exit id' =>
      simp only [Post] at h4
      split at h4
      · rename_i hid; exact ⟨.normal, ρ3, S1, ρ', U', by simp only [evCode, h1, Option.map_some, hid, if_true], h2, h3, h4⟩
      · rename_i hid; exact ⟨.exit id', ρ3, S1, ρ', U', by simp only [evCode, h1, Option.map_some, hid, if_false], h2, h3, h4⟩
  | loop b ih =>
    intro bid Z ρ U S Kn Kx Kr z e ρ2 ds ha
    simp only [cCode] at e
    split at e
    · rename_i hL
      have hLU : ∀ p ∈ h.live bid, p.1 ∉ U := fun p hp hU => by
        have := List.all_eq_true.1 hL p hp
        simp [hU] at this
      generalize hU1 : loopU (h.live bid) (U ++ dsts b) = U1 at e
      generalize hLL : h.live bid = L at e hL hLU hU1
      simp only [Option.bind_eq_some_iff] at e
      obtain ⟨⟨e1, vs1, S1⟩, hit, e⟩ := e
      have memU1 : ∀ t, t ∉ U1 → (L.map (·.1)).contains t = true ∨ ((L.map (·.1)).contains t = false ∧ t ∉ U ∧ t ∉ dsts b) := by
        intro t ht
        rw [← hU1] at ht
        cases hc : (L.map (·.1)).contains t with
        | true => exact .inl rfl
        | false =>
          refine .inr ⟨rfl, fun hh => ht ?_, fun hh => ht ?_⟩
          · simp only [loopU, List.mem_filter, List.mem_append, hc, Bool.not_false, and_true]; exact .inl hh
          · simp only [loopU, List.mem_filter, List.mem_append, hc, Bool.not_false, and_true]; exact .inr hh
      have main := iter_sound (k' := k) (cf := cf) (N := N) (fn := fn) (inR := inR) (b := b) (L := L) (U := U1) (ρ := ρ) (D := dsts b) (ds := ds) (fun vs S0 e0 vs0 S0' hl hF => ?_) N _ S e1 vs1 S1 (by simp) hit
      · obtain ⟨hl1, hr⟩ := main
        have ha1 : Agree U1 ρ2 (updL L (L.map fun p => ρ p.1) ρ) := by
          intro t ht
          rw [updL_keep]
          rcases memU1 t ht with hc | ⟨hc, hu, _⟩
          · rw [if_pos hc]
            have : ∃ p ∈ L, p.1 = t := by simpa using hc
            obtain ⟨p, hp, rfl⟩ := this
            exact ha _ (hLU p hp)
          · rw [hc]; exact ha t hu
        obtain ⟨ρ3, k1, k2, k3⟩ := hr ρ2 ha1
        have e := openL_sound L vs1 _ z e hl1
        simp only at e
        refine ⟨e1, ρ3, S1, updL L vs1 ρ, U1, by simp only [evCode, k1], k2, k3, ?_⟩
        cases e1 with
        | normal => cases e
        | exit id => exact e
        | ret => exact e
      · have hF := openL_sound L vs _ _ hF hl
        have inv := fun ρ2 (ha : Agree U1 ρ2 (updL L vs ρ)) => ih bid (updL L vs ρ) U1 S0 _ _ _ _ hF ρ2 ds ha
        have lens : vs0.length = L.length := by
          obtain ⟨e2, ρ3, S2, ρ', U', h1, h2, h3, h4⟩ := inv (updL L vs ρ) (fun _ _ => rfl)
          cases e2 <;> (obtain ⟨hz, _⟩ := keepL_some h4; simp only [Prod.mk.injEq] at hz; rw [hz.2.1]; simp)
        refine ⟨lens, fun ρ2 ha => ?_⟩
        obtain ⟨e2, ρ3, S2, ρ', U', h1, h2, h3, h4⟩ := inv ρ2 ha
        have hz : (e0, vs0, S0') = (e2, L.map fun p => ρ' p.1, S2) ∧ ∀ p ∈ L, p.1 ∉ U' := by
          cases e2 <;> exact keepL_some h4
        obtain ⟨hz, hk⟩ := hz
        simp only [Prod.mk.injEq] at hz
        obtain ⟨rfl, rfl, rfl⟩ := hz
        refine ⟨ρ3, h1, fun t ht => ?_, h3⟩
        rw [updL_keep]
        rcases memU1 t ht with hc | ⟨hc, hu, hd⟩
        · rw [if_pos hc]
          have : ∃ p ∈ L, p.1 = t := by simpa using hc
          obtain ⟨p, hp, rfl⟩ := this
          exact h2 _ (hk p hp)
        · rw [hc]
          simp only [Bool.false_eq_true, if_false]
          rw [h3 t hd, ha t ht, updL_out vs t hc]
    · cases e

theorem resK_sound {r : ResultVar} {ρ ρ2 : Nat → SV} {U : List Nat} {S : St} {Q : SV → Option Z} {z : Z} (ha : Agree U ρ2 ρ) (e : resK k r ρ U S Q = some z) : ∃ x, resE k r ρ2 S = some x ∧ Q x = some z := by
  cases r with
  | tmp t =>
    simp only [resK] at e
    split at e
    · cases e
    · rename_i hU
      exact ⟨ρ t, by simp only [resE, ha t (by simpa using hU)], e⟩
  | cell a t =>
    simp only [resK] at e
    split at e
    · cases e
    · rename_i hU
      simp only [Option.bind_eq_some_iff] at e
      obtain ⟨x, h1, h2⟩ := e
      exact ⟨x, by simp only [resE, ha a (by simpa using hU), h1], h2⟩

theorem resKs_sound {ρ ρ2 : Nat → SV} {U : List Nat} {S : St} (ha : Agree U ρ2 ρ) : ∀ (rs : List ResultVar) (Q : List SV → Option Z) (z : Z), resKs k rs ρ U S Q = some z → ∃ xs, (rs.mapM fun r => resE k r ρ2 S) = some xs ∧ Q xs = some z
  | [], Q, z, e => ⟨[], rfl, e⟩
  | r :: rs, Q, z, e => by
    obtain ⟨x, h1, e⟩ := resK_sound ha e
    obtain ⟨xs, h2, e⟩ := resKs_sound ha rs _ z e
    exact ⟨x :: xs, by simp [List.mapM_cons, h1, h2], e⟩

theorem finK_sound {rs : List ResultVar} {ρ ρ2 : Nat → SV} {U : List Nat} {S : St} {z : SV × St} (ha : Agree U ρ2 ρ) (e : finK k rs ρ U S = some z) : ((resultsE k rs ρ2 S).map fun x => (x, S)) = some z := by
  unfold finK at e
  unfold resultsE
  split at e
  · obtain ⟨x, h1, e⟩ := resK_sound ha e
    simp only [h1, Option.map_some]; exact e
  · rename_i hne
    obtain ⟨xs, h1, e⟩ := resKs_sound ha _ _ _ e
    split
    · rename_i r; exact (hne r rfl).elim
    · simp only [h1, Option.map_some]; exact e

/-- A body, told on. -/
theorem cBody_sound (hcl : Closed k cf) {N : Nat} {f : FuncId} {c : CF} {args : List SV} {S : St} {z : SV × St} (e : cBody k h cf N c args S = some z) : evBody k cf N f c args S = some z := by
  unfold cBody at e
  unfold evBody
  split at e
  · rename_i hl
    rw [if_pos hl]
    obtain ⟨e1, ρ2', S', ρ', U', h1, h2, h3, h4⟩ := cCode_sound hcl N f false c.body 0 _ _ _ _ _ _ _ e (initρ args) [] (fun _ _ => rfl)
    rw [h1]
    simp only [Option.bind_some]
    cases e1 with
    | normal => simp only [evDefers, Option.bind_some]; exact finK_sound h2 h4
    | ret => simp only [evDefers, Option.bind_some]; exact finK_sound h2 h4
    | exit id => cases h4
  · cases e

theorem run_Closed {k : K} (hk : KS k) : Closed k (run k) := by
  refine ⟨fun f fst cap args S x S' hp hm e => ?_, fun f fst cap args S x S' hp hm e => ?_, fun f fst cap args S x S' hg e => ?_⟩
  · obtain ⟨n, e⟩ := run_iff.1 e
    obtain ⟨h1, h2⟩ := (lvl_closed hk n).pure f fst cap args S x S' hp hm e
    exact ⟨h1, fun S2 => run_iff.2 ⟨n, h2 S2⟩⟩
  · obtain ⟨n, e⟩ := run_iff.1 e
    exact (lvl_closed hk n).peek f fst cap args S x S' hp hm e
  · obtain ⟨n, e⟩ := run_iff.1 e
    exact (lvl_closed hk n).grow f fst cap args S x S' hg e

/-- Closed calls, told on. -/
theorem go_closed {k : K} (hk : KS k) {f : FuncId} {fst cap args : List SV} {S : St} {c : CF} (h : H) (N : Nat) {z : SV × St} (hp : k.prim f = none) (hc : k.fns f = some c) (hm : k.mode f = 3) (e : cBody (k.at f) h (run k) N c ((fst ++ args ++ cap).map fun x => weak (shut x)) St0 = some z) : run k (.func f fst cap) args S = some (erase z.2 z.1, S) :=
  run_closed N hp hc hm (cBody_sound (k := k.at f) ((run_Closed hk).at f) e)

theorem go_pure {k : K} (hk : KS k) {f : FuncId} {fst cap args : List SV} {S : St} {c : CF} (h : H) (N : Nat) {z : SV × St} (hp : k.prim f = none) (hc : k.fns f = some c) (hm : k.mode f = 0) (e : cBody (k.at f) h (run k) N c ((fst ++ args ++ cap).map weak) { S with floor := S.next } = some z) : run k (.func f fst cap) args S = some (erase z.2 z.1, S) :=
  run_pure N hp hc hm (cBody_sound (k := k.at f) ((run_Closed hk).at f) e)

theorem go_plain {k : K} (hk : KS k) {f : FuncId} {fst cap args : List SV} {S : St} {c : CF} (h : H) (N : Nat) {z : SV × St} (hp : k.prim f = none) (hc : k.fns f = some c) (hm : k.mode f = 2) (e : cBody (k.at f) h (run k) N c (fst ++ args ++ cap) S = some z) : run k (.func f fst cap) args S = some z :=
  run_plain N hp hc hm (cBody_sound (k := k.at f) ((run_Closed hk).at f) e)
end
end Go.Sv
end
